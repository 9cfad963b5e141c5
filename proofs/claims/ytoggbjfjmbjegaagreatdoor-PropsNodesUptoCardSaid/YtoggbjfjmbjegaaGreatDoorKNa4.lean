/- Closed facts of the row of PropsNodesUpto. -/
import Derived.Test.YtoggbjfjmbjegaaGreatDoorRows
import Derived.JoinedCond
set_option linter.unusedSimpArgs false
set_option linter.unusedVariables false
namespace Go.Proofs.YtoggbjfjmbjegaaGreatDoor
open Go
set_option maxRecDepth 100000
theorem propsNodesUpto_k12 : (((Rows.propsNodesUptoRow).named == Tryz.prog.varsNamed 3)) = true := by kernel_rfl
end Go.Proofs.YtoggbjfjmbjegaaGreatDoor
