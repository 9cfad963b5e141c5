/- Closed facts of the row of PropsNodesUpto. -/
import Derived.Test.YtoggbjfjmbjegaaGreatDoorRows
import Derived.JoinedCond
set_option linter.unusedSimpArgs false
set_option linter.unusedVariables false
namespace Go.Proofs.YtoggbjfjmbjegaaGreatDoor
open Go
set_option maxRecDepth 100000
theorem propsNodesUpto_k9 : (((Rows.propsNodesUptoRow).inPlace == Tryz.prog.inPlace 3)) = true := by kernel_rfl
end Go.Proofs.YtoggbjfjmbjegaaGreatDoor
