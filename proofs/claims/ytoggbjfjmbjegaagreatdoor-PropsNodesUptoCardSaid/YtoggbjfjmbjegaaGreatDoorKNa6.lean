/- Closed facts of the row of PropsNodesUpto. -/
import Derived.Test.YtoggbjfjmbjegaaGreatDoorRows
import Derived.JoinedCond
set_option linter.unusedSimpArgs false
set_option linter.unusedVariables false
namespace Go.Proofs.YtoggbjfjmbjegaaGreatDoor
open Go
set_option maxRecDepth 100000
theorem propsNodesUpto_k22 : (((Rows.propsNodesUptoRow).plainKeys == Tryz.prog.plainKeys)) = true := by kernel_rfl
theorem propsNodesUpto_k23 : ((Rows.propsNodesUptoRow).shortTexts.isNone) = true := by kernel_rfl
theorem propsNodesUpto_k24 : (Tryz.prog.stopsHeard) = true := by kernel_rfl
theorem propsNodesUpto_k25 : (Tryz.prog.mayEnter) = true := by kernel_rfl
theorem propsNodesUpto_k26 : (((Rows.propsNodesUptoRow).lifted == Tryz.prog.liftsFinal)) = true := by kernel_rfl
end Go.Proofs.YtoggbjfjmbjegaaGreatDoor
