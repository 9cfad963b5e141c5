/- Closed facts of the row of PropsLies. -/
import Derived.Test.YtleadljchhkiiaaGreatDoorRows
import Derived.JoinedCond
set_option linter.unusedSimpArgs false
set_option linter.unusedVariables false
namespace Go.Proofs.YtleadljchhkiiaaGreatDoor
open Go
set_option maxRecDepth 100000
theorem propsLies_k22 : (((Rows.propsLiesRow).plainKeys == Tryz.prog.plainKeys)) = true := by kernel_rfl
theorem propsLies_k23 : ((Rows.propsLiesRow).shortTexts.isNone) = true := by kernel_rfl
theorem propsLies_k24 : (Tryz.prog.stopsHeard) = true := by kernel_rfl
theorem propsLies_k25 : (Tryz.prog.mayEnter) = true := by kernel_rfl
theorem propsLies_k26 : (((Rows.propsLiesRow).lifted == Tryz.prog.liftsFinal)) = true := by kernel_rfl
end Go.Proofs.YtleadljchhkiiaaGreatDoor
