/- Closed facts of the row of PropsLies. -/
import Derived.Test.YtleadljchhkiiaaGreatDoorRows
import Derived.JoinedCond
set_option linter.unusedSimpArgs false
set_option linter.unusedVariables false
namespace Go.Proofs.YtleadljchhkiiaaGreatDoor
open Go
set_option maxRecDepth 100000
theorem propsLies_k12 : (((Rows.propsLiesRow).named == Tryz.prog.varsNamed 4)) = true := by kernel_rfl
end Go.Proofs.YtleadljchhkiiaaGreatDoor
