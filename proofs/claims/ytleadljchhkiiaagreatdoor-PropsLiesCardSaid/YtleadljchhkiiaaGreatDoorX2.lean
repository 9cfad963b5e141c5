/- The example's second answer: a refined row. -/
import Derived.Test.YtleadljchhkiiaaGreatDoorX0
set_option linter.unusedSimpArgs false
set_option linter.unusedVariables false
namespace Go.Proofs.YtleadljchhkiiaaGreatDoor
open Go Go.Ab
theorem ex_refine : NCalls Tryz.prog 21 [schA, neA, rows] refR := evalNJ (L := 300) (n := 60) knownJ_sound (by kernel_rfl)
end Go.Proofs.YtleadljchhkiiaaGreatDoor
