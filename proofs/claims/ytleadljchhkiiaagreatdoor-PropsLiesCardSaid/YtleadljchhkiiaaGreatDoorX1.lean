/- The example's first answer: a domain. -/
import Derived.Test.YtleadljchhkiiaaGreatDoorX0
set_option linter.unusedSimpArgs false
set_option linter.unusedVariables false
namespace Go.Proofs.YtleadljchhkiiaaGreatDoor
open Go Go.Ab
theorem ex_domain : NCalls Tryz.prog 7 [schA, divA, rows] domR := evalNJ (L := 300) (n := 60) knownJ_sound (by kernel_rfl)
end Go.Proofs.YtleadljchhkiiaaGreatDoor
