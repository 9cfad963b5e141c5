/- The example's fifth answer: what is known of a scan. -/
import Derived.Test.YtleadljchhkiiaaGreatDoorX0
set_option linter.unusedSimpArgs false
set_option linter.unusedVariables false
namespace Go.Proofs.YtleadljchhkiiaaGreatDoor
open Go Go.Ab
theorem ex_scan : NCalls Tryz.prog 23 [schA, .agg scanA, .nils] scanR := evalNJ (L := 300) (n := 60) knownJ_sound (by kernel_rfl)
end Go.Proofs.YtleadljchhkiiaaGreatDoor
