/- The example's fifth answer: what is known of a scan. -/
import Derived.Test.YtoggbjfjmbjegaaGreatDoorX0
set_option linter.unusedSimpArgs false
set_option linter.unusedVariables false
namespace Go.Proofs.YtoggbjfjmbjegaaGreatDoor
open Go Go.Ab
theorem ex_scan : NCalls Tryz.prog 20 [schA, .agg scanA, .nils] scanR := evalNJ (L := 300) (n := 60) knownJ_sound (by kernel_rfl)
end Go.Proofs.YtoggbjfjmbjegaaGreatDoor
