/- The example's second answer: a refined row. -/
import Derived.Test.YtoggbjfjmbjegaaGreatDoorX0
set_option linter.unusedSimpArgs false
set_option linter.unusedVariables false
namespace Go.Proofs.YtoggbjfjmbjegaaGreatDoor
open Go Go.Ab
theorem ex_refine : NCalls Tryz.prog 18 [schA, neA, rows] refR := evalNJ (L := 300) (n := 60) knownJ_sound (by kernel_rfl)
end Go.Proofs.YtoggbjfjmbjegaaGreatDoor
