/- The example's first answer: a domain. -/
import Derived.Test.YtoggbjfjmbjegaaGreatDoorX0
set_option linter.unusedSimpArgs false
set_option linter.unusedVariables false
namespace Go.Proofs.YtoggbjfjmbjegaaGreatDoor
open Go Go.Ab
theorem ex_domain : NCalls Tryz.prog 6 [schA, divA, rows] domR := evalNJ (L := 300) (n := 60) knownJ_sound (by kernel_rfl)
end Go.Proofs.YtoggbjfjmbjegaaGreatDoor
