/- The example's third answer: whether a condition rejects a column. -/
import Derived.Test.YtoggbjfjmbjegaaGreatDoorX0
set_option linter.unusedSimpArgs false
set_option linter.unusedVariables false
namespace Go.Proofs.YtoggbjfjmbjegaaGreatDoor
open Go Go.Ab
theorem ex_rejects : NCalls Tryz.prog 19 [schA, gtA, rows, .slice [[.int .i64 1]]] rejR := evalNJ (L := 300) (n := 60) knownJ_sound (by kernel_rfl)
end Go.Proofs.YtoggbjfjmbjegaaGreatDoor
