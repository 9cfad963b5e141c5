/- Of the example's fourth answer: the scheme is valid, the plan is in order. -/
import Derived.Test.YtoggbjfjmbjegaaGreatDoorX0
set_option linter.unusedSimpArgs false
set_option linter.unusedVariables false
namespace Go.Proofs.YtoggbjfjmbjegaaGreatDoor
open Go Go.Ab
theorem ex_valid : ACalls Tryz.prog 33 [schA] (.bool true) := evalJ (L := 100) (n := 60) knownJ_sound (by kernel_rfl)
theorem ex_check : ACalls Tryz.prog 45 [schA, .agg filtA, .nils] ok0 := evalJ (L := 300) (n := 60) knownJ_sound (by kernel_rfl)
theorem ex_domains : NCalls Tryz.prog 87 [.agg [schA, rows], condF] domsR := evalNJ (L := 300) (n := 60) knownJ_sound (by kernel_rfl)
theorem ex_refined : NCalls Tryz.prog 93 [.agg [schA, rows], condF] (.slice rowF) := evalNJ (L := 300) (n := 60) knownJ_sound (by kernel_rfl)
theorem ex_pinned : NCalls Tryz.prog 345 [condF, set0] (.tuple [set1, set1]) := evalNJ (L := 300) (n := 60) knownJ_sound (by kernel_rfl)
theorem ex_plan : ACalls Tryz.prog 170 [.agg [schA, .nils], .agg scanA] planR := evalJ (L := 300) (n := 60) knownJ_sound (by kernel_rfl)
end Go.Proofs.YtoggbjfjmbjegaaGreatDoor
