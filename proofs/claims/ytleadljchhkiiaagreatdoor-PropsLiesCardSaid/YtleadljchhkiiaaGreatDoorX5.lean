/- Of the example's fourth answer: the scheme is valid, the plan is in order. -/
import Derived.Test.YtleadljchhkiiaaGreatDoorX0
set_option linter.unusedSimpArgs false
set_option linter.unusedVariables false
namespace Go.Proofs.YtleadljchhkiiaaGreatDoor
open Go Go.Ab
theorem ex_valid : ACalls Tryz.prog 41 [schA] (.bool true) := evalJ (L := 100) (n := 60) knownJ_sound (by kernel_rfl)
theorem ex_check : ACalls Tryz.prog 52 [schA, .agg filtA, .nils] ok0 := evalJ (L := 300) (n := 60) knownJ_sound (by kernel_rfl)
theorem ex_domains : NCalls Tryz.prog 102 [.agg [schA, rows], condF] domsR := evalNJ (L := 300) (n := 60) knownJ_sound (by kernel_rfl)
theorem ex_refined : NCalls Tryz.prog 108 [.agg [schA, rows], condF] (.slice rowF) := evalNJ (L := 300) (n := 60) knownJ_sound (by kernel_rfl)
theorem ex_pinned : NCalls Tryz.prog 395 [condF, set0] (.tuple [set1, set1]) := evalNJ (L := 300) (n := 60) knownJ_sound (by kernel_rfl)
theorem ex_plan : ACalls Tryz.prog 196 [.agg [schA, .nils], .agg scanA] planR := evalJ (L := 300) (n := 60) knownJ_sound (by kernel_rfl)
end Go.Proofs.YtleadljchhkiiaaGreatDoor
