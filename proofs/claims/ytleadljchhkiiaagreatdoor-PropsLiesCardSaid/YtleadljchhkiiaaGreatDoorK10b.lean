/- PropsLies: the row. -/
import Derived.Test.YtleadljchhkiiaaGreatDoorK10a
import Derived.Test.YtleadljchhkiiaaGreatDoorKLb
set_option linter.unusedSimpArgs false
set_option linter.unusedVariables false
namespace Go.Proofs.YtleadljchhkiiaaGreatDoor
open Go Go.Ab
theorem propsLies_holds : Rows.PropsLiesSaid :=
  OpenClaim.holds_of_cond 4 Tryz.f4 rfl rfl rfl rfl rfl rfl rfl ⟨rfl, rfl, rfl, rfl, rfl⟩ rfl rfl rfl rfl rfl (by kernel_rfl) Tryz.func4 propsLies_facts
    (of_decide_eq_true (by kernel_rfl)) (by unfold Func.isWrapper; first | (rw [if_pos (by decide +kernel)]; kernel_rfl) | (rw [if_neg (by decide +kernel)]; exact ⟨rfl, rfl⟩))
    (fun os started H enc _ F => propsLies_returns os started H enc F)
end Go.Proofs.YtleadljchhkiiaaGreatDoor

