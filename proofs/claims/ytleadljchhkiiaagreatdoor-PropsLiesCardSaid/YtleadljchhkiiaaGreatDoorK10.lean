/- PropsLies: whether any out lies in any domain is what the document says, in the program as in the document. -/
import Derived.Test.YtleadljchhkiiaaGreatDoorK10b
import Derived.Test.YtleadljchhkiiaaGreatDoorS6
set_option linter.unusedSimpArgs false
set_option linter.unusedVariables false
namespace Go.Proofs.YtleadljchhkiiaaGreatDoor
open Go Go.Ab
theorem propsLies_card : Rows.PropsLiesCardSaid :=
  Claim7.holds_tied_plain_at .later [] [.data, .data, .listed, .data, .pinned, .pinned] true (true, "5ddf6238c853f2ad822c116c3cb461bf613055c58ae0901cda810bbeea2694ba") false
    propsLies_holds (fun _ h => by cases h) (by kernel_rfl) (fun _ h => by cases h) propsLies_row_tie rfl ⟨rfl, rfl⟩ seatMain rfl
    (fun f fn hf hfn => by
      obtain rfl : f = 4 := Option.some.inj ((show Tryz.prog.funcNamed "jointer/jointerlaw12.PropsLies" = some 4 by kernel_rfl).symm.trans hf) |>.symm
      obtain rfl : fn = Tryz.f4 := (Option.some.inj (Tryz.func4.symm.trans hfn)).symm
      refine ⟨seatLooks, fun j t ht => ?_⟩
      rw [Tryz.params4] at ht
      match j, ht with
      | 0, ht => cases ht; exact (show Tryz.prog.wantsStandIn 42 = false by kernel_rfl)
      | 1, ht => cases ht; exact (show Tryz.prog.wantsStandIn 33 = false by kernel_rfl)
      | n + 2, ht => simp at ht)
    (goesBy_none seatGoes _)
#print axioms propsLies_card
end Go.Proofs.YtleadljchhkiiaaGreatDoor

