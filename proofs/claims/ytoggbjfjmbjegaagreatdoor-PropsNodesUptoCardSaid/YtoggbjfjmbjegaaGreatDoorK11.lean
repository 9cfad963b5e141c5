/- PropsNodes: the domain of any operator over columns of any domains is what the document says; for arguments of bulk at most 1048576. -/
import Derived.Test.YtoggbjfjmbjegaaGreatDoorKB
import Derived.Test.YtoggbjfjmbjegaaGreatDoorS6
set_option linter.unusedSimpArgs false
set_option linter.unusedVariables false
namespace Go.Proofs.YtoggbjfjmbjegaaGreatDoor
open Go Go.Ab
theorem propsNodes_card : Rows.PropsNodesUptoCardSaid :=
  Claim7.holds_tied_plain_at .later [] [.data, .data, .listed, .data, .pinned, .pinned] true (true, "9085bee1da7a9b5aca3cd766efff942ca7bb6e0aa797e561e9ca36ab03b4d387") false
    propsNodesUpto_holds (fun _ h => by cases h) (by kernel_rfl) (fun _ h => by cases h) propsNodesUpto_row_tie rfl ⟨rfl, rfl⟩ seatMain rfl
    (fun f fn hf hfn => by
      obtain rfl : f = 3 := Option.some.inj ((show Tryz.prog.funcNamed "jointer/jointerlaw12.PropsNodes" = some 3 by kernel_rfl).symm.trans hf) |>.symm
      obtain rfl : fn = Tryz.f3 := (Option.some.inj (Tryz.func3.symm.trans hfn)).symm
      refine ⟨seatLooks, fun j t ht => ?_⟩
      rw [Tryz.params3] at ht
      match j, ht with
      | 0, ht => cases ht; exact (show Tryz.prog.wantsStandIn 22 = false by kernel_rfl)
      | 1, ht => cases ht; exact (show Tryz.prog.wantsStandIn 23 = false by kernel_rfl)
      | n + 2, ht => simp at ht)
    (goesBy_none seatGoes _)
#print axioms propsNodes_card
end Go.Proofs.YtoggbjfjmbjegaaGreatDoor

