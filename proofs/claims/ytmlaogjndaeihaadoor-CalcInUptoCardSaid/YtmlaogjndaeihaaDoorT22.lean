/- AND, OR over conditions, as nodes. -/
import Derived.Test.YtmlaogjndaeihaaDoorT17
namespace Go.Proofs.YtmlaogjndaeihaaDoor
open Go Go.Ab
theorem node_ands (os : List Outv) (h : ∀ o ∈ os, truthO o = true) (hi : ∀ o ∈ os, o.In) (hl : os.length < 2 ^ 40) : ACalls Tryd.prog 15 [.int .u8 23, outs os] (.agg (andO os).enc) :=
  node_and os hl (andO os) (cond_and h hi (by omega))
theorem node_ors (os : List Outv) (h : ∀ o ∈ os, truthO o = true) (hi : ∀ o ∈ os, o.In) (hl : os.length < 2 ^ 40) : ACalls Tryd.prog 15 [.int .u8 24, outs os] (.agg (orO os).enc) := by
  refine node_or os hl (orO os) ?_
  rw [nodeC, if_neg (by
    rw [Bool.not_eq_false, List.all_eq_true]
    exact fun o ho => truth_ok (h o ho) (hi o ho)), if_neg (by rw [truths_kinds h 24 (.inr rfl) (by omega)]; simp), if_neg (by decide), if_pos rfl]
theorem truth_In {o : Outv} (h : truthO o = true) : o.In := by
  rcases truth_cases h with ⟨e, rfl, h2⟩ | rfl | rfl | rfl
  · exact ⟨⟨Int.le_refl 0, ⟨by show (-9223372036854775808 : Int) ≤ 0; decide, by show (0 : Int) ≤ 9223372036854775807; decide⟩, Nat.zero_le _⟩, by show -9223372036854775808 ≤ e; omega, by show e ≤ 9223372036854775807; omega⟩
  · exact ⟨⟨by decide, by decide, by decide⟩, by decide, by decide⟩
  · exact ⟨⟨by decide, by decide, by decide⟩, by decide, by decide⟩
  · exact ⟨⟨by decide, by decide, by decide⟩, by decide, by decide⟩
end Go.Proofs.YtmlaogjndaeihaaDoor
