/- The plain laws of CASE and COALESCE. -/
import Derived.Test.YtmlaogjndaeihaaDoorL3
namespace Go.Proofs.YtmlaogjndaeihaaDoor
open Go Go.Ab
theorem node_err {op : Int} {os : List Outv} (r : Outv) (h : ∀ S, nodeC op os S = errO 1 ∨ nodeC op os S = r) : (nodeC op os nullO).err ≠ 1 → nodeC op os nullO = r := by
  intro he
  rcases h nullO with h | h
  · rw [h] at he; exact absurd rfl he
  · exact h
theorem node_26 (os : List Outv) (S : Outv) : nodeC 26 os S = errO 1 ∨ nodeC 26 os S = firstO os := by
  unfold nodeC
  split
  · exact .inl rfl
  · split
    · exact .inl rfl
    · exact .inr rfl
theorem node_25 (os : List Outv) (S : Outv) : nodeC 25 os S = errO 1 ∨ nodeC 25 os S = chooseO os := by
  unfold nodeC
  split
  · exact .inl rfl
  · split
    · exact .inl rfl
    · exact .inr rfl
theorem firstO_append (bs : List Outv) : ∀ ks : List Outv, firstO ks ≠ nullO → firstO (ks ++ bs) = firstO ks
  | [], h => absurd rfl h
  | x :: ks, h => by
    rw [List.cons_append, firstO, firstO]
    rw [firstO] at h
    split
    · rfl
    · rename_i hz
      rw [if_neg hz] at h
      exact firstO_append bs ks h
theorem lazy_first (ks bs : List Outv) (h1 : (nodeC 26 ks nullO).err ≠ 1) (h2 : (nodeC 26 (ks ++ bs) nullO).err ≠ 1) (h3 : (nodeC 26 ks nullO).err ≠ 0 ∨ (nodeC 26 ks nullO).v.kind ≠ 0) : nodeC 26 (ks ++ bs) nullO = nodeC 26 ks nullO := by
  have e1 := node_err _ (node_26 ks) h1
  have e2 := node_err _ (node_26 (ks ++ bs)) h2
  rw [e1] at h3 ⊢
  rw [e2]
  refine firstO_append bs ks fun e => ?_
  rw [e] at h3
  simp at h3
theorem choose_append (v : Outv) (bs : List Outv) : ∀ (n : Nat) (ks : List Outv), ks.length = 2 * n → chooseO (ks ++ trueO :: v :: bs) = chooseO (ks ++ [trueO, v])
  | 0, ks, h => by
    obtain rfl := List.eq_nil_of_length_eq_zero (by omega)
    have : trueO.rk = 3 := rfl
    simp [chooseO, this]
  | n + 1, ks, h => by
    match ks, h with
    | c :: w :: ks, h =>
      have := choose_append v bs n ks (by simp at h; omega)
      simp only [List.cons_append, chooseO, this]
    | [c], h => simp at h; omega
theorem lazy_choose (ks bs : List Outv) (v : Outv) (n : Nat) (hn : ks.length = 2 * n) (h1 : (nodeC 25 (ks ++ [trueO, v]) nullO).err ≠ 1) (h2 : (nodeC 25 (ks ++ trueO :: v :: bs) nullO).err ≠ 1) :
    nodeC 25 (ks ++ trueO :: v :: bs) nullO = nodeC 25 (ks ++ [trueO, v]) nullO := by
  rw [node_err _ (node_25 _) h1, node_err _ (node_25 _) h2]
  exact choose_append v bs n ks hn
end Go.Proofs.YtmlaogjndaeihaaDoor
