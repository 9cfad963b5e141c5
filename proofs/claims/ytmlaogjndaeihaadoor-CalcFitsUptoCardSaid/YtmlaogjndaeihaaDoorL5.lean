/- The plain laws of CalcChains: AND is the least of a chain. -/
import Derived.Test.YtmlaogjndaeihaaDoorL3
namespace Go.Proofs.YtmlaogjndaeihaaDoor
open Go Go.Ab
def keyO (o : Outv) : Int := if o.err ≠ 0 then o.err else if o.v.kind = 0 then 1 else if o.v.int = 0 then 0 else 10
def unkey (k : Int) : Outv := if k = 0 then boolO false else if k = 1 then nullO else if k = 10 then trueO else errO k
theorem unkey_key {o : Outv} (h : truthO o = true) : unkey (keyO o) = o := by
  rcases truth_cases h with ⟨e, rfl, h2⟩ | rfl | rfl | rfl
  · have e0 : e ≠ 0 := by omega
    have e1 : e ≠ 1 := by omega
    have e2 : e ≠ 10 := by omega
    simp [keyO, unkey, e0, e1, e2]
  · rfl
  · rfl
  · rfl
theorem key_le {o : Outv} (h : truthO o = true) : keyO o ≤ 10 := by
  rcases truth_cases h with ⟨e, rfl, h2⟩ | rfl | rfl | rfl
  · have e0 : e ≠ 0 := by omega
    simp only [keyO, ne_eq, e0, not_false_eq_true, if_true]; omega
  · decide
  · decide
  · decide
theorem rk_errO {e : Int} (h : e ≠ 0) : (errO e).rk = 2 := by unfold Outv.rk rk; rw [if_pos h]
theorem key_errO {e : Int} (h : e ≠ 0) : keyO (errO e) = e := by unfold keyO; rw [if_pos h]
theorem key_and {b o : Outv} (hb : truthO b = true) (ho : truthO o = true) : keyO (andB b o) = min (keyO b) (keyO o) := by
  have key : ∀ b o : Outv, ((o.rk < b.rk ∨ (o.rk = b.rk ∧ o.rk = 2 ∧ o.err < b.err)) → keyO o ≤ keyO b) → (¬(o.rk < b.rk ∨ (o.rk = b.rk ∧ o.rk = 2 ∧ o.err < b.err)) → keyO b ≤ keyO o) → keyO (andB b o) = min (keyO b) (keyO o) := by
    intro b o h1 h2
    unfold andB
    split
    · rename_i h; have := h1 h; omega
    · rename_i h; have := h2 h; omega
  have k1 : keyO nullO = 1 := rfl
  have k2 : keyO (boolO false) = 0 := rfl
  have k3 : keyO trueO = 10 := rfl
  have r1 : nullO.rk = 1 := rfl
  have r2 : (boolO false).rk = 0 := rfl
  have r3 : trueO.rk = 3 := rfl
  refine key b o ?_ ?_ <;>
  · rcases truth_cases hb with ⟨e, rfl, h2⟩ | rfl | rfl | rfl <;> rcases truth_cases ho with ⟨e', rfl, h2'⟩ | rfl | rfl | rfl <;>
      simp only [k1, k2, k3, r1, r2, r3] <;>
      (try rw [rk_errO (e := e) (by omega), key_errO (e := e) (by omega)]) <;> (try rw [rk_errO (e := e') (by omega), key_errO (e := e') (by omega)]) <;> omega
theorem truth_and {b o : Outv} (hb : truthO b = true) (ho : truthO o = true) : truthO (andB b o) = true := by
  unfold andB; split <;> assumption
theorem foldl_and (l : List Outv) : ∀ b : Outv, truthO b = true → (∀ o ∈ l, truthO o = true) → truthO (l.foldl andB b) = true ∧ keyO (l.foldl andB b) = (l.map keyO).foldl min (keyO b) := by
  induction l with
  | nil => intro b hb _; exact ⟨hb, rfl⟩
  | cons o l ih =>
    intro b hb hl
    have ho := hl o (by simp)
    have := ih (andB b o) (truth_and hb ho) (fun x hx => hl x (List.mem_cons_of_mem _ hx))
    rw [key_and hb ho] at this
    exact this
def minK (l : List Outv) : Int := (l.map keyO).foldl min 10
theorem and_truth {l : List Outv} (h : ∀ o ∈ l, truthO o = true) : truthO (andO l) = true ∧ keyO (andO l) = minK l := foldl_and l trueO rfl h
theorem and_eq {l : List Outv} (h : ∀ o ∈ l, truthO o = true) : andO l = unkey (minK l) := by
  obtain ⟨h1, h2⟩ := and_truth h
  rw [← h2, unkey_key h1]
theorem foldl_min (l : List Int) : ∀ a b : Int, l.foldl min (min a b) = min a (l.foldl min b) := by
  induction l with
  | nil => intro a b; rfl
  | cons x l ih => intro a b; simp only [List.foldl_cons]; rw [show min (min a b) x = min a (min b x) by omega, ih]
theorem minK_le (l : List Outv) : minK l ≤ 10 := by
  unfold minK
  have := foldl_min (l.map keyO) 10 10
  rw [show min (10 : Int) 10 = 10 from rfl] at this
  omega
theorem minK_append (a b : List Outv) : minK (a ++ b) = min (minK a) (minK b) := by
  have h := minK_le a
  unfold minK at h ⊢
  rw [List.map_append, List.foldl_append]
  have := foldl_min (b.map keyO) ((a.map keyO).foldl min 10) 10
  rw [show min ((a.map keyO).foldl min 10) 10 = (a.map keyO).foldl min 10 by omega] at this
  exact this
theorem minK_reverse (l : List Outv) : minK l.reverse = minK l := by
  induction l with
  | nil => rfl
  | cons x l ih =>
    rw [List.reverse_cons, minK_append, ih, show x :: l = [x] ++ l from rfl, minK_append]
    omega
theorem and_reverse {l : List Outv} (h : ∀ o ∈ l, truthO o = true) : andO l.reverse = andO l := by
  rw [and_eq h, and_eq (fun o ho => h o (List.mem_reverse.1 ho)), minK_reverse]
theorem and_nested {a b : List Outv} (ha : ∀ o ∈ a, truthO o = true) (hb : ∀ o ∈ b, truthO o = true) : andO [andO b, andO a] = andO (a ++ b) := by
  obtain ⟨ta, ka⟩ := and_truth ha
  obtain ⟨tb, kb⟩ := and_truth hb
  rw [and_eq (l := a ++ b) (by intro o ho; rcases List.mem_append.1 ho with h | h; exact ha o h; exact hb o h), and_eq (l := [andO b, andO a]) (by intro o ho; rcases List.mem_cons.1 ho with rfl | ho; exact tb; rw [List.mem_singleton.1 ho]; exact ta), minK_append]
  have e : minK [andO b, andO a] = min (minK a) (minK b) := by
    have := minK_le b
    rw [show minK [andO b, andO a] = min (min 10 (keyO (andO b))) (keyO (andO a)) from rfl, ka, kb]
    omega
  rw [e]
theorem not_cases {o : Outv} (h : truthO o = true) : truthO (notO o) = true ∧ notO (notO o) = o := by
  rcases truth_cases h with ⟨e, rfl, h2⟩ | rfl | rfl | rfl
  · have e0 : e ≠ 0 := by omega
    have : notO (errO e) = errO e := by simp [notO, notN, rk, e0]
    rw [this, this]
    exact ⟨h, rfl⟩
  · exact ⟨rfl, rfl⟩
  · exact ⟨rfl, rfl⟩
  · exact ⟨rfl, rfl⟩
theorem map_not {l : List Outv} (h : ∀ o ∈ l, truthO o = true) : ∀ o ∈ l.map notO, truthO o = true := by
  intro o ho
  obtain ⟨x, hx, rfl⟩ := List.mem_map.1 ho
  exact (not_cases (h x hx)).1
theorem map_not_not {l : List Outv} (h : ∀ o ∈ l, truthO o = true) : (l.map notO).map notO = l := by
  rw [List.map_map]
  conv => rhs; rw [← List.map_id l]
  exact List.map_congr_left (fun o ho => (not_cases (h o ho)).2)
theorem or_truth {l : List Outv} (h : ∀ o ∈ l, truthO o = true) : truthO (orO l) = true := (not_cases (and_truth (map_not h)).1).1
theorem or_reverse {l : List Outv} (h : ∀ o ∈ l, truthO o = true) : orO l.reverse = orO l := by
  unfold orO
  rw [List.map_reverse, and_reverse (map_not h)]
theorem or_nested {a b : List Outv} (ha : ∀ o ∈ a, truthO o = true) (hb : ∀ o ∈ b, truthO o = true) : orO [orO b, orO a] = orO (a ++ b) := by
  have e1 : notO (orO a) = andO (a.map notO) := (not_cases (and_truth (map_not ha)).1).2
  have e2 : notO (orO b) = andO (b.map notO) := (not_cases (and_truth (map_not hb)).1).2
  rw [orO, List.map_cons, List.map_cons, List.map_nil, e1, e2, and_nested (map_not ha) (map_not hb), orO, List.map_append]
theorem morgan_or {l : List Outv} (h : ∀ o ∈ l, truthO o = true) : orO (l.map notO) = notO (andO l) := by rw [orO, map_not_not h]
theorem morgan_and {l : List Outv} (h : ∀ o ∈ l, truthO o = true) : notO (orO l) = andO (l.map notO) := (not_cases (and_truth (map_not h)).1).2
end Go.Proofs.YtmlaogjndaeihaaDoor
