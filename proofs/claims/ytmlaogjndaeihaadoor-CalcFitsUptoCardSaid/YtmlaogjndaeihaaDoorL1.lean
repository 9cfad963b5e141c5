/- The plain law of CalcKinds: both ways to tell a kind are one. -/
import Derived.Test.YtmlaogjndaeihaaDoorT6
namespace Go.Proofs.YtmlaogjndaeihaaDoor
open Go Go.Ab
theorem foldl_mx_ge (l : List Int) : ∀ a : Int, a ≤ l.foldl mx a := by
  induction l with
  | nil => intro a; simp
  | cons x r ih =>
    intro a
    have := ih (mx a x)
    simp only [List.foldl_cons]
    have h2 : a ≤ mx a x := by unfold mx; split <;> omega
    omega
theorem agree_self (a : Int) : agree a a = true := by simp [agree]
theorem agree_zero (a : Int) : agree 0 a = true := by simp [agree]
theorem agree_zero' (a : Int) : agree a 0 = true := by simp [agree]
theorem agree_comm (a b : Int) : agree a b = agree b a := by
  unfold agree; rw [Bool.eq_iff_iff]; simp; omega
theorem agree_iff (a b : Int) : agree a b = true ↔ a = b ∨ a = 0 ∨ b = 0 := by simp [agree, or_assoc]
theorem commonGo_iff (l : List Int) : ∀ a : Int, 0 ≤ a → (∀ x ∈ l, 0 ≤ x) →
    ((commonGo a l).2 = true ↔ agree a (l.foldl mx a) = true ∧ ∀ x ∈ l, agree x (l.foldl mx a) = true) ∧ ((commonGo a l).2 = true → (commonGo a l).1 = l.foldl mx a) := by
  induction l with
  | nil => intro a _ _; simp [commonGo, agree_self]
  | cons x r ih =>
    intro a ha hl
    have hx := hl x (by simp)
    rw [commonGo]
    split
    · rename_i hax
      have hM : (if a = 0 then x else a) = mx a x := by
        rw [agree_iff] at hax
        unfold mx
        split <;> split <;> omega
      obtain ⟨h1, h2⟩ := ih (if a = 0 then x else a) (by split <;> omega) (fun y hy => hl y (by simp [hy]))
      rw [hM] at h1 h2
      rw [hM]
      simp only [List.foldl_cons]
      refine ⟨?_, h2⟩
      rw [h1]
      simp only [List.mem_cons, forall_eq_or_imp]
      have : agree (mx a x) (r.foldl mx (mx a x)) = true ↔ agree a (r.foldl mx (mx a x)) = true ∧ agree x (r.foldl mx (mx a x)) = true := by
        simp only [agree_iff] at hax ⊢
        rw [← hM]
        split <;> omega
      rw [this, and_assoc]
    · rename_i hax
      simp only [Bool.false_eq_true, false_iff, false_implies, and_true, not_and, List.foldl_cons]
      intro h3 h4
      have h5 := h4 x (by simp)
      have h6 := foldl_mx_ge r (mx a x)
      rw [agree_iff] at hax h3 h5
      have h7 : a ≤ mx a x ∧ x ≤ mx a x := by unfold mx; split <;> omega
      omega
theorem commonC_eq (l : List Int) (hl : ∀ x ∈ l, 0 ≤ x) : (commonC l).2 = (commonGo 0 l).2 ∧ ((commonC l).2 = true → (commonC l).1 = (commonGo 0 l).1) := by
  obtain ⟨h1, h2⟩ := commonGo_iff l 0 (by omega) hl
  have e : (commonC l).2 = (commonGo 0 l).2 := by
    rw [Bool.eq_iff_iff, h1]
    simp [commonC, maxOf, agree_zero]
  refine ⟨e, fun h => ?_⟩
  rw [e] at h
  rw [h2 h]
  rfl
theorem commonGo_pos (t : Int) (ht : t ≠ 0) (l : List Int) : commonGo t l = if (l.all fun x => agree x t) = true then (t, true) else (0, false) := by
  induction l with
  | nil => simp [commonGo]
  | cons x r ih =>
    rw [commonGo, if_neg ht, ih, agree_comm t x]
    by_cases h : agree x t = true
    · simp [h]
    · simp [h]
theorem commonC_pos (t : Int) (ht : 0 < t) (l : List Int) (hl : ∀ x ∈ l, 0 ≤ x) : (commonC (t :: l)).2 = l.all fun x => agree x t := by
  rw [(commonC_eq (t :: l) (by intro x hx; rcases List.mem_cons.1 hx with rfl | hx; omega; exact hl x hx)).1, commonGo, if_pos (agree_zero t), if_pos rfl, commonGo_pos t (by omega)]
  split
  · rename_i h; rw [h]
  · rename_i h; simp only [Bool.not_eq_true] at h; rw [h]
theorem caseC_eq (l : List Int) : ∀ (even : Bool) (out : List Int), caseC even out l = if ((caseGo even l).1.all fun x => agree x 3) = true then some (out ++ (caseGo even l).2) else none := by
  induction l with
  | nil => intro even out; simp [caseC, caseGo]
  | cons x r ih =>
    intro even out
    rw [caseC, caseGo]
    split
    · rw [ih]
      by_cases h : agree x 3 = true
      · simp [h]
      · simp [h]
    · rw [ih]
      simp
theorem caseGo_mem (l : List Int) : ∀ (even : Bool) (x : Int), x ∈ (caseGo even l).2 → x ∈ l := by
  induction l with
  | nil => intro even x; simp [caseGo]
  | cons y r ih =>
    intro even x
    rw [caseGo]
    split
    · intro h; exact List.mem_cons_of_mem _ (ih _ _ h)
    · intro h
      rcases List.mem_cons.1 h with rfl | h
      · simp
      · exact List.mem_cons_of_mem _ (ih _ _ h)
theorem kinds_fixed {op n t g s : Int} {ks : List Int} (hsig : sigOf op = (⟨n, n, t, g⟩, true)) (h25 : op ≠ 25) (h26 : op ≠ 26) (hso : sortOf op = (s, n)) (hs : s ≠ 0 ∧ s ≠ 9 ∧ s ≠ 10) (hn : 0 ≤ n)
    (hk : (ks.length : Int) = n → kindOf s ks = (g, (commonC (t :: ks)).2)) (e3 : (ks.any fun k => decide (3 < k)) = false) : kindC op ks = refKind op ks := by
  unfold kindC refKind
  simp only [hsig, if_neg h25, if_neg h26, hso, e3, Bool.false_eq_true, or_false, if_false, false_or, Bool.true_eq_false, hs.1, hs.2.1, hs.2.2, false_and]
  by_cases hlen : (ks.length : Int) = n
  · refine Eq.trans (if_neg (by omega)) (Eq.trans ?_ (if_neg (by omega)).symm)
    rw [hk hlen]
  · refine Eq.trans (if_pos (by omega)) (if_pos (by omega)).symm
theorem kinds_alike (op : Int) (ks : List Int) (hl : ks.length < 2 ^ 62) (hk : ∀ x ∈ ks, 0 ≤ x) : kindC op ks = refKind op ks := by
  by_cases h3 : (ks.any fun k => decide (3 < k)) = true
  · unfold kindC refKind
    simp only [h3, or_true, if_true, ite_self]
  · have e3 : (ks.any fun k => decide (3 < k)) = false := by simpa using h3
    have hc0 := commonC_eq (0 :: ks) (by intro x hx; rcases List.mem_cons.1 hx with rfl | hx; omega; exact hk x hx)
    have hg0 : commonGo 0 (0 :: ks) = commonGo 0 ks := by rw [commonGo, if_pos (agree_zero 0), if_pos rfl]
    rw [hg0] at hc0
    have p1 := commonC_pos 1 (by omega) ks hk
    have p2 := commonC_pos 2 (by omega) ks hk
    have p3 := commonC_pos 3 (by omega) ks hk
    have two : (ks.length : Int) = 2 → ∃ a b, ks = [a, b] := fun h => by
      match ks, h with
      | [a, b], _ => exact ⟨a, b, rfl⟩
      | [], h => simp at h
      | [_], h => simp at h
      | _ :: _ :: _ :: _, h => simp at h; omega
    have one : (ks.length : Int) = 1 → ∃ a, ks = [a] := fun h => by
      match ks, h with
      | [a], _ => exact ⟨a, rfl⟩
      | [], h => simp at h
      | _ :: _ :: _, h => simp at h; omega
    have heq : (ks.length : Int) = 2 → kindOf 4 ks = (3, (commonC (0 :: ks)).2) := fun h => by
      obtain ⟨a, b, rfl⟩ := two h
      rw [hc0.1]
      simp only [kindOf, commonGo, agree_zero, if_true]
      by_cases hab : agree a b = true
      · simp [hab]
      · simp [hab]
    have hnull : (ks.length : Int) = 1 → kindOf 6 ks = (3, (commonC (0 :: ks)).2) := fun h => by
      obtain ⟨a, rfl⟩ := one h
      rw [hc0.1]
      simp [kindOf, commonGo, agree_zero]
    have hcase : caseKindC ks = if (kindOf 9 ks).2 = true then ((kindOf 9 ks).1, 0) else (0, 50) := by
      unfold caseKindC
      rw [caseC_eq]
      have ho := commonC_eq (caseGo true ks).2 (fun x hx => hk x (caseGo_mem ks true x hx))
      have k9 : kindOf 9 ks = ((commonGo 0 (caseGo true ks).2).1, (commonGo 0 (caseGo true ks).2).2 && (caseGo true ks).1.all fun x => agree x 3) := by simp [kindOf]
      rw [k9]
      by_cases h : ((caseGo true ks).1.all fun x => agree x 3) = true
      · rw [if_pos h]
        simp only [List.nil_append, h, Bool.and_true]
        rw [← ho.1]
        split
        · rename_i h2; rw [ho.2 h2]
        · rfl
      · rw [if_neg h]
        simp only [Bool.not_eq_true] at h
        simp [h]
    have hand : op = 23 ∨ op = 24 → kindC op ks = refKind op ks := fun h => by
      have hsig : sigOf op = (⟨0, 2 ^ 62, 3, 3⟩, true) := by rcases h with rfl | rfl <;> rfl
      have hso : sortOf op = (8, -1) := by rcases h with rfl | rfl <;> rfl
      have h25 : op ≠ 25 := by omega
      have h26 : op ≠ 26 := by omega
      unfold kindC refKind
      simp only [hsig, if_neg h25, if_neg h26, hso, e3, Bool.false_eq_true, or_false, if_false, false_or, Bool.true_eq_false]
      refine Eq.trans (if_neg (by omega)) (Eq.trans ?_ (if_neg (by omega)).symm)
      rw [p3]
      simp [kindOf]
    by_cases o4 : op = 4
    · subst o4; exact kinds_fixed (n := 1) (t := 1) (g := 1) (s := 1) rfl (by decide) (by decide) rfl (by decide) (by decide) (fun _ => by rw [p1]; simp [kindOf]) e3
    by_cases o5 : op = 5 ∨ op = 6 ∨ op = 7 ∨ op = 8 ∨ op = 9
    · exact kinds_fixed (n := 2) (t := 1) (g := 1) (s := 1) (by simp [sigOf, o4, o5]) (by omega) (by omega) (by simp [sortOf, o4, o5]) (by decide) (by decide) (fun _ => by rw [p1]; simp [kindOf]) e3
    by_cases o10 : op = 10
    · subst o10; exact kinds_fixed (n := 2) (t := 2) (g := 2) (s := 2) rfl (by decide) (by decide) rfl (by decide) (by decide) (fun _ => by rw [p2]; simp [kindOf]) e3
    by_cases o11 : op = 11
    · subst o11; exact kinds_fixed (n := 1) (t := 2) (g := 1) (s := 3) rfl (by decide) (by decide) rfl (by decide) (by decide) (fun _ => by rw [p2]; simp [kindOf]) e3
    by_cases o12 : op = 12 ∨ op = 13 ∨ op = 14 ∨ op = 15 ∨ op = 16 ∨ op = 17 ∨ op = 18
    · exact kinds_fixed (n := 2) (t := 0) (g := 3) (s := 4) (by simp [sigOf, o4, o5, o10, o11, o12, (show op ≠ 19 by omega)]) (by omega) (by omega) (by simp [sortOf, o4, o5, o10, o11, o12]) (by decide) (by decide) heq e3
    by_cases o19 : op = 19
    · subst o19; exact kinds_fixed (n := 2) (t := 2) (g := 3) (s := 5) rfl (by decide) (by decide) rfl (by decide) (by decide) (fun _ => by rw [p2]; simp [kindOf]) e3
    by_cases o20 : op = 20
    · subst o20; exact kinds_fixed (n := 1) (t := 0) (g := 3) (s := 6) rfl (by decide) (by decide) rfl (by decide) (by decide) hnull e3
    by_cases o21 : op = 21 ∨ op = 22
    · exact kinds_fixed (n := 1) (t := 3) (g := 3) (s := 7) (by rcases o21 with rfl | rfl <;> rfl) (by omega) (by omega) (by rcases o21 with rfl | rfl <;> rfl) (by decide) (by decide) (fun _ => by rw [p3]; simp [kindOf]) e3
    by_cases o23 : op = 23 ∨ op = 24
    · exact hand o23
    by_cases o25 : op = 25
    · subst o25
      unfold kindC refKind
      have hso : sortOf 25 = (9, -1) := rfl
      simp only [hso, e3, Bool.false_eq_true, or_false, if_false, false_or, Bool.true_eq_false, if_true, hcase, true_and]
      by_cases hlen : ks.length < 2
      · refine Eq.trans (if_pos (by omega)) (if_pos (by omega)).symm
      · refine Eq.trans (if_neg (by omega)) (if_neg (by omega)).symm
    by_cases o26 : op = 26
    · subst o26
      unfold kindC refKind
      have hso : sortOf 26 = (10, -1) := rfl
      have hsig : sigOf 26 = (⟨1, 2 ^ 62, 0, 0⟩, true) := rfl
      have k10 : kindOf 10 ks = commonGo 0 ks := by simp [kindOf]
      simp only [hso, hsig, e3, Bool.false_eq_true, or_false, if_false, false_or, Bool.true_eq_false, if_true, k10, Int.reduceEq, true_and, false_and, or_false, false_or, Int.reduceNeg, Int.reduceLE]
      by_cases hlen : ks.length < 1
      · refine Eq.trans (if_pos (by omega)) (if_pos (by omega)).symm
      · refine Eq.trans (if_neg (by omega)) (Eq.trans ?_ (if_neg (by omega)).symm)
        rw [← hc0.1]
        split
        · rename_i h; rw [hc0.2 h]
        · rfl
    · have hso : sortOf op = (0, 0) := by simp [sortOf, o4, o5, o10, o11, o12, o19, o20, o21, o23, o25, o26]
      have hsig : sigOf op = (⟨0, 0, 0, 0⟩, false) := by simp [sigOf, o4, o5, o10, o11, o12, o19, o20, o21, o23, o25, o26]
      unfold kindC refKind
      simp [hso, hsig, o25]
end Go.Proofs.YtmlaogjndaeihaaDoor
