/- Validity, as the program tells it. The plain law of CalcKinds: both ways to tell a kind are one. The plain laws of AND and OR over conditions. The plain laws of CalcChains: AND is the least of a chain. -/
import Derived.Test.YtmlaogjndaeihaaGreatDoorC1
import Derived.Test.YtmlaogjndaeihaaGreatDoorT6
set_option linter.unusedSimpArgs false
set_option linter.unusedVariables false
section
namespace Go.Proofs.YtmlaogjndaeihaaGreatDoor
open Go Go.Ab
theorem wrap_u64_le (n : Int) (h : InI n) : decide (IntKind.wrap .u64 n ≤ 1) = (decide (n = 0) || decide (n = 1)) := by
  obtain ⟨h1, h2⟩ := h
  have e : IntKind.wrap .u64 n = n % 18446744073709551616 := rfl
  rw [e, Bool.eq_iff_iff]
  simp only [Bool.or_eq_true, decide_eq_true_eq]
  omega
theorem vOkC_eq (k n : Int) (s : ByteArray) (h : InI n) : vOkC k n s = vOk k n s := by
  unfold vOkC vOk
  rw [wrap_u64_le n h, Bool.and_comm (decide (s = emp)) (decide (n = 0) || decide (n = 1))]
theorem oOkC_eq (k n : Int) (s : ByteArray) (e : Int) (h : InI n) : oOkC k n s e = oOk k n s e := by
  unfold oOkC oOk
  rw [vOkC_eq k n s h]
  by_cases he : e = 0
  · simp [he, isErr]
  · simp [he]
end Go.Proofs.YtmlaogjndaeihaaGreatDoor
end

section
namespace Go.Proofs.YtmlaogjndaeihaaGreatDoor
open Go Go.Ab
theorem foldl_mx_ge (l : List Int) : ∀ a : Int, a ≤ l.foldl mx a := by
  induction l with
  | nil => intro a; simp
  | cons x r ih =>
    intro a
    have := ih (mx a x)
    simp only [List.foldl_cons]
    have h2 : a ≤ mx a x := by unfold mx; split <;> omega
    omega
theorem agree_self (a : Int) : agree a a = true := by simp [agree]
theorem agree_zero (a : Int) : agree 0 a = true := by simp [agree]
theorem agree_zero' (a : Int) : agree a 0 = true := by simp [agree]
theorem agree_comm (a b : Int) : agree a b = agree b a := by
  unfold agree; rw [Bool.eq_iff_iff]; simp; omega
theorem agree_iff (a b : Int) : agree a b = true ↔ a = b ∨ a = 0 ∨ b = 0 := by simp [agree, or_assoc]
theorem commonGo_iff (l : List Int) : ∀ a : Int, 0 ≤ a → (∀ x ∈ l, 0 ≤ x) →
    ((commonGo a l).2 = true ↔ agree a (l.foldl mx a) = true ∧ ∀ x ∈ l, agree x (l.foldl mx a) = true) ∧ ((commonGo a l).2 = true → (commonGo a l).1 = l.foldl mx a) := by
  induction l with
  | nil => intro a _ _; simp [commonGo, agree_self]
  | cons x r ih =>
    intro a ha hl
    have hx := hl x (by simp)
    rw [commonGo]
    split
    · rename_i hax
      have hM : (if a = 0 then x else a) = mx a x := by
        rw [agree_iff] at hax
        unfold mx
        split <;> split <;> omega
      obtain ⟨h1, h2⟩ := ih (if a = 0 then x else a) (by split <;> omega) (fun y hy => hl y (by simp [hy]))
      rw [hM] at h1 h2
      rw [hM]
      simp only [List.foldl_cons]
      refine ⟨?_, h2⟩
      rw [h1]
      simp only [List.mem_cons, forall_eq_or_imp]
      have : agree (mx a x) (r.foldl mx (mx a x)) = true ↔ agree a (r.foldl mx (mx a x)) = true ∧ agree x (r.foldl mx (mx a x)) = true := by
        simp only [agree_iff] at hax ⊢
        rw [← hM]
        split <;> omega
      rw [this, and_assoc]
    · rename_i hax
      simp only [Bool.false_eq_true, false_iff, false_implies, and_true, not_and, List.foldl_cons]
      intro h3 h4
      have h5 := h4 x (by simp)
      have h6 := foldl_mx_ge r (mx a x)
      rw [agree_iff] at hax h3 h5
      have h7 : a ≤ mx a x ∧ x ≤ mx a x := by unfold mx; split <;> omega
      omega
theorem commonC_eq (l : List Int) (hl : ∀ x ∈ l, 0 ≤ x) : (commonC l).2 = (commonGo 0 l).2 ∧ ((commonC l).2 = true → (commonC l).1 = (commonGo 0 l).1) := by
  obtain ⟨h1, h2⟩ := commonGo_iff l 0 (by omega) hl
  have e : (commonC l).2 = (commonGo 0 l).2 := by
    rw [Bool.eq_iff_iff, h1]
    simp [commonC, maxOf, agree_zero]
  refine ⟨e, fun h => ?_⟩
  rw [e] at h
  rw [h2 h]
  rfl
theorem commonGo_pos (t : Int) (ht : t ≠ 0) (l : List Int) : commonGo t l = if (l.all fun x => agree x t) = true then (t, true) else (0, false) := by
  induction l with
  | nil => simp [commonGo]
  | cons x r ih =>
    rw [commonGo, if_neg ht, ih, agree_comm t x]
    by_cases h : agree x t = true
    · simp [h]
    · simp [h]
theorem commonC_pos (t : Int) (ht : 0 < t) (l : List Int) (hl : ∀ x ∈ l, 0 ≤ x) : (commonC (t :: l)).2 = l.all fun x => agree x t := by
  rw [(commonC_eq (t :: l) (by intro x hx; rcases List.mem_cons.1 hx with rfl | hx; omega; exact hl x hx)).1, commonGo, if_pos (agree_zero t), if_pos rfl, commonGo_pos t (by omega)]
  split
  · rename_i h; rw [h]
  · rename_i h; simp only [Bool.not_eq_true] at h; rw [h]
theorem caseC_eq (l : List Int) : ∀ (even : Bool) (out : List Int), caseC even out l = if ((caseGo even l).1.all fun x => agree x 3) = true then some (out ++ (caseGo even l).2) else none := by
  induction l with
  | nil => intro even out; simp [caseC, caseGo]
  | cons x r ih =>
    intro even out
    rw [caseC, caseGo]
    split
    · rw [ih]
      by_cases h : agree x 3 = true
      · simp [h]
      · simp [h]
    · rw [ih]
      simp
theorem caseGo_mem (l : List Int) : ∀ (even : Bool) (x : Int), x ∈ (caseGo even l).2 → x ∈ l := by
  induction l with
  | nil => intro even x; simp [caseGo]
  | cons y r ih =>
    intro even x
    rw [caseGo]
    split
    · intro h; exact List.mem_cons_of_mem _ (ih _ _ h)
    · intro h
      rcases List.mem_cons.1 h with rfl | h
      · simp
      · exact List.mem_cons_of_mem _ (ih _ _ h)
theorem kinds_fixed {op n t g s : Int} {ks : List Int} (hsig : sigOf op = (⟨n, n, t, g⟩, true)) (h25 : op ≠ 25) (h26 : op ≠ 26) (hso : sortOf op = (s, n)) (hs : s ≠ 0 ∧ s ≠ 9 ∧ s ≠ 10) (hn : 0 ≤ n)
    (hk : (ks.length : Int) = n → kindOf s ks = (g, (commonC (t :: ks)).2)) (e3 : (ks.any fun k => decide (3 < k)) = false) : kindC op ks = refKind op ks := by
  unfold kindC refKind
  simp only [hsig, if_neg h25, if_neg h26, hso, e3, Bool.false_eq_true, or_false, if_false, false_or, Bool.true_eq_false, hs.1, hs.2.1, hs.2.2, false_and]
  by_cases hlen : (ks.length : Int) = n
  · refine Eq.trans (if_neg (by omega)) (Eq.trans ?_ (if_neg (by omega)).symm)
    rw [hk hlen]
  · refine Eq.trans (if_pos (by omega)) (if_pos (by omega)).symm
theorem kinds_alike (op : Int) (ks : List Int) (hl : ks.length < 2 ^ 62) (hk : ∀ x ∈ ks, 0 ≤ x) : kindC op ks = refKind op ks := by
  by_cases h3 : (ks.any fun k => decide (3 < k)) = true
  · unfold kindC refKind
    simp only [h3, or_true, if_true, ite_self]
  · have e3 : (ks.any fun k => decide (3 < k)) = false := by simpa using h3
    have hc0 := commonC_eq (0 :: ks) (by intro x hx; rcases List.mem_cons.1 hx with rfl | hx; omega; exact hk x hx)
    have hg0 : commonGo 0 (0 :: ks) = commonGo 0 ks := by rw [commonGo, if_pos (agree_zero 0), if_pos rfl]
    rw [hg0] at hc0
    have p1 := commonC_pos 1 (by omega) ks hk
    have p2 := commonC_pos 2 (by omega) ks hk
    have p3 := commonC_pos 3 (by omega) ks hk
    have two : (ks.length : Int) = 2 → ∃ a b, ks = [a, b] := fun h => by
      match ks, h with
      | [a, b], _ => exact ⟨a, b, rfl⟩
      | [], h => simp at h
      | [_], h => simp at h
      | _ :: _ :: _ :: _, h => simp at h; omega
    have one : (ks.length : Int) = 1 → ∃ a, ks = [a] := fun h => by
      match ks, h with
      | [a], _ => exact ⟨a, rfl⟩
      | [], h => simp at h
      | _ :: _ :: _, h => simp at h; omega
    have heq : (ks.length : Int) = 2 → kindOf 4 ks = (3, (commonC (0 :: ks)).2) := fun h => by
      obtain ⟨a, b, rfl⟩ := two h
      rw [hc0.1]
      simp only [kindOf, commonGo, agree_zero, if_true]
      by_cases hab : agree a b = true
      · simp [hab]
      · simp [hab]
    have hnull : (ks.length : Int) = 1 → kindOf 6 ks = (3, (commonC (0 :: ks)).2) := fun h => by
      obtain ⟨a, rfl⟩ := one h
      rw [hc0.1]
      simp [kindOf, commonGo, agree_zero]
    have hcase : caseKindC ks = if (kindOf 9 ks).2 = true then ((kindOf 9 ks).1, 0) else (0, 50) := by
      unfold caseKindC
      rw [caseC_eq]
      have ho := commonC_eq (caseGo true ks).2 (fun x hx => hk x (caseGo_mem ks true x hx))
      have k9 : kindOf 9 ks = ((commonGo 0 (caseGo true ks).2).1, (commonGo 0 (caseGo true ks).2).2 && (caseGo true ks).1.all fun x => agree x 3) := by simp [kindOf]
      rw [k9]
      by_cases h : ((caseGo true ks).1.all fun x => agree x 3) = true
      · rw [if_pos h]
        simp only [List.nil_append, h, Bool.and_true]
        rw [← ho.1]
        split
        · rename_i h2; rw [ho.2 h2]
        · rfl
      · rw [if_neg h]
        simp only [Bool.not_eq_true] at h
        simp [h]
    have hand : op = 23 ∨ op = 24 → kindC op ks = refKind op ks := fun h => by
      have hsig : sigOf op = (⟨0, 2 ^ 62, 3, 3⟩, true) := by rcases h with rfl | rfl <;> rfl
      have hso : sortOf op = (8, -1) := by rcases h with rfl | rfl <;> rfl
      have h25 : op ≠ 25 := by omega
      have h26 : op ≠ 26 := by omega
      unfold kindC refKind
      simp only [hsig, if_neg h25, if_neg h26, hso, e3, Bool.false_eq_true, or_false, if_false, false_or, Bool.true_eq_false]
      refine Eq.trans (if_neg (by omega)) (Eq.trans ?_ (if_neg (by omega)).symm)
      rw [p3]
      simp [kindOf]
    by_cases o4 : op = 4
    · subst o4; exact kinds_fixed (n := 1) (t := 1) (g := 1) (s := 1) rfl (by decide) (by decide) rfl (by decide) (by decide) (fun _ => by rw [p1]; simp [kindOf]) e3
    by_cases o5 : op = 5 ∨ op = 6 ∨ op = 7 ∨ op = 8 ∨ op = 9
    · exact kinds_fixed (n := 2) (t := 1) (g := 1) (s := 1) (by simp [sigOf, o4, o5]) (by omega) (by omega) (by simp [sortOf, o4, o5]) (by decide) (by decide) (fun _ => by rw [p1]; simp [kindOf]) e3
    by_cases o10 : op = 10
    · subst o10; exact kinds_fixed (n := 2) (t := 2) (g := 2) (s := 2) rfl (by decide) (by decide) rfl (by decide) (by decide) (fun _ => by rw [p2]; simp [kindOf]) e3
    by_cases o11 : op = 11
    · subst o11; exact kinds_fixed (n := 1) (t := 2) (g := 1) (s := 3) rfl (by decide) (by decide) rfl (by decide) (by decide) (fun _ => by rw [p2]; simp [kindOf]) e3
    by_cases o12 : op = 12 ∨ op = 13 ∨ op = 14 ∨ op = 15 ∨ op = 16 ∨ op = 17 ∨ op = 18
    · exact kinds_fixed (n := 2) (t := 0) (g := 3) (s := 4) (by simp [sigOf, o4, o5, o10, o11, o12, (show op ≠ 19 by omega)]) (by omega) (by omega) (by simp [sortOf, o4, o5, o10, o11, o12]) (by decide) (by decide) heq e3
    by_cases o19 : op = 19
    · subst o19; exact kinds_fixed (n := 2) (t := 2) (g := 3) (s := 5) rfl (by decide) (by decide) rfl (by decide) (by decide) (fun _ => by rw [p2]; simp [kindOf]) e3
    by_cases o20 : op = 20
    · subst o20; exact kinds_fixed (n := 1) (t := 0) (g := 3) (s := 6) rfl (by decide) (by decide) rfl (by decide) (by decide) hnull e3
    by_cases o21 : op = 21 ∨ op = 22
    · exact kinds_fixed (n := 1) (t := 3) (g := 3) (s := 7) (by rcases o21 with rfl | rfl <;> rfl) (by omega) (by omega) (by rcases o21 with rfl | rfl <;> rfl) (by decide) (by decide) (fun _ => by rw [p3]; simp [kindOf]) e3
    by_cases o23 : op = 23 ∨ op = 24
    · exact hand o23
    by_cases o25 : op = 25
    · subst o25
      unfold kindC refKind
      have hso : sortOf 25 = (9, -1) := rfl
      simp only [hso, e3, Bool.false_eq_true, or_false, if_false, false_or, Bool.true_eq_false, if_true, hcase, true_and]
      by_cases hlen : ks.length < 2
      · refine Eq.trans (if_pos (by omega)) (if_pos (by omega)).symm
      · refine Eq.trans (if_neg (by omega)) (if_neg (by omega)).symm
    by_cases o26 : op = 26
    · subst o26
      unfold kindC refKind
      have hso : sortOf 26 = (10, -1) := rfl
      have hsig : sigOf 26 = (⟨1, 2 ^ 62, 0, 0⟩, true) := rfl
      have k10 : kindOf 10 ks = commonGo 0 ks := by simp [kindOf]
      simp only [hso, hsig, e3, Bool.false_eq_true, or_false, if_false, false_or, Bool.true_eq_false, if_true, k10, Int.reduceEq, true_and, false_and, or_false, false_or, Int.reduceNeg, Int.reduceLE]
      by_cases hlen : ks.length < 1
      · refine Eq.trans (if_pos (by omega)) (if_pos (by omega)).symm
      · refine Eq.trans (if_neg (by omega)) (Eq.trans ?_ (if_neg (by omega)).symm)
        rw [← hc0.1]
        split
        · rename_i h; rw [hc0.2 h]
        · rfl
    · have hso : sortOf op = (0, 0) := by simp [sortOf, o4, o5, o10, o11, o12, o19, o20, o21, o23, o25, o26]
      have hsig : sigOf op = (⟨0, 0, 0, 0⟩, false) := by simp [sigOf, o4, o5, o10, o11, o12, o19, o20, o21, o23, o25, o26]
      unfold kindC refKind
      simp [hso, hsig, o25]
end Go.Proofs.YtmlaogjndaeihaaGreatDoor
end

section
namespace Go.Proofs.YtmlaogjndaeihaaGreatDoor
open Go Go.Ab
def truthO (o : Outv) : Bool := oOk o.v.kind o.v.int o.v.text o.err && !(decide (o.err = 0) && (!decide (o.v.kind = 0) && !decide (o.v.kind = 3)))
def condO (os : List Outv) : Outv := nodeC 23 os nullO
theorem truth_ok {o : Outv} (h : truthO o = true) (hi : o.In) : okC o = true := by
  rw [truthO, Bool.and_eq_true] at h
  rw [show okC o = oOk o.v.kind o.v.int o.v.text o.err from oOkC_eq _ _ _ _ hi.1.2.1]
  exact h.1
theorem zeroV_kind {k n : Int} {s : ByteArray} (h : zeroV k n s = true) : k = 0 ∧ n = 0 ∧ s = emp := by
  simp only [zeroV, Bool.and_eq_true, decide_eq_true_eq] at h
  exact h
/-- What a condition is: it fails, or is null, false or true. -/
theorem truth_cases {o : Outv} (h : truthO o = true) : (∃ e, o = errO e ∧ (e = 3 ∨ e = 4 ∨ e = 5 ∨ e = 6)) ∨ o = nullO ∨ o = boolO false ∨ o = trueO := by
  obtain ⟨⟨k, n, s⟩, e⟩ := o
  simp only [truthO, oOk, Bool.and_eq_true] at h
  obtain ⟨h1, h2⟩ := h
  by_cases he : e = 0
  · subst he
    simp only [if_true, decide_true, Bool.true_and, Bool.not_eq_true', Bool.and_eq_false_iff, Bool.not_eq_false', decide_eq_true_eq] at h1 h2
    rcases h2 with rfl | rfl
    · simp only [vOk, if_true, Bool.and_eq_true, decide_eq_true_eq] at h1
      obtain ⟨rfl, rfl⟩ := h1
      exact .inr (.inl rfl)
    · simp only [vOk, Int.reduceEq, if_false, if_true, Bool.and_eq_true, Bool.or_eq_true, decide_eq_true_eq] at h1
      obtain ⟨rfl | rfl, rfl⟩ := h1
      · exact .inr (.inr (.inl rfl))
      · exact .inr (.inr (.inr rfl))
  · rw [if_neg he, Bool.and_eq_true] at h1
    obtain ⟨rfl, rfl, rfl⟩ := zeroV_kind h1.2
    refine .inl ⟨e, rfl, ?_⟩
    have := h1.1
    simp only [isErr, Bool.or_eq_true, decide_eq_true_eq] at this
    omega
theorem truth_kind {o : Outv} (h : truthO o = true) : o.v.kind = 0 ∨ o.v.kind = 3 := by
  rcases truth_cases h with ⟨e, rfl, _⟩ | rfl | rfl | rfl
  · exact .inl rfl
  · exact .inl rfl
  · exact .inr rfl
  · exact .inr rfl
theorem truths_kinds {os : List Outv} (h : ∀ o ∈ os, truthO o = true) (op : Int) (hop : op = 23 ∨ op = 24) (hl : os.length < 2 ^ 62) : (kindC op (ksOf os)).2 = 0 := by
  have hk : ∀ x ∈ ksOf os, x = 0 ∨ x = 3 := by
    intro x hx
    obtain ⟨o, ho, rfl⟩ := List.mem_map.1 hx
    exact truth_kind (h o ho)
  have e3 : ((ksOf os).any fun k => decide (3 < k)) = false := by
    rw [List.any_eq_false]
    intro x hx
    have := hk x hx
    simp only [decide_eq_true_eq]
    omega
  have hall : ((ksOf os).all fun x => agree x 3) = true := by
    rw [List.all_eq_true]
    intro x hx
    rw [agree_iff]
    have := hk x hx
    omega
  have p3 := commonC_pos 3 (by omega) (ksOf os) (fun x hx => by have := hk x hx; omega)
  have hsig : sigOf op = (⟨0, 2 ^ 62, 3, 3⟩, true) := by rcases hop with rfl | rfl <;> rfl
  have h25 : op ≠ 25 := by omega
  have h26 : op ≠ 26 := by omega
  have hlen : (ksOf os).length < 2 ^ 62 := by simpa using hl
  unfold kindC
  simp only [hsig, if_neg h25, if_neg h26, e3, Bool.false_eq_true, or_false, if_false, false_or, Bool.true_eq_false]
  rw [if_neg (by omega), p3, hall]
  rfl
theorem cond_and {os : List Outv} (h : ∀ o ∈ os, truthO o = true) (hi : ∀ o ∈ os, o.In) (hl : os.length < 2 ^ 62) : condO os = andO os := by
  rw [condO, nodeC, if_neg (by
    rw [Bool.not_eq_false, List.all_eq_true]
    exact fun o ho => truth_ok (h o ho) (hi o ho)), if_neg (by rw [truths_kinds h 23 (.inl rfl) hl]; simp), if_pos rfl]
theorem andB_rk (b o : Outv) : (andB b o).rk ≤ b.rk := by
  unfold andB
  split <;> omega
theorem foldl_andB_rk (l : List Outv) : ∀ b : Outv, (l.foldl andB b).rk ≤ b.rk := by
  induction l with
  | nil => intro b; simp
  | cons o l ih => intro b; have := ih (andB b o); have := andB_rk b o; simp only [List.foldl_cons]; omega
theorem rk_err (o : Outv) : o.rk < 2 → o.err = 0 := by
  unfold Outv.rk rk
  intro h
  split at h
  · omega
  · omega
theorem andO_low (l : List Outv) (h : ∀ o ∈ l, o.err = 0) : ∀ b : Outv, (b = trueO ∨ b.rk < 2) → l.foldl andB b = trueO ∨ (l.foldl andB b).rk < 2 := by
  induction l with
  | nil => intro b hb; exact hb
  | cons o l ih =>
    intro b hb
    refine ih (fun x hx => h x (List.mem_cons_of_mem _ hx)) (andB b o) ?_
    have ho := h o (by simp)
    have h2 : o.rk ≠ 2 ∧ o.rk ≤ 3 := by unfold Outv.rk rk; rw [if_neg (by omega)]; split <;> (try split) <;> omega
    unfold andB
    split
    · rename_i hc
      refine .inr ?_
      rcases hb with rfl | hb
      · have : trueO.rk = 3 := rfl
        omega
      · omega
    · exact hb
theorem drops_true {xs ys : List Outv} (h : andO xs = trueO) : andO (xs ++ ys) = andO ys := by
  unfold andO at h ⊢
  rw [List.foldl_append, h]
theorem drops_low {xs ys : List Outv} (h : andO xs ≠ trueO) (he : ∀ o ∈ xs, o.err = 0) : (andO (xs ++ ys)).err = 0 ∧ andO (xs ++ ys) ≠ trueO := by
  have h1 := (andO_low xs he trueO (.inl rfl)).resolve_left h
  have h2 : (andO (xs ++ ys)).rk < 2 := by
    unfold andO
    rw [List.foldl_append]
    have := foldl_andB_rk ys (xs.foldl andB trueO)
    omega
  refine ⟨rk_err _ h2, fun e => ?_⟩
  rw [e] at h2
  have : trueO.rk = 3 := rfl
  omega
end Go.Proofs.YtmlaogjndaeihaaGreatDoor
end

section
namespace Go.Proofs.YtmlaogjndaeihaaGreatDoor
open Go Go.Ab
def keyO (o : Outv) : Int := if o.err ≠ 0 then o.err else if o.v.kind = 0 then 1 else if o.v.int = 0 then 0 else 10
def unkey (k : Int) : Outv := if k = 0 then boolO false else if k = 1 then nullO else if k = 10 then trueO else errO k
theorem unkey_key {o : Outv} (h : truthO o = true) : unkey (keyO o) = o := by
  rcases truth_cases h with ⟨e, rfl, h2⟩ | rfl | rfl | rfl
  · have e0 : e ≠ 0 := by omega
    have e1 : e ≠ 1 := by omega
    have e2 : e ≠ 10 := by omega
    simp [keyO, unkey, e0, e1, e2]
  · rfl
  · rfl
  · rfl
theorem key_le {o : Outv} (h : truthO o = true) : keyO o ≤ 10 := by
  rcases truth_cases h with ⟨e, rfl, h2⟩ | rfl | rfl | rfl
  · have e0 : e ≠ 0 := by omega
    simp only [keyO, ne_eq, e0, not_false_eq_true, if_true]; omega
  · decide
  · decide
  · decide
theorem rk_errO {e : Int} (h : e ≠ 0) : (errO e).rk = 2 := by unfold Outv.rk rk; rw [if_pos h]
theorem key_errO {e : Int} (h : e ≠ 0) : keyO (errO e) = e := by unfold keyO; rw [if_pos h]
theorem key_and {b o : Outv} (hb : truthO b = true) (ho : truthO o = true) : keyO (andB b o) = min (keyO b) (keyO o) := by
  have key : ∀ b o : Outv, ((o.rk < b.rk ∨ (o.rk = b.rk ∧ o.rk = 2 ∧ o.err < b.err)) → keyO o ≤ keyO b) → (¬(o.rk < b.rk ∨ (o.rk = b.rk ∧ o.rk = 2 ∧ o.err < b.err)) → keyO b ≤ keyO o) → keyO (andB b o) = min (keyO b) (keyO o) := by
    intro b o h1 h2
    unfold andB
    split
    · rename_i h; have := h1 h; omega
    · rename_i h; have := h2 h; omega
  have k1 : keyO nullO = 1 := rfl
  have k2 : keyO (boolO false) = 0 := rfl
  have k3 : keyO trueO = 10 := rfl
  have r1 : nullO.rk = 1 := rfl
  have r2 : (boolO false).rk = 0 := rfl
  have r3 : trueO.rk = 3 := rfl
  refine key b o ?_ ?_ <;>
  · rcases truth_cases hb with ⟨e, rfl, h2⟩ | rfl | rfl | rfl <;> rcases truth_cases ho with ⟨e', rfl, h2'⟩ | rfl | rfl | rfl <;>
      simp only [k1, k2, k3, r1, r2, r3] <;>
      (try rw [rk_errO (e := e) (by omega), key_errO (e := e) (by omega)]) <;> (try rw [rk_errO (e := e') (by omega), key_errO (e := e') (by omega)]) <;> omega
theorem truth_and {b o : Outv} (hb : truthO b = true) (ho : truthO o = true) : truthO (andB b o) = true := by
  unfold andB; split <;> assumption
theorem foldl_and (l : List Outv) : ∀ b : Outv, truthO b = true → (∀ o ∈ l, truthO o = true) → truthO (l.foldl andB b) = true ∧ keyO (l.foldl andB b) = (l.map keyO).foldl min (keyO b) := by
  induction l with
  | nil => intro b hb _; exact ⟨hb, rfl⟩
  | cons o l ih =>
    intro b hb hl
    have ho := hl o (by simp)
    have := ih (andB b o) (truth_and hb ho) (fun x hx => hl x (List.mem_cons_of_mem _ hx))
    rw [key_and hb ho] at this
    exact this
def minK (l : List Outv) : Int := (l.map keyO).foldl min 10
theorem and_truth {l : List Outv} (h : ∀ o ∈ l, truthO o = true) : truthO (andO l) = true ∧ keyO (andO l) = minK l := foldl_and l trueO rfl h
theorem and_eq {l : List Outv} (h : ∀ o ∈ l, truthO o = true) : andO l = unkey (minK l) := by
  obtain ⟨h1, h2⟩ := and_truth h
  rw [← h2, unkey_key h1]
theorem foldl_min (l : List Int) : ∀ a b : Int, l.foldl min (min a b) = min a (l.foldl min b) := by
  induction l with
  | nil => intro a b; rfl
  | cons x l ih => intro a b; simp only [List.foldl_cons]; rw [show min (min a b) x = min a (min b x) by omega, ih]
theorem minK_le (l : List Outv) : minK l ≤ 10 := by
  unfold minK
  have := foldl_min (l.map keyO) 10 10
  rw [show min (10 : Int) 10 = 10 from rfl] at this
  omega
theorem minK_append (a b : List Outv) : minK (a ++ b) = min (minK a) (minK b) := by
  have h := minK_le a
  unfold minK at h ⊢
  rw [List.map_append, List.foldl_append]
  have := foldl_min (b.map keyO) ((a.map keyO).foldl min 10) 10
  rw [show min ((a.map keyO).foldl min 10) 10 = (a.map keyO).foldl min 10 by omega] at this
  exact this
theorem minK_reverse (l : List Outv) : minK l.reverse = minK l := by
  induction l with
  | nil => rfl
  | cons x l ih =>
    rw [List.reverse_cons, minK_append, ih, show x :: l = [x] ++ l from rfl, minK_append]
    omega
theorem and_reverse {l : List Outv} (h : ∀ o ∈ l, truthO o = true) : andO l.reverse = andO l := by
  rw [and_eq h, and_eq (fun o ho => h o (List.mem_reverse.1 ho)), minK_reverse]
theorem and_nested {a b : List Outv} (ha : ∀ o ∈ a, truthO o = true) (hb : ∀ o ∈ b, truthO o = true) : andO [andO b, andO a] = andO (a ++ b) := by
  obtain ⟨ta, ka⟩ := and_truth ha
  obtain ⟨tb, kb⟩ := and_truth hb
  rw [and_eq (l := a ++ b) (by intro o ho; rcases List.mem_append.1 ho with h | h; exact ha o h; exact hb o h), and_eq (l := [andO b, andO a]) (by intro o ho; rcases List.mem_cons.1 ho with rfl | ho; exact tb; rw [List.mem_singleton.1 ho]; exact ta), minK_append]
  have e : minK [andO b, andO a] = min (minK a) (minK b) := by
    have := minK_le b
    rw [show minK [andO b, andO a] = min (min 10 (keyO (andO b))) (keyO (andO a)) from rfl, ka, kb]
    omega
  rw [e]
theorem not_cases {o : Outv} (h : truthO o = true) : truthO (notO o) = true ∧ notO (notO o) = o := by
  rcases truth_cases h with ⟨e, rfl, h2⟩ | rfl | rfl | rfl
  · have e0 : e ≠ 0 := by omega
    have : notO (errO e) = errO e := by simp [notO, notN, rk, e0]
    rw [this, this]
    exact ⟨h, rfl⟩
  · exact ⟨rfl, rfl⟩
  · exact ⟨rfl, rfl⟩
  · exact ⟨rfl, rfl⟩
theorem map_not {l : List Outv} (h : ∀ o ∈ l, truthO o = true) : ∀ o ∈ l.map notO, truthO o = true := by
  intro o ho
  obtain ⟨x, hx, rfl⟩ := List.mem_map.1 ho
  exact (not_cases (h x hx)).1
theorem map_not_not {l : List Outv} (h : ∀ o ∈ l, truthO o = true) : (l.map notO).map notO = l := by
  rw [List.map_map]
  conv => rhs; rw [← List.map_id l]
  exact List.map_congr_left (fun o ho => (not_cases (h o ho)).2)
theorem or_truth {l : List Outv} (h : ∀ o ∈ l, truthO o = true) : truthO (orO l) = true := (not_cases (and_truth (map_not h)).1).1
theorem or_reverse {l : List Outv} (h : ∀ o ∈ l, truthO o = true) : orO l.reverse = orO l := by
  unfold orO
  rw [List.map_reverse, and_reverse (map_not h)]
theorem or_nested {a b : List Outv} (ha : ∀ o ∈ a, truthO o = true) (hb : ∀ o ∈ b, truthO o = true) : orO [orO b, orO a] = orO (a ++ b) := by
  have e1 : notO (orO a) = andO (a.map notO) := (not_cases (and_truth (map_not ha)).1).2
  have e2 : notO (orO b) = andO (b.map notO) := (not_cases (and_truth (map_not hb)).1).2
  rw [orO, List.map_cons, List.map_cons, List.map_nil, e1, e2, and_nested (map_not ha) (map_not hb), orO, List.map_append]
theorem morgan_or {l : List Outv} (h : ∀ o ∈ l, truthO o = true) : orO (l.map notO) = notO (andO l) := by rw [orO, map_not_not h]
theorem morgan_and {l : List Outv} (h : ∀ o ∈ l, truthO o = true) : notO (orO l) = andO (l.map notO) := (not_cases (and_truth (map_not h)).1).2
end Go.Proofs.YtmlaogjndaeihaaGreatDoor
end
