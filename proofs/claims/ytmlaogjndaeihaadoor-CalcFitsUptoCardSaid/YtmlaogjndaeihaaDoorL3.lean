/- The plain laws of AND and OR over conditions. -/
import Derived.Test.YtmlaogjndaeihaaDoorL2
import Derived.Test.YtmlaogjndaeihaaDoorL1
namespace Go.Proofs.YtmlaogjndaeihaaDoor
open Go Go.Ab
def truthO (o : Outv) : Bool := oOk o.v.kind o.v.int o.v.text o.err && !(decide (o.err = 0) && (!decide (o.v.kind = 0) && !decide (o.v.kind = 3)))
def condO (os : List Outv) : Outv := nodeC 23 os nullO
theorem truth_ok {o : Outv} (h : truthO o = true) (hi : o.In) : okC o = true := by
  rw [truthO, Bool.and_eq_true] at h
  rw [show okC o = oOk o.v.kind o.v.int o.v.text o.err from oOkC_eq _ _ _ _ hi.1.2.1]
  exact h.1
theorem zeroV_kind {k n : Int} {s : ByteArray} (h : zeroV k n s = true) : k = 0 ∧ n = 0 ∧ s = emp := by
  simp only [zeroV, Bool.and_eq_true, decide_eq_true_eq] at h
  exact h
/-- What a condition is: it fails, or is null, false or true. -/
theorem truth_cases {o : Outv} (h : truthO o = true) : (∃ e, o = errO e ∧ (e = 3 ∨ e = 4 ∨ e = 5 ∨ e = 6)) ∨ o = nullO ∨ o = boolO false ∨ o = trueO := by
  obtain ⟨⟨k, n, s⟩, e⟩ := o
  simp only [truthO, oOk, Bool.and_eq_true] at h
  obtain ⟨h1, h2⟩ := h
  by_cases he : e = 0
  · subst he
    simp only [if_true, decide_true, Bool.true_and, Bool.not_eq_true', Bool.and_eq_false_iff, Bool.not_eq_false', decide_eq_true_eq] at h1 h2
    rcases h2 with rfl | rfl
    · simp only [vOk, if_true, Bool.and_eq_true, decide_eq_true_eq] at h1
      obtain ⟨rfl, rfl⟩ := h1
      exact .inr (.inl rfl)
    · simp only [vOk, Int.reduceEq, if_false, if_true, Bool.and_eq_true, Bool.or_eq_true, decide_eq_true_eq] at h1
      obtain ⟨rfl | rfl, rfl⟩ := h1
      · exact .inr (.inr (.inl rfl))
      · exact .inr (.inr (.inr rfl))
  · rw [if_neg he, Bool.and_eq_true] at h1
    obtain ⟨rfl, rfl, rfl⟩ := zeroV_kind h1.2
    refine .inl ⟨e, rfl, ?_⟩
    have := h1.1
    simp only [isErr, Bool.or_eq_true, decide_eq_true_eq] at this
    omega
theorem truth_kind {o : Outv} (h : truthO o = true) : o.v.kind = 0 ∨ o.v.kind = 3 := by
  rcases truth_cases h with ⟨e, rfl, _⟩ | rfl | rfl | rfl
  · exact .inl rfl
  · exact .inl rfl
  · exact .inr rfl
  · exact .inr rfl
theorem truths_kinds {os : List Outv} (h : ∀ o ∈ os, truthO o = true) (op : Int) (hop : op = 23 ∨ op = 24) (hl : os.length < 2 ^ 62) : (kindC op (ksOf os)).2 = 0 := by
  have hk : ∀ x ∈ ksOf os, x = 0 ∨ x = 3 := by
    intro x hx
    obtain ⟨o, ho, rfl⟩ := List.mem_map.1 hx
    exact truth_kind (h o ho)
  have e3 : ((ksOf os).any fun k => decide (3 < k)) = false := by
    rw [List.any_eq_false]
    intro x hx
    have := hk x hx
    simp only [decide_eq_true_eq]
    omega
  have hall : ((ksOf os).all fun x => agree x 3) = true := by
    rw [List.all_eq_true]
    intro x hx
    rw [agree_iff]
    have := hk x hx
    omega
  have p3 := commonC_pos 3 (by omega) (ksOf os) (fun x hx => by have := hk x hx; omega)
  have hsig : sigOf op = (⟨0, 2 ^ 62, 3, 3⟩, true) := by rcases hop with rfl | rfl <;> rfl
  have h25 : op ≠ 25 := by omega
  have h26 : op ≠ 26 := by omega
  have hlen : (ksOf os).length < 2 ^ 62 := by simpa using hl
  unfold kindC
  simp only [hsig, if_neg h25, if_neg h26, e3, Bool.false_eq_true, or_false, if_false, false_or, Bool.true_eq_false]
  rw [if_neg (by omega), p3, hall]
  rfl
theorem cond_and {os : List Outv} (h : ∀ o ∈ os, truthO o = true) (hi : ∀ o ∈ os, o.In) (hl : os.length < 2 ^ 62) : condO os = andO os := by
  rw [condO, nodeC, if_neg (by
    rw [Bool.not_eq_false, List.all_eq_true]
    exact fun o ho => truth_ok (h o ho) (hi o ho)), if_neg (by rw [truths_kinds h 23 (.inl rfl) hl]; simp), if_pos rfl]
theorem andB_rk (b o : Outv) : (andB b o).rk ≤ b.rk := by
  unfold andB
  split <;> omega
theorem foldl_andB_rk (l : List Outv) : ∀ b : Outv, (l.foldl andB b).rk ≤ b.rk := by
  induction l with
  | nil => intro b; simp
  | cons o l ih => intro b; have := ih (andB b o); have := andB_rk b o; simp only [List.foldl_cons]; omega
theorem rk_err (o : Outv) : o.rk < 2 → o.err = 0 := by
  unfold Outv.rk rk
  intro h
  split at h
  · omega
  · omega
theorem andO_low (l : List Outv) (h : ∀ o ∈ l, o.err = 0) : ∀ b : Outv, (b = trueO ∨ b.rk < 2) → l.foldl andB b = trueO ∨ (l.foldl andB b).rk < 2 := by
  induction l with
  | nil => intro b hb; exact hb
  | cons o l ih =>
    intro b hb
    refine ih (fun x hx => h x (List.mem_cons_of_mem _ hx)) (andB b o) ?_
    have ho := h o (by simp)
    have h2 : o.rk ≠ 2 ∧ o.rk ≤ 3 := by unfold Outv.rk rk; rw [if_neg (by omega)]; split <;> (try split) <;> omega
    unfold andB
    split
    · rename_i hc
      refine .inr ?_
      rcases hb with rfl | hb
      · have : trueO.rk = 3 := rfl
        omega
      · omega
    · exact hb
theorem drops_true {xs ys : List Outv} (h : andO xs = trueO) : andO (xs ++ ys) = andO ys := by
  unfold andO at h ⊢
  rw [List.foldl_append, h]
theorem drops_low {xs ys : List Outv} (h : andO xs ≠ trueO) (he : ∀ o ∈ xs, o.err = 0) : (andO (xs ++ ys)).err = 0 ∧ andO (xs ++ ys) ≠ trueO := by
  have h1 := (andO_low xs he trueO (.inl rfl)).resolve_left h
  have h2 : (andO (xs ++ ys)).rk < 2 := by
    unfold andO
    rw [List.foldl_append]
    have := foldl_andB_rk ys (xs.foldl andB trueO)
    omega
  refine ⟨rk_err _ h2, fun e => ?_⟩
  rw [e] at h2
  have : trueO.rk = 3 := rfl
  omega
end Go.Proofs.YtmlaogjndaeihaaDoor
