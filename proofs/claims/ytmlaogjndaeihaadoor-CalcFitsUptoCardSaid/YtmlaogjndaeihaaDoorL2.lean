/- The plain law of CalcSubs. -/
import Derived.Test.YtmlaogjndaeihaaDoorT15
import Derived.Test.YtmlaogjndaeihaaDoorC1
namespace Go.Proofs.YtmlaogjndaeihaaDoor
open Go Go.Ab

theorem wrap_u64_le (n : Int) (h : InI n) : decide (IntKind.wrap .u64 n ≤ 1) = (decide (n = 0) || decide (n = 1)) := by
  obtain ⟨h1, h2⟩ := h
  have e : IntKind.wrap .u64 n = n % 18446744073709551616 := rfl
  rw [e, Bool.eq_iff_iff]
  simp only [Bool.or_eq_true, decide_eq_true_eq]
  omega
theorem vOkC_eq (k n : Int) (s : ByteArray) (h : InI n) : vOkC k n s = vOk k n s := by
  unfold vOkC vOk
  rw [wrap_u64_le n h, Bool.and_comm (decide (s = emp)) (decide (n = 0) || decide (n = 1))]
theorem oOkC_eq (k n : Int) (s : ByteArray) (e : Int) (h : InI n) : oOkC k n s e = oOk k n s e := by
  unfold oOkC oOk
  rw [vOkC_eq k n s h]
  by_cases he : e = 0
  · simp [he, isErr]
  · simp [he]
theorem any_bad (r : List Val) (h : ∀ v ∈ r, InI v.int) : (r.any fun v => !vOkC v.kind v.int v.text) = !rowOk r := by
  induction r with
  | nil => rfl
  | cons v r ih =>
    have hi := ih (fun w hw => h w (List.mem_cons_of_mem _ hw))
    unfold rowOk at hi ⊢
    rw [List.any_cons, List.all_cons, hi, vOkC_eq _ _ _ (h v (by simp)), Bool.not_and]
theorem rowOkC_one (r : List Val) (h : ∀ v ∈ r, InI v.int) : rowOkC 1 r = (decide (r.length = 1) && rowOk r) := by
  unfold rowOkC
  rw [any_bad r h]
  by_cases hl : r.length = 1
  · simp [hl]
  · have : ¬ (r.length : Int) = 1 := by omega
    simp [hl, this]
theorem rowOkC_any (r : List Val) (h : ∀ v ∈ r, InI v.int) : rowOkC (-1) r = rowOk r := by
  unfold rowOkC
  rw [any_bad r h]
  simp
@[reducible] def InRs (rs : List (List Val)) : Prop := ∀ r ∈ rs, ∀ v ∈ r, InI v.int
theorem ocOkC_one (rs : List (List Val)) (e : Int) (h : InRs rs) : ocOkC rs e 1 = singleO rs e := by
  unfold ocOkC singleO ocOk
  by_cases he : e = 0
  · simp only [he, ne_eq, not_true, if_false]
    induction rs with
    | nil => rfl
    | cons r rs ih =>
      rw [List.all_cons, List.all_cons, List.all_cons, ih (fun x hx => h x (List.mem_cons_of_mem _ hx)), rowOkC_one r (h r (by simp))]
      cases decide (r.length = 1) <;> cases rowOk r <;> simp
  · simp only [ne_eq, he, not_false_eq_true, if_true]
    cases rs with
    | nil => simp
    | cons r rs => simp
theorem ocOkC_any (rs : List (List Val)) (e : Int) (h : InRs rs) : ocOkC rs e (-1) = ocOk rs e := by
  unfold ocOkC ocOk
  by_cases he : e = 0
  · simp only [he, ne_eq, not_true, if_false]
    induction rs with
    | nil => rfl
    | cons r rs ih => rw [List.all_cons, List.all_cons, ih (fun x hx => h x (List.mem_cons_of_mem _ hx)), rowOkC_any r (h r (by simp))]
  · simp only [ne_eq, he, not_false_eq_true, if_true]
theorem vEqC_comm (a b : Val) : vEqC a b = vEqC b a := by
  unfold vEqC
  rw [Bool.eq_iff_iff]
  simp only [Bool.and_eq_true, decide_eq_true_eq]
  exact ⟨fun ⟨x, y, z⟩ => ⟨x.symm, y.symm, z.symm⟩, fun ⟨x, y, z⟩ => ⟨x.symm, y.symm, z.symm⟩⟩
theorem inGo_eq (v : Val) (rs : List (List Val)) : ∀ null : Bool, inGo v rs (if null = true then nullO else boolO false) = inRGo v null rs := by
  induction rs with
  | nil => intro null; rfl
  | cons r rs ih =>
    intro null
    rw [inGo, inRGo, vEqC_comm]
    have h1 := ih true
    rw [if_pos rfl] at h1
    rw [h1, ih null]
theorem inO_eq (y : Outv) (rs : List (List Val)) (e : Int) (hy : InI y.v.int) (h : InRs rs) : inO y rs e = inR y rs e := by
  unfold inO inR
  rw [ocOkC_one rs e h]
  rw [show okC y = oOk y.v.kind y.v.int y.v.text y.err from oOkC_eq _ _ _ _ hy]
  split
  · rfl
  · have hg := inGo_eq y.v rs false
    rw [if_neg (by simp)] at hg
    rw [hg]
    by_cases h1 : y.err ≠ 0 ∧ (e = 0 ∨ y.err ≤ e)
    · have : leastE y.err e = y.err := by unfold leastE; rw [if_neg (by omega)]
      rw [if_pos h1, this, if_pos h1.1]
    · have : leastE y.err e = e := by unfold leastE; rw [if_pos (by omega)]
      rw [if_neg h1, this]
end Go.Proofs.YtmlaogjndaeihaaDoor
