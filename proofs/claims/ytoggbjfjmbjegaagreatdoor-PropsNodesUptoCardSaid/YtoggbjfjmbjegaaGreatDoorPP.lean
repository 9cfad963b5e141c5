/- Domains: what the program and the document make of them, and that it is the same. Plain Lean, no program. Validity. Signs and bits of 64-bit integers. Domains: what the program and the document make of them, and that it is the same. Plain Lean, no program. The plain law of CalcKinds: both ways to tell a kind are one. The domain of a node: as the program and as the document have it. Plain Lean, no program. The domain of a node: what the program and the document make of it is the same. Plain Lean, no program. -/
import Derived.Test.YtoggbjfjmbjegaaGreatDoorAb19
import Derived.Lib.Mul64
import Derived.Test.YtoggbjfjmbjegaaGreatDoorTK
set_option linter.unusedSimpArgs false
set_option linter.unusedVariables false
set_option linter.unusedSimpArgs false
set_option linter.unusedVariables false
namespace Go.Proofs.YtoggbjfjmbjegaaGreatDoor
open Go Go.Ab
structure Dom where
  kind : Int
  null : Bool
  fail : Bool
  some : Bool
  lo : Int
  hi : Int
deriving DecidableEq
def Dom.enc (d : Dom) : List AV := [.int .u8 d.kind, .bool d.null, .bool d.fail, .bool d.some, .int .i64 d.lo, .int .i64 d.hi]
def Dom.In (d : Dom) : Prop := 0 ≤ d.kind ∧ (-9223372036854775808 ≤ d.lo ∧ d.lo ≤ 9223372036854775807) ∧ (-9223372036854775808 ≤ d.hi ∧ d.hi ≤ 9223372036854775807)
@[reducible] def mI : Int := -9223372036854775808
@[reducible] def xI : Int := 9223372036854775807
/-! Valid. -/
def okD (d : Dom) : Bool :=
  if d.kind > 3 ∨ (d.some = true ∧ d.kind = 0) then false else if d.some = false then decide (d.lo = 0) && decide (d.hi = 0) else if d.lo > d.hi then false
  else if d.kind = 2 then decide (0 ≤ d.lo) && decide (d.hi ≤ 100) else if d.kind = 3 then decide (0 ≤ d.lo) && decide (d.hi ≤ 1) else true
def okDC (d : Dom) : Bool :=
  if d.some = false then decide (d.kind ≤ 3) && (decide (d.lo = 0) && decide (d.hi = 0))
  else if d.kind = 1 then decide (d.lo ≤ d.hi)
  else if d.kind = 2 then (if d.lo < 0 ∨ 100 < d.hi then false else decide (d.lo ≤ d.hi))
  else if d.kind = 3 then (if d.lo < 0 ∨ 1 < d.hi then false else decide (d.lo ≤ d.hi))
  else false
theorem okD_eq (d : Dom) (h : 0 ≤ d.kind) : okDC d = okD d := by
  obtain ⟨k, n, f, s, lo, hi⟩ := d
  simp only at h
  rw [Bool.eq_iff_iff]
  cases s
  · simp only [okDC, okD]
    by_cases h3 : 3 < k
    · simp [h3]; omega
    · simp [h3]; omega
  · by_cases h1 : k = 1
    · subst h1; simp [okDC, okD]
    · by_cases h2 : k = 2
      · subst h2; simp [okDC, okD]; omega
      · by_cases h3 : k = 3
        · subst h3; simp [okDC, okD]; omega
        · simp [okDC, okD, h1, h2, h3]; intro _ _; omega
theorem okD_cases {d : Dom} (h : okD d = true) (hk : 0 ≤ d.kind) : d.kind ≤ 3 ∧ (d.some = false → d.lo = 0 ∧ d.hi = 0) ∧ (d.some = true → d.kind ≠ 0 ∧ d.lo ≤ d.hi ∧ (d.kind = 2 → 0 ≤ d.lo ∧ d.hi ≤ 100) ∧ (d.kind = 3 → 0 ≤ d.lo ∧ d.hi ≤ 1)) := by
  obtain ⟨k, n, f, s, lo, hi⟩ := d
  simp only [okD] at h hk ⊢
  cases s
  · by_cases h3 : k > 3
    · simp [h3] at h
    · simp [h3] at h; simp; omega
  · by_cases h3 : k > 3
    · simp [h3] at h
    · by_cases h0 : k = 0
      · simp [h0] at h
      · by_cases hl : lo > hi
        · simp [h3, h0, hl] at h
        · simp only [h3, h0, hl, and_false, or_false, if_false, Bool.true_eq_false] at h
          refine ⟨by omega, by simp, fun _ => ⟨h0, by omega, fun h2 => ?_, fun h2 => ?_⟩⟩
          · subst h2; simpa using h
          · subst h2; simpa using h
@[reducible] def In64 (n : Int) : Prop := -9223372036854775808 ≤ n ∧ n ≤ 9223372036854775807
theorem wrap_bv (r : BitVec 64) : IntKind.wrap .i64 (r.toNat : Int) = r.toInt := by
  have e : IntKind.wrap .i64 (r.toNat : Int) = (if (true && decide ((r.toNat : Int) % 18446744073709551616 ≥ 9223372036854775808)) = true then (r.toNat : Int) % 18446744073709551616 - 18446744073709551616 else (r.toNat : Int) % 18446744073709551616) := rfl
  have h := r.isLt
  rw [e, BitVec.toInt_eq_toNat_cond]
  simp only [Bool.true_and, decide_eq_true_eq]
  split <;> split <;> omega
theorem bitA_xor (a b : Int) : bitA .xor .i64 a b = (BitVec.ofInt 64 a ^^^ BitVec.ofInt 64 b).toInt := wrap_bv _
theorem bitA_and (a b : Int) : bitA .and .i64 a b = (BitVec.ofInt 64 a &&& BitVec.ofInt 64 b).toInt := wrap_bv _
theorem msb_int (a : Int) (h : In64 a) : (BitVec.ofInt 64 a).msb = decide (a < 0) := by
  rw [BitVec.msb_eq_toInt, BitVec.toInt_ofInt]
  congr 1
  have : a.bmod (2 ^ 64) = a := by
    obtain ⟨h1, h2⟩ := h
    rw [Int.bmod_def]
    split <;> omega
  rw [this]
theorem over_bits {a b c d : Int} (ha : In64 a) (hb : In64 b) (hc : In64 c) (hd : In64 d) : (bitA .and .i64 (bitA .xor .i64 a b) (bitA .xor .i64 c d) < 0) ↔ ((a < 0) ≠ (b < 0)) ∧ ((c < 0) ≠ (d < 0)) := by
  rw [bitA_and, bitA_xor, bitA_xor, BitVec.ofInt_toInt, BitVec.ofInt_toInt]
  rw [← decide_eq_true_iff (p := BitVec.toInt _ < 0), ← BitVec.msb_eq_toInt, BitVec.msb_and, BitVec.msb_xor, BitVec.msb_xor, msb_int a ha, msb_int b hb, msb_int c hc, msb_int d hd]
  by_cases h1 : a < 0 <;> by_cases h2 : b < 0 <;> by_cases h3 : c < 0 <;> by_cases h4 : d < 0 <;> simp [h1, h2, h3, h4]
theorem wrap_i64 (n : Int) : In64 (IntKind.wrap .i64 n) ∧ (In64 n → IntKind.wrap .i64 n = n) ∧ (IntKind.wrap .i64 n - n) % 18446744073709551616 = 0 := by
  have e : IntKind.wrap .i64 n = (if (true && decide (n % 18446744073709551616 ≥ 9223372036854775808)) = true then n % 18446744073709551616 - 18446744073709551616 else n % 18446744073709551616) := rfl
  rw [e]
  simp only [Bool.true_and, decide_eq_true_eq]
  refine ⟨?_, fun h => ?_, ?_⟩
  · split <;> constructor <;> omega
  · obtain ⟨h1, h2⟩ := h; split <;> omega
  · split <;> omega
def arI (n : Int) : Int × Int := if -9223372036854775808 ≤ n ∧ n ≤ 9223372036854775807 then (n, 0) else (0, 4)
theorem add_over {a b : Int} (ha : In64 a) (hb : In64 b) : (bitA .and .i64 (bitA .xor .i64 a (IntKind.wrap .i64 (a + b))) (bitA .xor .i64 b (IntKind.wrap .i64 (a + b))) < 0) ↔ ¬ In64 (a + b) := by
  obtain ⟨h1, h2, h3⟩ := wrap_i64 (a + b)
  rw [over_bits ha h1 hb h1]
  generalize IntKind.wrap .i64 (a + b) = c at h1 h2 h3 ⊢
  obtain ⟨a1, a2⟩ := ha
  obtain ⟨b1, b2⟩ := hb
  obtain ⟨c1, c2⟩ := h1
  by_cases hr : In64 (a + b)
  · have := h2 hr
    simp only [hr, not_true, iff_false, ne_eq, eq_iff_iff]
    unfold In64 at hr
    omega
  · simp only [hr, not_false_eq_true, iff_true, ne_eq, eq_iff_iff]
    unfold In64 at hr
    omega
theorem sub_over {a b : Int} (ha : In64 a) (hb : In64 b) : (bitA .and .i64 (bitA .xor .i64 a b) (bitA .xor .i64 a (IntKind.wrap .i64 (a - b))) < 0) ↔ ¬ In64 (a - b) := by
  obtain ⟨h1, h2, h3⟩ := wrap_i64 (a - b)
  rw [over_bits ha hb ha h1]
  generalize IntKind.wrap .i64 (a - b) = c at h1 h2 h3 ⊢
  obtain ⟨a1, a2⟩ := ha
  obtain ⟨b1, b2⟩ := hb
  obtain ⟨c1, c2⟩ := h1
  by_cases hr : In64 (a - b)
  · have := h2 hr
    simp only [hr, not_true, iff_false, ne_eq, eq_iff_iff]
    unfold In64 at hr
    omega
  · simp only [hr, not_false_eq_true, iff_true, ne_eq, eq_iff_iff]
    unfold In64 at hr
    omega
theorem wrap_u64 (n : Int) : IntKind.u64.wrap n = n % 18446744073709551616 := rfl
theorem wrapN (n : Nat) (h : n < 18446744073709551616) : IntKind.u64.wrap (n : Int) = n := by rw [wrap_u64]; omega
theorem maskA (x : Nat) (hx : x < 18446744073709551616) : bitA .and .u64 (x : Int) 4294967295 = ((x % 4294967296 : Nat) : Int) := by
  have e : bitA .and .u64 (x : Int) 4294967295 = IntKind.u64.wrap ((BitVec.ofInt 64 (x : Int) &&& BitVec.ofInt 64 4294967295).toNat : Int) := rfl
  have e1 : (BitVec.ofInt 64 (x : Int)).toNat = x := by
    rw [BitVec.toNat_ofInt]; omega
  have e2 : (BitVec.ofInt 64 4294967295).toNat = 4294967295 := by rfl
  rw [e, BitVec.toNat_and, e1, e2, show (4294967295 : Nat) = 2 ^ 32 - 1 from rfl, Nat.and_two_pow_sub_one_eq_mod]
  exact wrapN _ (by omega)
theorem shr32 (x : Nat) : (x : Int).fdiv (2 ^ min 32 64) = ((x / 4294967296 : Nat) : Int) := by
  rw [show min 32 64 = 32 from rfl, show ((2 : Int) ^ 32) = ((4294967296 : Nat) : Int) from rfl, Int.fdiv_eq_ediv_of_nonneg _ (by omega)]
  rfl
theorem tdiv_in {a b : Int} (ha : In64 a) (h0 : b ≠ 0) (h1 : b ≠ -1) : In64 (Int.tdiv a b) := by
  obtain ⟨a1, a2⟩ := ha
  by_cases hb : b = 1
  · subst hb; rw [Int.tdiv_one]; exact ⟨a1, a2⟩
  · have h := Int.natAbs_tdiv a b
    have h2 : a.natAbs / b.natAbs ≤ a.natAbs / 2 := Nat.div_le_div_left (by omega) (by omega)
    have h3 : (Int.tdiv a b).natAbs ≤ a.natAbs / 2 := by rw [h]; exact h2
    have hr := Int.natAbs_eq (Int.tdiv a b)
    have hA := Int.natAbs_eq a
    revert h3 hr hA
    generalize (Int.tdiv a b).natAbs = R
    generalize Int.tdiv a b = r
    generalize a.natAbs = A
    intro h3 hr hA
    constructor <;> omega
theorem mul_mag {a b : Int} (ha : In64 a) (hb : In64 b) : a.natAbs * b.natAbs ≤ 85070591730234615865843651857942052864 := Nat.mul_le_mul (show a.natAbs ≤ 9223372036854775808 by obtain ⟨_, _⟩ := ha; omega) (show b.natAbs ≤ 9223372036854775808 by obtain ⟨_, _⟩ := hb; omega)
theorem mul_sign (a b : Int) : a * b = if (decide (a < 0) = decide (b < 0)) then ((a.natAbs * b.natAbs : Nat) : Int) else -((a.natAbs * b.natAbs : Nat) : Int) := by
  rw [Int.natCast_mul]
  by_cases h : a < 0 <;> by_cases k : b < 0
  · rw [if_pos (by simp [h, k]), Int.ofNat_natAbs_of_nonpos (by omega), Int.ofNat_natAbs_of_nonpos (by omega), Int.neg_mul_neg]
  · rw [if_neg (by simp [h, k]), Int.ofNat_natAbs_of_nonpos (by omega), Int.natAbs_of_nonneg (by omega : 0 ≤ b), Int.neg_mul, Int.neg_neg]
  · rw [if_neg (by simp [h, k]), Int.ofNat_natAbs_of_nonpos (a := b) (by omega), Int.natAbs_of_nonneg (by omega : 0 ≤ a), Int.mul_neg, Int.neg_neg]
  · rw [if_pos (by simp [h, k]), Int.natAbs_of_nonneg (by omega : 0 ≤ a), Int.natAbs_of_nonneg (by omega : 0 ≤ b)]
@[reducible] def emptyD (d : Dom) : Bool := !d.null && (!d.fail && !d.some)
/-! Intervals of exact integers. -/
def minL (v : Int) (vs : List Int) : Int := vs.foldl (fun a b => if b < a then b else a) v
def maxL (v : Int) (vs : List Int) : Int := vs.foldl (fun a b => if a < b then b else a) v
def spanD (d : Dom) (lo hi : Int) : Dom :=
  if (if xI < hi then xI else hi) < (if lo < mI then mI else lo) then { d with fail := d.fail || (decide (lo < mI) || decide (xI < hi)) }
  else ⟨d.kind, d.null, d.fail || (decide (lo < mI) || decide (xI < hi)), true, if lo < mI then mI else lo, if xI < hi then xI else hi⟩
def interD (d : Dom) (v : Int) (vs : List Int) : Dom := spanD d (minL v vs) (maxL v vs)
structure En where
  side : Int
  n : Int
deriving DecidableEq
def En.enc (e : En) : List AV := [.int .i64 e.side, .int .i64 e.n]
def endOf (v : Int) : En := if v < mI then ⟨-1, 0⟩ else if xI < v then ⟨1, 0⟩ else ⟨0, v⟩
def belowE (a b : En) : Bool := if a.side ≠ b.side then decide (a.side < b.side) else decide (a.side = 0) && decide (a.n < b.n)
def minE (v : En) (vs : List En) : En := vs.foldl (fun a b => if belowE b a = true then b else a) v
def maxE (v : En) (vs : List En) : En := vs.foldl (fun a b => if belowE a b = true then b else a) v
def givesD (d : Dom) (x y : En) : Dom :=
  if 0 < x.side ∨ y.side < 0 then { d with fail := d.fail || (decide (x.side < 0) || decide (0 < y.side)) }
  else ⟨d.kind, d.null, d.fail || (decide (x.side < 0) || decide (0 < y.side)), true, if x.side < 0 then mI else x.n, if 0 < y.side then xI else y.n⟩
theorem below_end (a b : Int) : belowE (endOf a) (endOf b) = true ↔ (a < b ∧ endOf a ≠ endOf b) := by
  unfold endOf belowE mI xI
  by_cases h1 : a < -9223372036854775808 <;> by_cases h2 : b < -9223372036854775808 <;> by_cases h3 : 9223372036854775807 < a <;> by_cases h4 : 9223372036854775807 < b <;> simp [h1, h2, h3, h4] <;> omega
theorem pick_min (a b : Int) : endOf (if b < a then b else a) = if belowE (endOf b) (endOf a) = true then endOf b else endOf a := by
  by_cases h : belowE (endOf b) (endOf a) = true
  · rw [if_pos h, if_pos ((below_end _ _).1 h).1]
  · rw [if_neg h]
    split
    · rename_i hl
      exact Classical.byContradiction fun hne => h ((below_end _ _).2 ⟨hl, hne⟩)
    · rfl
theorem pick_max (a b : Int) : endOf (if a < b then b else a) = if belowE (endOf a) (endOf b) = true then endOf b else endOf a := by
  by_cases h : belowE (endOf a) (endOf b) = true
  · rw [if_pos h, if_pos ((below_end _ _).1 h).1]
  · rw [if_neg h]
    split
    · rename_i hl
      exact Classical.byContradiction fun hne => h ((below_end _ _).2 ⟨hl, fun e => hne e.symm⟩)
    · rfl
theorem minE_end (vs : List Int) : ∀ v, minE (endOf v) (vs.map endOf) = endOf (minL v vs) := by
  induction vs with
  | nil => intro v; rfl
  | cons x r ih => intro v; simp only [List.map_cons, minE, minL, List.foldl_cons, ← pick_min] at ih ⊢; exact ih _
theorem maxE_end (vs : List Int) : ∀ v, maxE (endOf v) (vs.map endOf) = endOf (maxL v vs) := by
  induction vs with
  | nil => intro v; rfl
  | cons x r ih => intro v; simp only [List.map_cons, maxE, maxL, List.foldl_cons, ← pick_max] at ih ⊢; exact ih _
theorem gives_span (d : Dom) (lo hi : Int) (h : lo ≤ hi) : givesD d (endOf lo) (endOf hi) = spanD d lo hi := by
  obtain ⟨k, n, f, s, l, u⟩ := d
  unfold givesD spanD endOf mI xI
  by_cases h1 : lo < -9223372036854775808 <;> by_cases h2 : hi < -9223372036854775808 <;> by_cases h3 : 9223372036854775807 < lo <;> by_cases h4 : 9223372036854775807 < hi <;> simp [h1, h2, h3, h4] <;> omega
theorem minL_le (vs : List Int) : ∀ v, minL v vs ≤ v := by
  induction vs with
  | nil => intro v; exact Int.le_refl _
  | cons x r ih => intro v; have h := ih (if x < v then x else v); simp only [minL, List.foldl_cons] at h ⊢; refine Int.le_trans h ?_; split <;> omega
theorem le_maxL (vs : List Int) : ∀ v, v ≤ maxL v vs := by
  induction vs with
  | nil => intro v; exact Int.le_refl _
  | cons x r ih => intro v; have h := ih (if v < x then x else v); simp only [maxL, List.foldl_cons] at h ⊢; refine Int.le_trans ?_ h; split <;> omega
theorem gives_inter (d : Dom) (v : Int) (vs : List Int) : givesD d (minE (endOf v) (vs.map endOf)) (maxE (endOf v) (vs.map endOf)) = interD d v vs := by
  rw [minE_end, maxE_end, gives_span]
  · rfl
  · exact Int.le_trans (minL_le vs v) (le_maxL vs v)
section
theorem foldl_mx_ge (l : List Int) : ∀ a : Int, a ≤ l.foldl mx a := by
  induction l with
  | nil => intro a; simp
  | cons x r ih =>
    intro a
    have := ih (mx a x)
    simp only [List.foldl_cons]
    have h2 : a ≤ mx a x := by unfold mx; split <;> omega
    omega
theorem agree_self (a : Int) : agree a a = true := by simp [agree]
theorem agree_zero (a : Int) : agree 0 a = true := by simp [agree]
theorem agree_zero' (a : Int) : agree a 0 = true := by simp [agree]
theorem agree_comm (a b : Int) : agree a b = agree b a := by
  unfold agree; rw [Bool.eq_iff_iff]; simp; omega
theorem agree_iff (a b : Int) : agree a b = true ↔ a = b ∨ a = 0 ∨ b = 0 := by simp [agree, or_assoc]
theorem commonGo_iff (l : List Int) : ∀ a : Int, 0 ≤ a → (∀ x ∈ l, 0 ≤ x) →
    ((commonGo a l).2 = true ↔ agree a (l.foldl mx a) = true ∧ ∀ x ∈ l, agree x (l.foldl mx a) = true) ∧ ((commonGo a l).2 = true → (commonGo a l).1 = l.foldl mx a) := by
  induction l with
  | nil => intro a _ _; simp [commonGo, agree_self]
  | cons x r ih =>
    intro a ha hl
    have hx := hl x (by simp)
    rw [commonGo]
    split
    · rename_i hax
      have hM : (if a = 0 then x else a) = mx a x := by
        rw [agree_iff] at hax
        unfold mx
        split <;> split <;> omega
      obtain ⟨h1, h2⟩ := ih (if a = 0 then x else a) (by split <;> omega) (fun y hy => hl y (by simp [hy]))
      rw [hM] at h1 h2
      rw [hM]
      simp only [List.foldl_cons]
      refine ⟨?_, h2⟩
      rw [h1]
      simp only [List.mem_cons, forall_eq_or_imp]
      have : agree (mx a x) (r.foldl mx (mx a x)) = true ↔ agree a (r.foldl mx (mx a x)) = true ∧ agree x (r.foldl mx (mx a x)) = true := by
        simp only [agree_iff] at hax ⊢
        rw [← hM]
        split <;> omega
      rw [this, and_assoc]
    · rename_i hax
      simp only [Bool.false_eq_true, false_iff, false_implies, and_true, not_and, List.foldl_cons]
      intro h3 h4
      have h5 := h4 x (by simp)
      have h6 := foldl_mx_ge r (mx a x)
      rw [agree_iff] at hax h3 h5
      have h7 : a ≤ mx a x ∧ x ≤ mx a x := by unfold mx; split <;> omega
      omega
theorem commonC_eq (l : List Int) (hl : ∀ x ∈ l, 0 ≤ x) : (commonC l).2 = (commonGo 0 l).2 ∧ ((commonC l).2 = true → (commonC l).1 = (commonGo 0 l).1) := by
  obtain ⟨h1, h2⟩ := commonGo_iff l 0 (by omega) hl
  have e : (commonC l).2 = (commonGo 0 l).2 := by
    rw [Bool.eq_iff_iff, h1]
    simp [commonC, maxOf, agree_zero]
  refine ⟨e, fun h => ?_⟩
  rw [e] at h
  rw [h2 h]
  rfl
theorem commonGo_pos (t : Int) (ht : t ≠ 0) (l : List Int) : commonGo t l = if (l.all fun x => agree x t) = true then (t, true) else (0, false) := by
  induction l with
  | nil => simp [commonGo]
  | cons x r ih =>
    rw [commonGo, if_neg ht, ih, agree_comm t x]
    by_cases h : agree x t = true
    · simp [h]
    · simp [h]
theorem commonC_pos (t : Int) (ht : 0 < t) (l : List Int) (hl : ∀ x ∈ l, 0 ≤ x) : (commonC (t :: l)).2 = l.all fun x => agree x t := by
  rw [(commonC_eq (t :: l) (by intro x hx; rcases List.mem_cons.1 hx with rfl | hx; omega; exact hl x hx)).1, commonGo, if_pos (agree_zero t), if_pos rfl, commonGo_pos t (by omega)]
  split
  · rename_i h; rw [h]
  · rename_i h; simp only [Bool.not_eq_true] at h; rw [h]
theorem caseC_eq (l : List Int) : ∀ (even : Bool) (out : List Int), caseC even out l = if ((caseGo even l).1.all fun x => agree x 3) = true then some (out ++ (caseGo even l).2) else none := by
  induction l with
  | nil => intro even out; simp [caseC, caseGo]
  | cons x r ih =>
    intro even out
    rw [caseC, caseGo]
    split
    · rw [ih]
      by_cases h : agree x 3 = true
      · simp [h]
      · simp [h]
    · rw [ih]
      simp
theorem caseGo_mem (l : List Int) : ∀ (even : Bool) (x : Int), x ∈ (caseGo even l).2 → x ∈ l := by
  induction l with
  | nil => intro even x; simp [caseGo]
  | cons y r ih =>
    intro even x
    rw [caseGo]
    split
    · intro h; exact List.mem_cons_of_mem _ (ih _ _ h)
    · intro h
      rcases List.mem_cons.1 h with rfl | h
      · simp
      · exact List.mem_cons_of_mem _ (ih _ _ h)
theorem kinds_fixed {op n t g s : Int} {ks : List Int} (hsig : sigOf op = (⟨n, n, t, g⟩, true)) (h25 : op ≠ 25) (h26 : op ≠ 26) (hso : sortOf op = (s, n)) (hs : s ≠ 0 ∧ s ≠ 9 ∧ s ≠ 10) (hn : 0 ≤ n)
    (hk : (ks.length : Int) = n → kindOf s ks = (g, (commonC (t :: ks)).2)) (e3 : (ks.any fun k => decide (3 < k)) = false) : kindC op ks = refKind op ks := by
  unfold kindC refKind
  simp only [hsig, if_neg h25, if_neg h26, hso, e3, Bool.false_eq_true, or_false, if_false, false_or, Bool.true_eq_false, hs.1, hs.2.1, hs.2.2, false_and]
  by_cases hlen : (ks.length : Int) = n
  · refine Eq.trans (if_neg (by omega)) (Eq.trans ?_ (if_neg (by omega)).symm)
    rw [hk hlen]
  · refine Eq.trans (if_pos (by omega)) (if_pos (by omega)).symm
theorem kinds_alike (op : Int) (ks : List Int) (hl : ks.length < 2 ^ 62) (hk : ∀ x ∈ ks, 0 ≤ x) : kindC op ks = refKind op ks := by
  by_cases h3 : (ks.any fun k => decide (3 < k)) = true
  · unfold kindC refKind
    simp only [h3, or_true, if_true, ite_self]
  · have e3 : (ks.any fun k => decide (3 < k)) = false := by simpa using h3
    have hc0 := commonC_eq (0 :: ks) (by intro x hx; rcases List.mem_cons.1 hx with rfl | hx; omega; exact hk x hx)
    have hg0 : commonGo 0 (0 :: ks) = commonGo 0 ks := by rw [commonGo, if_pos (agree_zero 0), if_pos rfl]
    rw [hg0] at hc0
    have p1 := commonC_pos 1 (by omega) ks hk
    have p2 := commonC_pos 2 (by omega) ks hk
    have p3 := commonC_pos 3 (by omega) ks hk
    have two : (ks.length : Int) = 2 → ∃ a b, ks = [a, b] := fun h => by
      match ks, h with
      | [a, b], _ => exact ⟨a, b, rfl⟩
      | [], h => simp at h
      | [_], h => simp at h
      | _ :: _ :: _ :: _, h => simp at h; omega
    have one : (ks.length : Int) = 1 → ∃ a, ks = [a] := fun h => by
      match ks, h with
      | [a], _ => exact ⟨a, rfl⟩
      | [], h => simp at h
      | _ :: _ :: _, h => simp at h; omega
    have heq : (ks.length : Int) = 2 → kindOf 4 ks = (3, (commonC (0 :: ks)).2) := fun h => by
      obtain ⟨a, b, rfl⟩ := two h
      rw [hc0.1]
      simp only [kindOf, commonGo, agree_zero, if_true]
      by_cases hab : agree a b = true
      · simp [hab]
      · simp [hab]
    have hnull : (ks.length : Int) = 1 → kindOf 6 ks = (3, (commonC (0 :: ks)).2) := fun h => by
      obtain ⟨a, rfl⟩ := one h
      rw [hc0.1]
      simp [kindOf, commonGo, agree_zero]
    have hcase : caseKindC ks = if (kindOf 9 ks).2 = true then ((kindOf 9 ks).1, 0) else (0, 50) := by
      unfold caseKindC
      rw [caseC_eq]
      have ho := commonC_eq (caseGo true ks).2 (fun x hx => hk x (caseGo_mem ks true x hx))
      have k9 : kindOf 9 ks = ((commonGo 0 (caseGo true ks).2).1, (commonGo 0 (caseGo true ks).2).2 && (caseGo true ks).1.all fun x => agree x 3) := by simp [kindOf]
      rw [k9]
      by_cases h : ((caseGo true ks).1.all fun x => agree x 3) = true
      · rw [if_pos h]
        simp only [List.nil_append, h, Bool.and_true]
        rw [← ho.1]
        split
        · rename_i h2; rw [ho.2 h2]
        · rfl
      · rw [if_neg h]
        simp only [Bool.not_eq_true] at h
        simp [h]
    have hand : op = 23 ∨ op = 24 → kindC op ks = refKind op ks := fun h => by
      have hsig : sigOf op = (⟨0, 2 ^ 62, 3, 3⟩, true) := by rcases h with rfl | rfl <;> rfl
      have hso : sortOf op = (8, -1) := by rcases h with rfl | rfl <;> rfl
      have h25 : op ≠ 25 := by omega
      have h26 : op ≠ 26 := by omega
      unfold kindC refKind
      simp only [hsig, if_neg h25, if_neg h26, hso, e3, Bool.false_eq_true, or_false, if_false, false_or, Bool.true_eq_false]
      refine Eq.trans (if_neg (by omega)) (Eq.trans ?_ (if_neg (by omega)).symm)
      rw [p3]
      simp [kindOf]
    by_cases o4 : op = 4
    · subst o4; exact kinds_fixed (n := 1) (t := 1) (g := 1) (s := 1) rfl (by decide) (by decide) rfl (by decide) (by decide) (fun _ => by rw [p1]; simp [kindOf]) e3
    by_cases o5 : op = 5 ∨ op = 6 ∨ op = 7 ∨ op = 8 ∨ op = 9
    · exact kinds_fixed (n := 2) (t := 1) (g := 1) (s := 1) (by simp [sigOf, o4, o5]) (by omega) (by omega) (by simp [sortOf, o4, o5]) (by decide) (by decide) (fun _ => by rw [p1]; simp [kindOf]) e3
    by_cases o10 : op = 10
    · subst o10; exact kinds_fixed (n := 2) (t := 2) (g := 2) (s := 2) rfl (by decide) (by decide) rfl (by decide) (by decide) (fun _ => by rw [p2]; simp [kindOf]) e3
    by_cases o11 : op = 11
    · subst o11; exact kinds_fixed (n := 1) (t := 2) (g := 1) (s := 3) rfl (by decide) (by decide) rfl (by decide) (by decide) (fun _ => by rw [p2]; simp [kindOf]) e3
    by_cases o12 : op = 12 ∨ op = 13 ∨ op = 14 ∨ op = 15 ∨ op = 16 ∨ op = 17 ∨ op = 18
    · exact kinds_fixed (n := 2) (t := 0) (g := 3) (s := 4) (by simp [sigOf, o4, o5, o10, o11, o12, (show op ≠ 19 by omega)]) (by omega) (by omega) (by simp [sortOf, o4, o5, o10, o11, o12]) (by decide) (by decide) heq e3
    by_cases o19 : op = 19
    · subst o19; exact kinds_fixed (n := 2) (t := 2) (g := 3) (s := 5) rfl (by decide) (by decide) rfl (by decide) (by decide) (fun _ => by rw [p2]; simp [kindOf]) e3
    by_cases o20 : op = 20
    · subst o20; exact kinds_fixed (n := 1) (t := 0) (g := 3) (s := 6) rfl (by decide) (by decide) rfl (by decide) (by decide) hnull e3
    by_cases o21 : op = 21 ∨ op = 22
    · exact kinds_fixed (n := 1) (t := 3) (g := 3) (s := 7) (by rcases o21 with rfl | rfl <;> rfl) (by omega) (by omega) (by rcases o21 with rfl | rfl <;> rfl) (by decide) (by decide) (fun _ => by rw [p3]; simp [kindOf]) e3
    by_cases o23 : op = 23 ∨ op = 24
    · exact hand o23
    by_cases o25 : op = 25
    · subst o25
      unfold kindC refKind
      have hso : sortOf 25 = (9, -1) := rfl
      simp only [hso, e3, Bool.false_eq_true, or_false, if_false, false_or, Bool.true_eq_false, if_true, hcase, true_and]
      by_cases hlen : ks.length < 2
      · refine Eq.trans (if_pos (by omega)) (if_pos (by omega)).symm
      · refine Eq.trans (if_neg (by omega)) (if_neg (by omega)).symm
    by_cases o26 : op = 26
    · subst o26
      unfold kindC refKind
      have hso : sortOf 26 = (10, -1) := rfl
      have hsig : sigOf 26 = (⟨1, 2 ^ 62, 0, 0⟩, true) := rfl
      have k10 : kindOf 10 ks = commonGo 0 ks := by simp [kindOf]
      simp only [hso, hsig, e3, Bool.false_eq_true, or_false, if_false, false_or, Bool.true_eq_false, if_true, k10, Int.reduceEq, true_and, false_and, or_false, false_or, Int.reduceNeg, Int.reduceLE]
      by_cases hlen : ks.length < 1
      · refine Eq.trans (if_pos (by omega)) (if_pos (by omega)).symm
      · refine Eq.trans (if_neg (by omega)) (Eq.trans ?_ (if_neg (by omega)).symm)
        rw [← hc0.1]
        split
        · rename_i h; rw [hc0.2 h]
        · rfl
    · have hso : sortOf op = (0, 0) := by simp [sortOf, o4, o5, o10, o11, o12, o19, o20, o21, o23, o25, o26]
      have hsig : sigOf op = (⟨0, 0, 0, 0⟩, false) := by simp [sigOf, o4, o5, o10, o11, o12, o19, o20, o21, o23, o25, o26]
      unfold kindC refKind
      simp [hso, hsig, o25]
end
def Dom.Ok (d : Dom) : Prop := okD d = true ∧ d.In
@[reducible] def mayBe (d : Dom) (b : Int) : Bool := d.some && (decide (d.kind = 3) && (decide (d.lo ≤ b) && decide (b ≤ d.hi)))
@[reducible] def mayD (d : Dom) : Bool := d.some && (decide (d.kind = 3) && decide (d.hi = 1))
@[reducible] def mayNotD (d : Dom) : Bool := d.some && (decide (d.kind = 3) && decide (d.lo = 0))
theorem mayBe_1 {d : Dom} (h : d.Ok) : mayBe d 1 = mayD d := by
  have := okD_cases h.1 h.2.1
  obtain ⟨k, n, f, s, lo, hi⟩ := d
  cases s
  · rfl
  · simp only [mayBe, mayD, Bool.true_and] at this ⊢
    by_cases hk : k = 3
    · subst hk; simp at this ⊢; rw [Bool.eq_iff_iff]; simp; omega
    · simp [hk]
theorem mayBe_0 {d : Dom} (h : d.Ok) : mayBe d 0 = mayNotD d := by
  have := okD_cases h.1 h.2.1
  obtain ⟨k, n, f, s, lo, hi⟩ := d
  cases s
  · rfl
  · simp only [mayBe, mayNotD, Bool.true_and] at this ⊢
    by_cases hk : k = 3
    · subst hk; simp at this ⊢; rw [Bool.eq_iff_iff]; simp; omega
    · simp [hk]
def truthD (d : Dom) (yes no : Bool) : Dom := ⟨3, d.null, d.fail, yes || no, if yes && !no then 1 else 0, if yes then 1 else 0⟩
/-! Comparisons. -/
def alike (c d : Dom) : Bool × Bool := (decide (c.lo ≤ d.hi) && decide (d.lo ≤ c.hi), if c.kind = 2 then decide (0 < c.hi) || decide (0 < d.hi) else decide (c.lo ≠ c.hi) || (decide (d.lo ≠ d.hi) || decide (c.lo ≠ d.lo)))
def sameC (c d : Dom) : Bool × Bool :=
  (decide ((if c.lo < d.lo then d.lo else c.lo) ≤ (if d.hi < c.hi then d.hi else c.hi)), if c.kind = 2 then decide (0 < IntKind.wrap .i64 (c.hi + d.hi)) else decide ((if d.lo < c.lo then d.lo else c.lo) ≠ (if c.hi < d.hi then d.hi else c.hi)))
theorem sameC_eq {c d : Dom} (hc : c.Ok) (hd : d.Ok) (sc : c.some = true) (sd : d.some = true) (hk : c.kind = d.kind) : sameC c d = alike c d := by
  have h1 := (okD_cases hc.1 hc.2.1).2.2 sc
  have h2 := (okD_cases hd.1 hd.2.1).2.2 sd
  unfold sameC alike
  congr 1
  · rw [Bool.eq_iff_iff]; simp only [decide_eq_true_eq, Bool.and_eq_true]; split <;> split <;> omega
  · split
    · rename_i hk2
      have h3 := h1.2.2.1 hk2
      have h4 := h2.2.2.1 (by omega)
      rw [(wrap_i64 _).2.1 (by constructor <;> omega)]
      rw [Bool.eq_iff_iff]; simp only [decide_eq_true_eq, Bool.or_eq_true]; omega
    · rw [Bool.eq_iff_iff]; simp only [decide_eq_true_eq, Bool.or_eq_true]; split <;> split <;> omega
def beforeD (c d : Dom) : Bool × Bool := if c.kind = 2 then (decide (0 < d.hi), decide (0 < c.hi) || decide (d.lo = 0)) else (decide (c.lo < d.hi), decide (d.lo ≤ c.hi))
@[reducible] def swapP (p : Bool × Bool) : Bool × Bool := (p.2, p.1)
def cmpWith (al : Bool × Bool) (op : Int) (c d : Dom) : Bool × Bool :=
  if op = 13 then swapP al else if op = 14 then beforeD c d else if op = 17 then swapP (beforeD c d) else if op = 16 then beforeD d c else if op = 15 then swapP (beforeD d c) else al
/-! Strict operators on values. -/
@[reducible] def exs (a b : Int) (v : Int) : Bool := decide (v ≠ 0) && (decide (a ≤ v) && decide (v ≤ b))
def byOf (b : Dom) : List Int := [b.lo, b.hi, 1, -1].filter (exs b.lo b.hi)
@[reducible] def zeroIn (b : Dom) : Bool := decide (b.lo ≤ 0) && decide (0 ≤ b.hi)
@[reducible] def addFail (d : Dom) (f : Bool) : Dom := { d with fail := d.fail || f }
def interL (d : Dom) : List Int → Dom
  | [] => d
  | v :: vs => interD d v vs
def endsOf (a b : Dom) : List Int := (byOf b).flatMap fun n => [Int.tdiv a.lo n, Int.tdiv a.hi n]
def sizeI (n : Int) : Int := if n < 0 then -(n + 1) else n - 1
def remD (d a : Dom) (m : Int) : Dom := ⟨d.kind, d.null, d.fail, true, if a.lo < 0 then (if a.lo < -m then -m else a.lo) else 0, if 0 < a.hi then (if m < a.hi then m else a.hi) else 0⟩
def mC (l : List Int) : Int := l.foldl (fun m n => if m < sizeI n then sizeI n else m) 0
def mR (b : Dom) : Int := let m := if b.lo ≠ 0 then sizeI b.lo else 0; if b.hi ≠ 0 ∧ m < sizeI b.hi then sizeI b.hi else m
theorem sizeI_nn {n : Int} (h : n ≠ 0) : 0 ≤ sizeI n := by unfold sizeI; split <;> omega
theorem by_nil {b : Dom} (h : b.lo ≤ b.hi) : byOf b = [] ↔ (b.lo = 0 ∧ b.hi = 0) := by
  unfold byOf
  constructor
  · intro h2
    rw [List.filter_eq_nil_iff] at h2
    have h3 := h2 b.lo (by simp)
    have h4 := h2 b.hi (by simp)
    simp at h3 h4
    omega
  · rintro ⟨h1, h2⟩
    rw [List.filter_eq_nil_iff]
    intro x hx
    simp [h1, h2] at hx ⊢
    omega
theorem mC_eq {b : Dom} (h : b.lo ≤ b.hi) : mC (byOf b) = mR b := by
  have s1 : sizeI 1 = 0 := rfl
  have s2 : sizeI (-1) = 0 := rfl
  have z1 := @sizeI_nn b.lo
  have z2 := @sizeI_nn b.hi
  have key : ∀ l : List Int, (∀ x ∈ l, x = 1 ∨ x = -1) → ∀ m : Int, 0 ≤ m → l.foldl (fun m n => if m < sizeI n then sizeI n else m) m = m := by
    intro l
    induction l with
    | nil => intros; rfl
    | cons x r ih =>
      intro hx m hm
      have hs : sizeI x = 0 := by rcases hx x (by simp) with rfl | rfl <;> rfl
      rw [List.foldl_cons, hs, if_neg (by omega)]
      exact ih (fun y hy => hx y (by simp [hy])) m hm
  have k2 : ∀ m, 0 ≤ m → ([1, -1].filter (exs b.lo b.hi)).foldl (fun m n => if m < sizeI n then sizeI n else m) m = m := fun m hm => key _ (fun x hx => by have := (List.mem_filter.1 hx).1; simpa using this) m hm
  unfold mC byOf mR
  rw [List.filter_cons, List.filter_cons]
  by_cases e1 : b.lo = 0
  · by_cases e2 : b.hi = 0
    · rw [if_neg (by simp [e1]), if_neg (by simp [e2]), k2 0 (by omega)]
      simp [e1, e2]
    · rw [if_neg (by simp [e1]), if_pos (by simp [e2]; omega), List.foldl_cons, k2]
      · simp [e1, e2]
      · have := z2 e2; split <;> omega
  · by_cases e2 : b.hi = 0
    · rw [if_pos (by simp [e1]; omega), if_neg (by simp [e2]), List.foldl_cons, k2]
      · have := z1 e1
        simp [e1, e2]
        omega
      · have := z1 e1; split <;> omega
    · rw [if_pos (by simp [e1]; omega), if_pos (by simp [e2]; omega), List.foldl_cons, List.foldl_cons, k2]
      · have := z1 e1
        have := z2 e2
        simp [e1, e2]
        split <;> split <;> (try split) <;> omega
      · have := z1 e1; have := z2 e2; split <;> split <;> omega
def operD (op : Int) (d a b : Dom) (al : Bool × Bool) (m : Int) (neg : Bool) : Dom :=
  if op = 4 then interL d (if neg then [0 - a.hi, 0 - a.lo] else [0 - a.lo, 0 - a.hi])
  else if op = 5 then interL d [a.lo + b.lo, a.hi + b.hi]
  else if op = 6 then interL d [a.lo - b.hi, a.hi - b.lo]
  else if op = 7 then interL d [a.lo * b.lo, a.lo * b.hi, a.hi * b.lo, a.hi * b.hi]
  else if op = 8 then interL (addFail d (zeroIn b)) (endsOf a b)
  else if op = 9 then (if byOf b = [] then addFail d (zeroIn b) else remD (addFail d (zeroIn b)) a m)
  else if op = 10 then (let e := addFail d (decide (100 < IntKind.wrap .i64 (a.hi + b.hi)))
    if 100 < IntKind.wrap .i64 (a.lo + b.lo) then e else { e with some := true, lo := IntKind.wrap .i64 (a.lo + b.lo), hi := if 100 < IntKind.wrap .i64 (a.hi + b.hi) then 100 else IntKind.wrap .i64 (a.hi + b.hi) })
  else if op = 11 then { d with some := true, lo := a.lo, hi := a.hi }
  else if op = 22 then truthD d (if neg then mayNotD a else mayBe a 0) (if neg then mayD a else mayBe a 1)
  else if op = 19 then truthD d true true
  else truthD d (cmpWith al op a b).1 (cmpWith al op a b).2
theorem minmax2 (x y : Int) : minL x [y] = minL y [x] ∧ maxL x [y] = maxL y [x] := by
  simp only [minL, maxL, List.foldl_cons, List.foldl_nil]
  constructor <;> split <;> split <;> omega
set_option maxHeartbeats 2000000
/-! Unions. -/
def joinC (c d : Dom) : Dom :=
  ⟨if c.kind < d.kind then d.kind else c.kind, c.null || d.null, c.fail || d.fail, c.some || d.some,
   if c.some = true ∧ d.some = true then (if d.lo < c.lo then d.lo else c.lo) else if c.some = true then c.lo else d.lo,
   if c.some = true ∧ d.some = true then (if c.hi < d.hi then d.hi else c.hi) else if c.some = true then c.hi else d.hi⟩
def unionD (c d : Dom) : Dom :=
  ⟨if c.kind = 0 then d.kind else c.kind, c.null || d.null, c.fail || d.fail, c.some || d.some,
   if c.some = false then d.lo else if d.some = true ∧ d.lo < c.lo then d.lo else c.lo,
   if c.some = false then d.hi else if d.some = true ∧ c.hi < d.hi then d.hi else c.hi⟩
theorem join_union {c d : Dom} (h : agree c.kind d.kind = true) (h0 : 0 ≤ c.kind) (h1 : 0 ≤ d.kind) : joinC c d = unionD c d := by
  obtain ⟨k, n, f, s, lo, hi⟩ := c
  obtain ⟨k', n', f', s', lo', hi'⟩ := d
  rw [agree_iff] at h
  simp only at h h0 h1
  simp only [joinC, unionD, Dom.mk.injEq, true_and]
  refine ⟨by split <;> split <;> omega, ?_⟩
  cases s <;> cases s' <;> simp
/-! Chains. -/
def boolD (null fail yes no : Bool) : Dom := truthD ⟨3, null, fail, false, 0, 0⟩ yes no
def noneD (k : Int) : Dom := ⟨k, false, false, false, 0, 0⟩
def chainC (kids : List Dom) (first : Int) : Dom :=
  if kids.any emptyD = true then noneD 3 else
  let yes := kids.any fun k => mayBe k first
  let no := kids.all fun k => mayBe k (1 - first)
  boolD (kids.any (·.null) && kids.all fun k => k.null || (k.fail || mayBe k (1 - first))) (kids.any (·.fail) && kids.all fun k => k.fail || mayBe k (1 - first))
    (if first = 0 then no else yes) (if first = 0 then yes else no)
def andD (kids : List Dom) : Dom :=
  if kids.any emptyD = true then noneD 3 else
  boolD (kids.any (·.null) && kids.all fun k => k.null || (k.fail || mayD k)) (kids.any (·.fail) && kids.all fun k => k.fail || mayD k) (kids.all mayD) (kids.any mayNotD)
def turnD (d : Dom) : Dom := if d.some = false ∨ d.kind ≠ 3 then d else truthD d (mayNotD d) (mayD d)
def orD (kids : List Dom) : Dom := turnD (andD (kids.map turnD))
theorem any_congr {α : Type} {l : List α} {f g : α → Bool} (h : ∀ x ∈ l, f x = g x) : l.any f = l.any g := by
  induction l with
  | nil => rfl
  | cons x r ih => simp only [List.any_cons, h x (by simp), ih fun y hy => h y (by simp [hy])]
theorem all_congr {α : Type} {l : List α} {f g : α → Bool} (h : ∀ x ∈ l, f x = g x) : l.all f = l.all g := by
  induction l with
  | nil => rfl
  | cons x r ih => simp only [List.all_cons, h x (by simp), ih fun y hy => h y (by simp [hy])]
theorem chain_and {kids : List Dom} (h : ∀ k ∈ kids, k.Ok) : chainC kids 0 = andD kids := by
  unfold chainC andD
  have e1 : ∀ k ∈ kids, mayBe k (1 - 0) = mayD k := fun k hk => mayBe_1 (h k hk)
  have e0 : ∀ k ∈ kids, mayBe k 0 = mayNotD k := fun k hk => mayBe_0 (h k hk)
  have a1 : (kids.all fun k => k.null || (k.fail || mayBe k (1 - 0))) = kids.all fun k => k.null || (k.fail || mayD k) := all_congr fun k hk => by rw [e1 k hk]
  have a2 : (kids.all fun k => k.fail || mayBe k (1 - 0)) = kids.all fun k => k.fail || mayD k := all_congr fun k hk => by rw [e1 k hk]
  have a3 : (kids.all fun k => mayBe k (1 - 0)) = kids.all mayD := all_congr e1
  have a4 : (kids.any fun k => mayBe k 0) = kids.any mayNotD := any_congr e0
  simp only [if_true, a1, a2, a3, a4]
theorem turn_null (d : Dom) : (turnD d).null = d.null := by unfold turnD; split <;> rfl
theorem turn_fail (d : Dom) : (turnD d).fail = d.fail := by unfold turnD; split <;> rfl
theorem may_truth (d : Dom) (y n : Bool) : mayD (truthD d y n) = y ∧ mayNotD (truthD d y n) = n := by
  cases y <;> cases n <;> simp [mayD, mayNotD, truthD]
theorem turn_may (d : Dom) : mayD (turnD d) = mayNotD d ∧ mayNotD (turnD d) = mayD d := by
  unfold turnD
  split
  · rename_i h
    rcases h with h | h
    · simp [mayD, mayNotD, h]
    · simp [mayD, mayNotD, h]
  · exact may_truth _ _ _
theorem turn_empty {d : Dom} (h : d.Ok) : emptyD (turnD d) = emptyD d := by
  have hc := okD_cases h.1 h.2.1
  unfold turnD
  split
  · rfl
  · rename_i hn
    have hs : d.some = true := by cases hs : d.some with | true => rfl | false => exact absurd (.inl hs) hn
    have hk : d.kind = 3 := Classical.byContradiction fun hk => hn (.inr hk)
    obtain ⟨_, _, h3⟩ := hc
    obtain ⟨_, h4, _, h5⟩ := h3 hs
    have h6 := h5 hk
    have : (mayNotD d || mayD d) = true := by
      simp only [mayNotD, mayD, hs, hk, Bool.true_and, decide_true, Bool.or_eq_true, decide_eq_true_eq]
      omega
    simp only [emptyD, truthD, this, hs]
theorem chain_or {kids : List Dom} (h : ∀ k ∈ kids, k.Ok) : chainC kids 1 = orD kids := by
  unfold chainC orD andD
  have e0 : ∀ k ∈ kids, mayBe k (1 - 1) = mayNotD k := fun k hk => mayBe_0 (h k hk)
  have e1 : ∀ k ∈ kids, mayBe k 1 = mayD k := fun k hk => mayBe_1 (h k hk)
  rw [List.any_map, any_congr (f := emptyD ∘ turnD) (g := emptyD) (fun k hk => turn_empty (h k hk))]
  split
  · rfl
  · simp only [List.any_map, List.all_map, Function.comp_def, turn_null, turn_fail, (turn_may _).1, (turn_may _).2, Int.reduceEq, if_false]
    have a1 : (kids.all fun k => k.null || (k.fail || mayBe k (1 - 1))) = kids.all fun k => k.null || (k.fail || mayNotD k) := all_congr fun k hk => by rw [e0 k hk]
    have a2 : (kids.all fun k => k.fail || mayBe k (1 - 1)) = kids.all fun k => k.fail || mayNotD k := all_congr fun k hk => by rw [e0 k hk]
    have a3 : (kids.all fun k => mayBe k (1 - 1)) = kids.all mayNotD := all_congr e0
    have a4 : (kids.any fun k => mayBe k 1) = kids.any mayD := any_congr e1
    simp only [a1, a2, a3, a4]
    unfold boolD
    generalize ((kids.any fun k => k.null) && kids.all fun k => k.null || (k.fail || mayNotD k)) = A
    generalize ((kids.any fun k => k.fail) && kids.all fun k => k.fail || mayNotD k) = B
    generalize kids.any mayD = Y
    generalize kids.all mayNotD = Z
    cases Y <;> cases Z <;> simp [turnD, truthD, mayD, mayNotD]
/-! Cases, and the first that is not null. -/
def caseD (un : Dom → Dom → Dom) (may mayNot : Dom → Bool) (last : Dom → Dom) : Dom → List Dom → Dom
  | d, [] => last d
  | d, [x] => un d x
  | d, c :: v :: r =>
    let e := if may c = true then un (addFail d c.fail) v else addFail d c.fail
    if mayNot c = false ∧ c.null = false then e else caseD un may mayNot last e r
def coalD (un : Dom → Dom → Dom) : Dom → List Dom → Dom
  | d, [] => { d with null := true }
  | d, k :: r => if k.null = false then un d { k with null := false } else coalD un (un d { k with null := false }) r
/-! Strict nodes. -/
def strictD (op kind : Int) (kids : List Dom) (may mayNot : Dom → Bool) (al : Bool × Bool) (m : Int) (neg : Bool) : Dom :=
  let a := kids.headD (noneD 0)
  let b := kids.getLastD (noneD 0)
  let d : Dom := ⟨kind, false, kids.any (·.fail), false, 0, 0⟩
  if (kids.any fun k => !k.null && !k.some) = true then d
  else if op = 20 then truthD d a.null a.some
  else if op = 21 then truthD d (may a) (a.null || mayNot a)
  else if op = 18 then (let p := if (kids.all (·.some)) = true then al else (false, false); truthD d ((a.null && b.null) || p.1) (((a.null && b.some) || (a.some && b.null)) || p.2))
  else if (kids.all (·.some)) = true then operD op { d with null := kids.any (·.null) } a b al m neg else { d with null := kids.any (·.null) }
def nodeD (op kind : Int) (kids : List Dom) : Dom :=
  if kids.any emptyD = true then noneD kind
  else if op = 23 then chainC kids 0 else if op = 24 then chainC kids 1
  else if op = 25 then caseD joinC (fun c => mayBe c 1) (fun c => mayBe c 0) (fun d => joinC d ⟨0, true, false, false, 0, 0⟩) (noneD kind) kids
  else if op = 26 then coalD joinC (noneD kind) kids
  else strictD op kind kids (fun c => mayBe c 1) (fun c => mayBe c 0) (sameC (kids.headD (noneD 0)) (kids.getLastD (noneD 0))) (mC (byOf (kids.getLastD (noneD 0)))) false
def nodeR (op kind : Int) (kids : List Dom) : Dom :=
  if kids.any emptyD = true then noneD kind
  else if op = 23 then andD kids else if op = 24 then orD kids
  else if op = 25 then caseD unionD mayD mayNotD (fun d => { d with null := true }) (noneD kind) kids
  else if op = 26 then coalD unionD (noneD kind) kids
  else strictD op kind kids mayD mayNotD (alike (kids.headD (noneD 0)) (kids.getLastD (noneD 0))) (mR (kids.getLastD (noneD 0))) true
theorem oper_alike (op : Int) (d a b : Dom) (ha : a.Ok) (hb : b.Ok) (sa : a.some = true) (sb : b.some = true)
    (hk : ¬ (op = 4 ∨ op = 5 ∨ op = 6 ∨ op = 7 ∨ op = 8 ∨ op = 9 ∨ op = 10 ∨ op = 11 ∨ op = 22 ∨ op = 19) → a.kind = b.kind) :
    operD op d a b (sameC a b) (mC (byOf b)) false = operD op d a b (alike a b) (mR b) true := by
  have hl := ((okD_cases hb.1 hb.2.1).2.2 sb).2.1
  unfold operD
  by_cases o4 : op = 4
  · simp only [o4, if_true, interL, interD, (minmax2 (0 - a.lo) (0 - a.hi)).1, (minmax2 (0 - a.lo) (0 - a.hi)).2, Bool.false_eq_true, if_false]
  simp only [if_neg o4]
  by_cases o5 : op = 5
  · simp only [if_pos o5]
  simp only [if_neg o5]
  by_cases o6 : op = 6
  · simp only [if_pos o6]
  simp only [if_neg o6]
  by_cases o7 : op = 7
  · simp only [if_pos o7]
  simp only [if_neg o7]
  by_cases o8 : op = 8
  · simp only [if_pos o8]
  simp only [if_neg o8]
  by_cases o9 : op = 9
  · simp only [if_pos o9, mC_eq hl]
  simp only [if_neg o9]
  by_cases o10 : op = 10
  · simp only [if_pos o10]
  simp only [if_neg o10]
  by_cases o11 : op = 11
  · simp only [if_pos o11]
  simp only [if_neg o11]
  by_cases o22 : op = 22
  · simp only [if_pos o22, Bool.false_eq_true, if_false, if_true, mayBe_0 ha, mayBe_1 ha]
  simp only [if_neg o22]
  by_cases o19 : op = 19
  · simp only [if_pos o19]
  simp only [if_neg o19]
  rw [sameC_eq ha hb sa sb (hk (by omega))]
theorem union_kind {c d : Dom} {kind : Int} (hc : c.kind = kind) (hd : d.kind = 0 ∨ d.kind = kind) : (unionD c d).kind = kind := by
  simp only [unionD]; split <;> omega
theorem union_zero {c d : Dom} (hc : c.some = false → c.lo = 0 ∧ c.hi = 0) (hd : d.some = false → d.lo = 0 ∧ d.hi = 0) : (unionD c d).some = false → (unionD c d).lo = 0 ∧ (unionD c d).hi = 0 := by
  simp only [unionD, Bool.or_eq_false_iff]
  rintro ⟨h1, h2⟩
  simp [h1, hd h2]
theorem join_un {c d : Dom} {kind : Int} (hc : c.kind = kind) (h0 : 0 ≤ kind) (hd : d.kind = 0 ∨ d.kind = kind) : joinC c d = unionD c d :=
  join_union (by rw [agree_iff]; omega) (by omega) (by omega)
theorem ok_zero {d : Dom} (h : d.Ok) : d.some = false → d.lo = 0 ∧ d.hi = 0 := (okD_cases h.1 h.2.1).2.1
theorem case_alike (kind : Int) (h0 : 0 ≤ kind) : ∀ (kids : List Dom) (d : Dom), (∀ k ∈ kids, k.Ok) → d.kind = kind → (d.some = false → d.lo = 0 ∧ d.hi = 0) →
    (∀ x ∈ (caseGo true (kids.map (·.kind))).2, x = 0 ∨ x = kind) →
    caseD joinC (fun c => mayBe c 1) (fun c => mayBe c 0) (fun d => joinC d ⟨0, true, false, false, 0, 0⟩) d kids = caseD unionD mayD mayNotD (fun d => { d with null := true }) d kids
  | [], d, _, hk, hz, _ => by
    obtain ⟨k, n, f, s, lo, hi⟩ := d
    simp only at hk hz
    subst hk
    simp only [caseD, joinC, Dom.mk.injEq, Bool.or_true, Bool.or_false, true_and, and_true]
    refine ⟨by rw [if_neg (by omega)], ?_⟩
    cases s
    · simp [hz rfl]
    · simp
  | [x], d, hO, hk, hz, hc => by
    have := hc x.kind (by simp [caseGo])
    simp only [caseD]
    exact join_un hk h0 this
  | c :: v :: r, d, hO, hk, hz, hc => by
    have ec : (caseGo true ((c :: v :: r).map (·.kind))).2 = v.kind :: (caseGo true (r.map (·.kind))).2 := by simp [caseGo]
    rw [ec] at hc
    have hv := hc v.kind (by simp)
    have hcO := hO c (by simp)
    have e : (if mayBe c 1 = true then joinC (addFail d c.fail) v else addFail d c.fail) = (if mayD c = true then unionD (addFail d c.fail) v else addFail d c.fail) := by
      rw [mayBe_1 hcO, join_un (c := addFail d c.fail) hk h0 hv]
    simp only [caseD, e, mayBe_0 hcO]
    split
    · rfl
    · refine case_alike kind h0 r _ (fun k hk => hO k (by simp [hk])) ?_ ?_ (fun x hx => hc x (by simp [hx]))
      · split
        · exact union_kind hk hv
        · exact hk
      · split
        · exact union_zero hz (ok_zero (hO v (by simp)))
        · exact hz
theorem coal_alike (kind : Int) (h0 : 0 ≤ kind) : ∀ (kids : List Dom) (d : Dom), (∀ k ∈ kids, k.Ok) → d.kind = kind → (∀ x ∈ kids, x.kind = 0 ∨ x.kind = kind) → coalD joinC d kids = coalD unionD d kids
  | [], _, _, _, _ => rfl
  | k :: r, d, hO, hk, hc => by
    have hv := hc k (by simp)
    have e : joinC d { k with null := false } = unionD d { k with null := false } := join_un hk h0 hv
    simp only [coalD, e]
    split
    · rfl
    · exact coal_alike kind h0 r _ (fun x hx => hO x (by simp [hx])) (union_kind hk hv) (fun x hx => hc x (by simp [hx]))
/-! What a kind that is given says of the kids' kinds. -/
theorem commonGo_mem (l : List Int) : ∀ a : Int, (commonGo a l).2 = true → 0 ≤ a → (∀ x ∈ l, 0 ≤ x) → (a = 0 ∨ a = (commonGo a l).1) ∧ ∀ x ∈ l, x = 0 ∨ x = (commonGo a l).1 := by
  intro a h ha hl
  obtain ⟨h1, h2⟩ := commonGo_iff l a ha hl
  obtain ⟨h3, h4⟩ := h1.1 h
  rw [h2 h]
  have hle := foldl_mx_ge l a
  rw [agree_iff] at h3
  refine ⟨by omega, fun x hx => ?_⟩
  have h5 := h4 x hx
  rw [agree_iff] at h5
  have h6 : x ≤ l.foldl mx a := by
    clear h1 h2 h3 h4 h5 h hle
    induction l generalizing a with
    | nil => simp at hx
    | cons y r ih =>
      rw [List.foldl_cons]
      rcases List.mem_cons.1 hx with rfl | hx
      · have := foldl_mx_ge r (mx a x)
        have h7 : x ≤ mx a x := by unfold mx; split <;> omega
        omega
      · have hm : 0 ≤ mx a y := by have := hl y (by simp); unfold mx; split <;> omega
        exact ih (mx a y) hm (fun z hz => hl z (List.mem_cons_of_mem _ hz)) hx
  have := hl x hx
  omega
theorem commonGo_nn (l : List Int) : ∀ a : Int, 0 ≤ a → (∀ x ∈ l, 0 ≤ x) → 0 ≤ (commonGo a l).1 := by
  induction l with
  | nil => intro a h _; exact h
  | cons x r ih =>
    intro a ha hl
    rw [commonGo]
    split
    · exact ih _ (by have := hl x (by simp); split <;> omega) (fun y hy => hl y (by simp [hy]))
    · exact Int.le_refl _
theorem refKind_inv {op k : Int} {ks : List Int} (h : refKind op ks = (k, 0)) :
    (0 ≤ (sortOf op).2 → (ks.length : Int) = (sortOf op).2) ∧ (sortOf op).1 ≠ 0 ∧ kindOf (sortOf op).1 ks = (k, true) := by
  unfold refKind at h
  split at h
  · cases h
  · rename_i h1
    split at h
    · cases h
    · split at h
      · rename_i h3
        simp only [Prod.mk.injEq, and_true] at h
        exact ⟨fun h4 => by omega, fun h4 => h1 (.inl h4), by rw [← h, ← h3]⟩
      · cases h
theorem strict_alike (op k : Int) (kids : List Dom) (a b : Dom) (ha : a ∈ kids) (hb : b ∈ kids) (e1 : kids.headD (noneD 0) = a) (e2 : kids.getLastD (noneD 0) = b) (hO : ∀ x ∈ kids, x.Ok)
    (hk3 : ¬ (op = 4 ∨ op = 5 ∨ op = 6 ∨ op = 7 ∨ op = 8 ∨ op = 9 ∨ op = 10 ∨ op = 11 ∨ op = 22 ∨ op = 19 ∨ op = 20 ∨ op = 21) → a.some = true → b.some = true → a.kind = b.kind) :
    strictD op k kids (fun c => mayBe c 1) (fun c => mayBe c 0) (sameC a b) (mC (byOf b)) false = strictD op k kids mayD mayNotD (alike a b) (mR b) true := by
  have f1 := mayBe_1 (hO a ha)
  have f0 := mayBe_0 (hO a ha)
  by_cases h1 : (kids.any fun k => !k.null && !k.some) = true
  · simp only [strictD, if_pos h1]
  by_cases o20 : op = 20
  · simp only [strictD, if_neg h1, if_pos o20]
  by_cases o21 : op = 21
  · simp only [strictD, if_neg h1, if_neg o20, if_pos o21, e1, f1, f0]
  by_cases hsome : (kids.all (·.some)) = true
  · have sa : a.some = true := List.all_eq_true.1 hsome a ha
    have sb : b.some = true := List.all_eq_true.1 hsome b hb
    by_cases o18 : op = 18
    · simp only [strictD, if_neg h1, if_neg o20, if_neg o21, if_pos o18, if_pos hsome]
      rw [sameC_eq (hO a ha) (hO b hb) sa sb (hk3 (by omega) sa sb)]
    · simp only [strictD, if_neg h1, if_neg o20, if_neg o21, if_neg o18, if_pos hsome, e1, e2]
      exact oper_alike op _ a b (hO a ha) (hO b hb) sa sb (fun hno => hk3 (by omega) sa sb)
  · simp only [strictD, if_neg h1, if_neg o20, if_neg o21, if_neg hsome]
theorem node_alike (op k : Int) (kids : List Dom) (hO : ∀ x ∈ kids, x.Ok) (h : refKind op (kids.map (·.kind)) = (k, 0)) : nodeD op k kids = nodeR op k kids := by
  obtain ⟨hn, hs0, hk⟩ := refKind_inv h
  have nn : ∀ x ∈ kids.map (·.kind), 0 ≤ x := by
    intro x hx
    obtain ⟨y, hy, rfl⟩ := List.mem_map.1 hx
    exact (hO y hy).2.1
  unfold nodeD nodeR
  split
  · rfl
  · by_cases o23 : op = 23
    · simp only [if_pos o23]; exact chain_and hO
    simp only [if_neg o23]
    by_cases o24 : op = 24
    · simp only [if_pos o24]; exact chain_or hO
    simp only [if_neg o24]
    by_cases o25 : op = 25
    · subst o25
      simp only [if_true]
      have hk9 : kindOf 9 (kids.map (·.kind)) = ((commonGo 0 (caseGo true (kids.map (·.kind))).2).1, (commonGo 0 (caseGo true (kids.map (·.kind))).2).2 && (caseGo true (kids.map (·.kind))).1.all fun x => agree x 3) := by simp [kindOf]
      have e9 : (sortOf 25).1 = 9 := rfl
      rw [e9, hk9] at hk
      simp only [Prod.mk.injEq, Bool.and_eq_true] at hk
      obtain ⟨hk1, hk2, _⟩ := hk
      have hnn : ∀ x ∈ (caseGo true (kids.map (·.kind))).2, 0 ≤ x := fun x hx => nn x (caseGo_mem _ true x hx)
      have hm := commonGo_mem _ 0 hk2 (Int.le_refl _) hnn
      rw [hk1] at hm
      exact case_alike k (by rw [← hk1]; exact commonGo_nn _ 0 (Int.le_refl _) hnn) kids (noneD k) hO rfl (fun _ => ⟨rfl, rfl⟩) hm.2
    simp only [if_neg o25]
    by_cases o26 : op = 26
    · subst o26
      simp only [if_true]
      have hk10 : kindOf 10 (kids.map (·.kind)) = commonGo 0 (kids.map (·.kind)) := by simp [kindOf]
      have e10 : (sortOf 26).1 = 10 := rfl
      rw [e10, hk10] at hk
      have hm := commonGo_mem _ 0 (by rw [hk]) (Int.le_refl _) nn
      rw [hk] at hm
      exact coal_alike k (by have := commonGo_nn _ 0 (Int.le_refl _) nn; rw [hk] at this; exact this) kids (noneD k) hO rfl (fun x hx => hm.2 x.kind (List.mem_map.2 ⟨x, hx, rfl⟩))
    simp only [if_neg o26]
    -- strict: one kid or two
    have two : ∃ a b, kids = [a] ∨ kids = [a, b] := by
      have h12 : (sortOf op).2 = 1 ∨ (sortOf op).2 = 2 := by
        revert hs0
        unfold sortOf
        simp only [o23, o24, o25, o26, or_self, if_false]
        (repeat' split) <;> simp
      have hl : (kids.length : Int) = (sortOf op).2 := by have := hn (by omega); simpa using this
      match kids, hl with
      | [], hl => simp at hl; omega
      | [a], _ => exact ⟨a, a, .inl rfl⟩
      | [a, b], _ => exact ⟨a, b, .inr rfl⟩
      | _ :: _ :: _ :: _, hl => simp at hl; omega
    have key : ∀ a b : Dom, a ∈ kids → b ∈ kids → (kids = [a] ∧ b = a) ∨ kids = [a, b] →
        (¬ (op = 4 ∨ op = 5 ∨ op = 6 ∨ op = 7 ∨ op = 8 ∨ op = 9 ∨ op = 10 ∨ op = 11 ∨ op = 22 ∨ op = 19 ∨ op = 20 ∨ op = 21) → a.some = true → b.some = true → a.kind = b.kind) := by
      intro a b ha hb hab ho sa sb
      have ka := ((okD_cases (hO a ha).1 (hO a ha).2.1).2.2 sa).1
      have kb := ((okD_cases (hO b hb).1 (hO b hb).2.1).2.2 sb).1
      have hso : sortOf op = (4, 2) := by
        revert hs0
        unfold sortOf
        simp only [o23, o24, o25, o26, or_self, if_false]
        (repeat' split) <;> simp <;> omega
      rw [hso] at hk
      rcases hab with ⟨_, rfl⟩ | hab
      · rfl
      · rw [hab] at hk
        simp only [kindOf, List.map_cons, List.map_nil, List.getD_cons_zero, List.getD_cons_succ] at hk
        have h9 : agree a.kind b.kind = true := by
          have := congrArg Prod.snd hk
          simpa using this
        rw [agree_iff] at h9
        omega
    obtain ⟨a, b, hab⟩ := two
    have fin := fun (a b : Dom) (ha : a ∈ kids) (hb : b ∈ kids) (hab : (kids = [a] ∧ b = a) ∨ kids = [a, b]) (e1 : kids.headD (noneD 0) = a) (e2 : kids.getLastD (noneD 0) = b) => strict_alike op k kids a b ha hb e1 e2 hO (key a b ha hb hab)
    rcases hab with hab | hab
    · have e1 : kids.headD (noneD 0) = a := by rw [hab]; rfl
      have e2 : kids.getLastD (noneD 0) = a := by rw [hab]; rfl
      rw [e1, e2]
      exact fin a a (by rw [hab]; simp) (by rw [hab]; simp) (.inl ⟨hab, rfl⟩) e1 e2
    · have e1 : kids.headD (noneD 0) = a := by rw [hab]; rfl
      have e2 : kids.getLastD (noneD 0) = b := by rw [hab]; rfl
      rw [e1, e2]
      exact fin a b (by rw [hab]; simp) (by rw [hab]; simp) (.inr hab) e1 e2
end Go.Proofs.YtoggbjfjmbjegaaGreatDoor
