/- Signs and bits of 64-bit integers. -/
import Derived.Test.YtmlaogjndaeihaaGreatDoorAb19
import Derived.Lib.Mul64
set_option linter.unusedSimpArgs false
set_option linter.unusedVariables false
namespace Go.Proofs.YtmlaogjndaeihaaGreatDoor
open Go Go.Ab
@[reducible] def In64 (n : Int) : Prop := -9223372036854775808 ≤ n ∧ n ≤ 9223372036854775807
theorem wrap_bv (r : BitVec 64) : IntKind.wrap .i64 (r.toNat : Int) = r.toInt := by
  have e : IntKind.wrap .i64 (r.toNat : Int) = (if (true && decide ((r.toNat : Int) % 18446744073709551616 ≥ 9223372036854775808)) = true then (r.toNat : Int) % 18446744073709551616 - 18446744073709551616 else (r.toNat : Int) % 18446744073709551616) := rfl
  have h := r.isLt
  rw [e, BitVec.toInt_eq_toNat_cond]
  simp only [Bool.true_and, decide_eq_true_eq]
  split <;> split <;> omega
theorem bitA_xor (a b : Int) : bitA .xor .i64 a b = (BitVec.ofInt 64 a ^^^ BitVec.ofInt 64 b).toInt := wrap_bv _
theorem bitA_and (a b : Int) : bitA .and .i64 a b = (BitVec.ofInt 64 a &&& BitVec.ofInt 64 b).toInt := wrap_bv _
theorem msb_int (a : Int) (h : In64 a) : (BitVec.ofInt 64 a).msb = decide (a < 0) := by
  rw [BitVec.msb_eq_toInt, BitVec.toInt_ofInt]
  congr 1
  have : a.bmod (2 ^ 64) = a := by
    obtain ⟨h1, h2⟩ := h
    rw [Int.bmod_def]
    split <;> omega
  rw [this]
/-- Overflow, told by three signs. -/
theorem over_bits {a b c d : Int} (ha : In64 a) (hb : In64 b) (hc : In64 c) (hd : In64 d) : (bitA .and .i64 (bitA .xor .i64 a b) (bitA .xor .i64 c d) < 0) ↔ ((a < 0) ≠ (b < 0)) ∧ ((c < 0) ≠ (d < 0)) := by
  rw [bitA_and, bitA_xor, bitA_xor, BitVec.ofInt_toInt, BitVec.ofInt_toInt]
  rw [← decide_eq_true_iff (p := BitVec.toInt _ < 0), ← BitVec.msb_eq_toInt, BitVec.msb_and, BitVec.msb_xor, BitVec.msb_xor, msb_int a ha, msb_int b hb, msb_int c hc, msb_int d hd]
  by_cases h1 : a < 0 <;> by_cases h2 : b < 0 <;> by_cases h3 : c < 0 <;> by_cases h4 : d < 0 <;> simp [h1, h2, h3, h4]
theorem wrap_i64 (n : Int) : In64 (IntKind.wrap .i64 n) ∧ (In64 n → IntKind.wrap .i64 n = n) ∧ (IntKind.wrap .i64 n - n) % 18446744073709551616 = 0 := by
  have e : IntKind.wrap .i64 n = (if (true && decide (n % 18446744073709551616 ≥ 9223372036854775808)) = true then n % 18446744073709551616 - 18446744073709551616 else n % 18446744073709551616) := rfl
  rw [e]
  simp only [Bool.true_and, decide_eq_true_eq]
  refine ⟨?_, fun h => ?_, ?_⟩
  · split <;> constructor <;> omega
  · obtain ⟨h1, h2⟩ := h; split <;> omega
  · split <;> omega
def arI (n : Int) : Int × Int := if -9223372036854775808 ≤ n ∧ n ≤ 9223372036854775807 then (n, 0) else (0, 4)
theorem add_over {a b : Int} (ha : In64 a) (hb : In64 b) : (bitA .and .i64 (bitA .xor .i64 a (IntKind.wrap .i64 (a + b))) (bitA .xor .i64 b (IntKind.wrap .i64 (a + b))) < 0) ↔ ¬ In64 (a + b) := by
  obtain ⟨h1, h2, h3⟩ := wrap_i64 (a + b)
  rw [over_bits ha h1 hb h1]
  generalize IntKind.wrap .i64 (a + b) = c at h1 h2 h3 ⊢
  obtain ⟨a1, a2⟩ := ha
  obtain ⟨b1, b2⟩ := hb
  obtain ⟨c1, c2⟩ := h1
  by_cases hr : In64 (a + b)
  · have := h2 hr
    simp only [hr, not_true, iff_false, ne_eq, eq_iff_iff]
    unfold In64 at hr
    omega
  · simp only [hr, not_false_eq_true, iff_true, ne_eq, eq_iff_iff]
    unfold In64 at hr
    omega
theorem sub_over {a b : Int} (ha : In64 a) (hb : In64 b) : (bitA .and .i64 (bitA .xor .i64 a b) (bitA .xor .i64 a (IntKind.wrap .i64 (a - b))) < 0) ↔ ¬ In64 (a - b) := by
  obtain ⟨h1, h2, h3⟩ := wrap_i64 (a - b)
  rw [over_bits ha hb ha h1]
  generalize IntKind.wrap .i64 (a - b) = c at h1 h2 h3 ⊢
  obtain ⟨a1, a2⟩ := ha
  obtain ⟨b1, b2⟩ := hb
  obtain ⟨c1, c2⟩ := h1
  by_cases hr : In64 (a - b)
  · have := h2 hr
    simp only [hr, not_true, iff_false, ne_eq, eq_iff_iff]
    unfold In64 at hr
    omega
  · simp only [hr, not_false_eq_true, iff_true, ne_eq, eq_iff_iff]
    unfold In64 at hr
    omega
theorem wrap_u64 (n : Int) : IntKind.u64.wrap n = n % 18446744073709551616 := rfl
theorem wrapN (n : Nat) (h : n < 18446744073709551616) : IntKind.u64.wrap (n : Int) = n := by rw [wrap_u64]; omega
theorem maskA (x : Nat) (hx : x < 18446744073709551616) : bitA .and .u64 (x : Int) 4294967295 = ((x % 4294967296 : Nat) : Int) := by
  have e : bitA .and .u64 (x : Int) 4294967295 = IntKind.u64.wrap ((BitVec.ofInt 64 (x : Int) &&& BitVec.ofInt 64 4294967295).toNat : Int) := rfl
  have e1 : (BitVec.ofInt 64 (x : Int)).toNat = x := by
    rw [BitVec.toNat_ofInt]; omega
  have e2 : (BitVec.ofInt 64 4294967295).toNat = 4294967295 := by rfl
  rw [e, BitVec.toNat_and, e1, e2, show (4294967295 : Nat) = 2 ^ 32 - 1 from rfl, Nat.and_two_pow_sub_one_eq_mod]
  exact wrapN _ (by omega)
theorem shr32 (x : Nat) : (x : Int).fdiv (2 ^ min 32 64) = ((x / 4294967296 : Nat) : Int) := by
  rw [show min 32 64 = 32 from rfl, show ((2 : Int) ^ 32) = ((4294967296 : Nat) : Int) from rfl, Int.fdiv_eq_ediv_of_nonneg _ (by omega)]
  rfl
theorem tdiv_in {a b : Int} (ha : In64 a) (h0 : b ≠ 0) (h1 : b ≠ -1) : In64 (Int.tdiv a b) := by
  obtain ⟨a1, a2⟩ := ha
  by_cases hb : b = 1
  · subst hb; rw [Int.tdiv_one]; exact ⟨a1, a2⟩
  · have h := Int.natAbs_tdiv a b
    have h2 : a.natAbs / b.natAbs ≤ a.natAbs / 2 := Nat.div_le_div_left (by omega) (by omega)
    have h3 : (Int.tdiv a b).natAbs ≤ a.natAbs / 2 := by rw [h]; exact h2
    have hr := Int.natAbs_eq (Int.tdiv a b)
    have hA := Int.natAbs_eq a
    revert h3 hr hA
    generalize (Int.tdiv a b).natAbs = R
    generalize Int.tdiv a b = r
    generalize a.natAbs = A
    intro h3 hr hA
    constructor <;> omega
theorem mul_mag {a b : Int} (ha : In64 a) (hb : In64 b) : a.natAbs * b.natAbs ≤ 85070591730234615865843651857942052864 := Nat.mul_le_mul (show a.natAbs ≤ 9223372036854775808 by obtain ⟨_, _⟩ := ha; omega) (show b.natAbs ≤ 9223372036854775808 by obtain ⟨_, _⟩ := hb; omega)
theorem mul_sign (a b : Int) : a * b = if (decide (a < 0) = decide (b < 0)) then ((a.natAbs * b.natAbs : Nat) : Int) else -((a.natAbs * b.natAbs : Nat) : Int) := by
  rw [Int.natCast_mul]
  by_cases h : a < 0 <;> by_cases k : b < 0
  · rw [if_pos (by simp [h, k]), Int.ofNat_natAbs_of_nonpos (by omega), Int.ofNat_natAbs_of_nonpos (by omega), Int.neg_mul_neg]
  · rw [if_neg (by simp [h, k]), Int.ofNat_natAbs_of_nonpos (by omega), Int.natAbs_of_nonneg (by omega : 0 ≤ b), Int.neg_mul, Int.neg_neg]
  · rw [if_neg (by simp [h, k]), Int.ofNat_natAbs_of_nonpos (a := b) (by omega), Int.natAbs_of_nonneg (by omega : 0 ≤ a), Int.mul_neg, Int.neg_neg]
  · rw [if_pos (by simp [h, k]), Int.natAbs_of_nonneg (by omega : 0 ≤ a), Int.natAbs_of_nonneg (by omega : 0 ≤ b)]
end Go.Proofs.YtmlaogjndaeihaaGreatDoor
