/- Domains: what the program and the document make of them, and that it is the same. Plain Lean, no program. Validity. -/
import Derived.Test.YtleadljchhkiiaaGreatDoorAb19
set_option linter.unusedSimpArgs false
set_option linter.unusedVariables false
set_option linter.unusedSimpArgs false
set_option linter.unusedVariables false
namespace Go.Proofs.YtleadljchhkiiaaGreatDoor
open Go Go.Ab
structure Dom where
  kind : Int
  null : Bool
  fail : Bool
  some : Bool
  lo : Int
  hi : Int
deriving DecidableEq
def Dom.enc (d : Dom) : List AV := [.int .u8 d.kind, .bool d.null, .bool d.fail, .bool d.some, .int .i64 d.lo, .int .i64 d.hi]
def Dom.In (d : Dom) : Prop := 0 ≤ d.kind ∧ (-9223372036854775808 ≤ d.lo ∧ d.lo ≤ 9223372036854775807) ∧ (-9223372036854775808 ≤ d.hi ∧ d.hi ≤ 9223372036854775807)
@[reducible] def mI : Int := -9223372036854775808
@[reducible] def xI : Int := 9223372036854775807
/-! Valid. -/
def okD (d : Dom) : Bool :=
  if d.kind > 3 ∨ (d.some = true ∧ d.kind = 0) then false else if d.some = false then decide (d.lo = 0) && decide (d.hi = 0) else if d.lo > d.hi then false
  else if d.kind = 2 then decide (0 ≤ d.lo) && decide (d.hi ≤ 100) else if d.kind = 3 then decide (0 ≤ d.lo) && decide (d.hi ≤ 1) else true
def okDC (d : Dom) : Bool :=
  if d.some = false then decide (d.kind ≤ 3) && (decide (d.lo = 0) && decide (d.hi = 0))
  else if d.kind = 1 then decide (d.lo ≤ d.hi)
  else if d.kind = 2 then (if d.lo < 0 ∨ 100 < d.hi then false else decide (d.lo ≤ d.hi))
  else if d.kind = 3 then (if d.lo < 0 ∨ 1 < d.hi then false else decide (d.lo ≤ d.hi))
  else false
theorem okD_eq (d : Dom) (h : 0 ≤ d.kind) : okDC d = okD d := by
  obtain ⟨k, n, f, s, lo, hi⟩ := d
  simp only at h
  rw [Bool.eq_iff_iff]
  cases s
  · simp only [okDC, okD]
    by_cases h3 : 3 < k
    · simp [h3]; omega
    · simp [h3]; omega
  · by_cases h1 : k = 1
    · subst h1; simp [okDC, okD]
    · by_cases h2 : k = 2
      · subst h2; simp [okDC, okD]; omega
      · by_cases h3 : k = 3
        · subst h3; simp [okDC, okD]; omega
        · simp [okDC, okD, h1, h2, h3]; intro _ _; omega
theorem okD_cases {d : Dom} (h : okD d = true) (hk : 0 ≤ d.kind) : d.kind ≤ 3 ∧ (d.some = false → d.lo = 0 ∧ d.hi = 0) ∧ (d.some = true → d.kind ≠ 0 ∧ d.lo ≤ d.hi ∧ (d.kind = 2 → 0 ≤ d.lo ∧ d.hi ≤ 100) ∧ (d.kind = 3 → 0 ≤ d.lo ∧ d.hi ≤ 1)) := by
  obtain ⟨k, n, f, s, lo, hi⟩ := d
  simp only [okD] at h hk ⊢
  cases s
  · by_cases h3 : k > 3
    · simp [h3] at h
    · simp [h3] at h; simp; omega
  · by_cases h3 : k > 3
    · simp [h3] at h
    · by_cases h0 : k = 0
      · simp [h0] at h
      · by_cases hl : lo > hi
        · simp [h3, h0, hl] at h
        · simp only [h3, h0, hl, and_false, or_false, if_false, Bool.true_eq_false] at h
          refine ⟨by omega, by simp, fun _ => ⟨h0, by omega, fun h2 => ?_, fun h2 => ?_⟩⟩
          · subst h2; simpa using h
          · subst h2; simpa using h
end Go.Proofs.YtleadljchhkiiaaGreatDoor
