/- The plain law of CalcIn. -/
import Derived.Test.YtmlaogjndaeihaaDoorL6
namespace Go.Proofs.YtmlaogjndaeihaaDoor
open Go Go.Ab
theorem compareBytes_zero : ∀ a b : List UInt8, Lib.compareBytes a b = 0 ↔ a = b
  | [], [] => by simp [Lib.compareBytes]
  | [], _ :: _ => by simp [Lib.compareBytes]
  | _ :: _, [] => by simp [Lib.compareBytes]
  | x :: a, y :: b => by
    unfold Lib.compareBytes
    by_cases h1 : x < y
    · rw [if_pos h1]
      have : x ≠ y := fun e => by subst e; exact absurd h1 (UInt8.lt_irrefl x)
      simp [this]
    · rw [if_neg h1]
      by_cases h2 : y < x
      · rw [if_pos h2]
        have : x ≠ y := fun e => by subst e; exact absurd h2 (UInt8.lt_irrefl x)
        simp [this]
      · rw [if_neg h2, compareBytes_zero a b]
        have : x = y := UInt8.le_antisymm (UInt8.not_lt.1 h2) (UInt8.not_lt.1 h1)
        simp [this]
theorem cmpS_zero (a b : ByteArray) : cmpS a b = 0 ↔ a = b := by
  unfold cmpS
  rw [compareBytes_zero]
  constructor
  · intro h
    obtain ⟨⟨x⟩⟩ := a
    obtain ⟨⟨y⟩⟩ := b
    simpa using h
  · rintro rfl; rfl
theorem cmpI_zero (a b : Int) : cmpI a b = 0 ↔ a = b := by
  unfold cmpI
  split
  · omega
  · split <;> omega
theorem cmpV_zero {x y : Val} (vx : vOk x.kind x.int x.text = true) (vy : vOk y.kind y.int y.text = true) (h : agree x.kind y.kind = true) (hx : x.kind ≠ 0) (hy : y.kind ≠ 0) : decide (cmpV x y = 0) = vEqC y x := by
  have hk : x.kind = y.kind := by rw [agree_iff] at h; omega
  obtain ⟨k, n, s⟩ := x
  obtain ⟨k', n', s'⟩ := y
  simp only at hk vx vy hx hy ⊢
  subst hk
  rw [Bool.eq_iff_iff]
  have hc : cmpI k k = 0 := (cmpI_zero k k).2 rfl
  unfold cmpV vEqC
  simp only [hc, ne_eq, not_true, if_false, if_neg hx, decide_eq_true_eq, Bool.and_eq_true, true_and]
  rcases vOk_kind vx with rfl | rfl | rfl | rfl
  · exact absurd rfl hx
  · simp [vOk] at vx vy
    simp only [true_or, if_true, cmpI_zero]
    subst vx; subst vy
    exact ⟨fun e => ⟨e.symm, rfl⟩, fun e => e.1.symm⟩
  · simp [vOk] at vx vy
    simp only [Int.reduceEq, or_self, if_false, cmpS_zero]
    rw [vx.1, vy.1]
    exact ⟨fun e => ⟨rfl, e.symm⟩, fun e => e.2.symm⟩
  · simp [vOk] at vx vy
    simp only [or_true, if_true, cmpI_zero]
    rw [vx.2, vy.2]
    exact ⟨fun e => ⟨e.symm, rfl⟩, fun e => e.1.symm⟩
/-- The out of an equality. -/
def eqO (x y : Val) : Outv := if x.kind = 0 ∨ y.kind = 0 then nullO else boolO (opB 12 (cmpV x y))
theorem foldl_false (l : List Outv) : l.foldl andB (boolO false) = boolO false := by
  induction l with
  | nil => rfl
  | cons o l ih =>
    rw [List.foldl_cons]
    have : andB (boolO false) o = boolO false := by
      unfold andB
      rw [if_neg]
      have r2 : (boolO false).rk = 0 := rfl
      rw [r2]
      unfold Outv.rk rk
      split <;> (try split) <;> (try split) <;> omega
    rw [this, ih]
theorem inGo_or (x : Val) (vx : vOk x.kind x.int x.text = true) (l : List Val) (hl : ∀ v ∈ l, vOk v.kind v.int v.text = true ∧ agree x.kind v.kind = true) :
    ∀ out : Outv, (out = nullO ∨ out = boolO false) → inGo x (l.map fun v => [v]) out = notO (((l.map (eqO x)).map notO).foldl andB (notO out)) := by
  induction l with
  | nil =>
    intro out ho
    rcases ho with rfl | rfl <;> rfl
  | cons v l ih =>
    intro out ho
    have ihl := ih (fun w hw => hl w (List.mem_cons_of_mem _ hw))
    obtain ⟨vv, va⟩ := hl v (by simp)
    simp only [List.map_cons, List.foldl_cons]
    rw [inGo, List.headD_cons]
    by_cases hn : x.kind = 0 ∨ v.kind = 0
    · rw [if_pos hn, ihl nullO (.inl rfl)]
      have e1 : eqO x v = nullO := if_pos hn
      rw [e1]
      rcases ho with rfl | rfl <;> rfl
    · have hz := cmpV_zero vx vv va (by omega) (by omega)
      have e1 : eqO x v = boolO (vEqC v x) := by
        rw [eqO, if_neg hn, opB, if_pos rfl, hz]
      rw [if_neg hn, e1]
      by_cases he : vEqC v x = true
      · rw [if_pos he, he]
        have e2 : andB (notO out) (notO (boolO true)) = boolO false := by
          rcases ho with rfl | rfl <;> rfl
        rw [e2, foldl_false]
        rfl
      · rw [if_neg he, ihl out ho]
        simp only [Bool.not_eq_true] at he
        rw [he]
        have e2 : andB (notO out) (notO (boolO false)) = notO out := by
          rcases ho with rfl | rfl <;> rfl
        rw [e2]
theorem in_or (x : Val) (vx : vOk x.kind x.int x.text = true) (l : List Val) (hl : ∀ v ∈ l, vOk v.kind v.int v.text = true ∧ agree x.kind v.kind = true) :
    inGo x (l.map fun v => [v]) (boolO false) = orO (l.map (eqO x)) := inGo_or x vx l hl _ (.inr rfl)
theorem eqO_truth (x y : Val) : truthO (eqO x y) = true := by
  unfold eqO
  split
  · rfl
  · cases opB 12 (cmpV x y) <;> rfl
end Go.Proofs.YtmlaogjndaeihaaDoor
