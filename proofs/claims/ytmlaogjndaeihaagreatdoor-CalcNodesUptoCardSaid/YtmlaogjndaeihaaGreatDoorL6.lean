/- The plain law of CalcCompares. -/
import Derived.Test.YtmlaogjndaeihaaGreatDoorT19
set_option linter.unusedSimpArgs false
set_option linter.unusedVariables false
namespace Go.Proofs.YtmlaogjndaeihaaGreatDoor
open Go Go.Ab
theorem vOk_kind {k n : Int} {s : ByteArray} (h : vOk k n s = true) : k = 0 ∨ k = 1 ∨ k = 2 ∨ k = 3 := by
  unfold vOk at h
  split at h
  · omega
  · split at h
    · omega
    · split at h
      · omega
      · split at h
        · omega
        · cases h
theorem vOkC_ok {x : Val} (h : vOk x.kind x.int x.text = true) (hi : x.In) : okC ⟨x, 0⟩ = true := by
  show oOkC x.kind x.int x.text 0 = true
  unfold oOkC
  rw [vOkC_eq _ _ _ hi.2.1, h]
  rfl
theorem two_kinds {op kx ky : Int} (hop : op = 12 ∨ op = 13 ∨ op = 14 ∨ op = 15 ∨ op = 16 ∨ op = 17 ∨ op = 18) (hx : 0 ≤ kx ∧ kx ≤ 3) (hy : 0 ≤ ky ∧ ky ≤ 3) (ha : agree kx ky = true) : (kindC op [kx, ky]).2 = 0 := by
  have hsig : sigOf op = (⟨2, 2, 0, 3⟩, true) := by rcases hop with rfl | rfl | rfl | rfl | rfl | rfl | rfl <;> rfl
  have h25 : op ≠ 25 := by omega
  have h26 : op ≠ 26 := by omega
  have e3 : ([kx, ky].any fun k => decide (3 < k)) = false := by simp; omega
  have hc := (commonC_eq [0, kx, ky] (by intro x hx; simp at hx; omega)).1
  have hg : (commonGo 0 [0, kx, ky]).2 = true := by
    rw [commonGo, if_pos (agree_zero 0), if_pos rfl, commonGo, if_pos (agree_zero kx), if_pos rfl, commonGo, if_pos ha]
    rfl
  unfold kindC
  simp only [hsig, if_neg h25, if_neg h26, e3, Bool.false_eq_true, or_false, if_false, false_or, Bool.true_eq_false]
  rw [if_neg (by simp), hc, hg]
  rfl
theorem two_node {op : Int} {x y : Val} (S : Outv) (hop : op = 12 ∨ op = 13 ∨ op = 14 ∨ op = 15 ∨ op = 16 ∨ op = 17 ∨ op = 18) (vx : vOk x.kind x.int x.text = true) (vy : vOk y.kind y.int y.text = true) (hx : x.In) (hy : y.In) (ha : agree x.kind y.kind = true) :
    nodeC op [⟨x, 0⟩, ⟨y, 0⟩] S = S := by
  have kx := vOk_kind vx
  have ky := vOk_kind vy
  have e := two_kinds (kx := x.kind) (ky := y.kind) hop (by omega) (by omega) ha
  rw [nodeC, if_neg (by
    rw [Bool.not_eq_false, List.all_eq_true]
    intro o ho
    rcases List.mem_cons.1 ho with rfl | ho
    · exact vOkC_ok vx hx
    · rw [List.mem_singleton.1 ho]; exact vOkC_ok vy hy), if_neg (by rw [show ksOf [(⟨x, 0⟩ : Outv), ⟨y, 0⟩] = [x.kind, y.kind] from rfl, e]; simp), if_neg (by omega), if_neg (by omega), if_neg (by omega), if_neg (by omega)]
  simp [failO, failB]
theorem node_cmp (op : Int) (hop : op = 12 ∨ op = 13 ∨ op = 14 ∨ op = 15 ∨ op = 16 ∨ op = 17) (x y : Val) (vx : vOk x.kind x.int x.text = true) (vy : vOk y.kind y.int y.text = true) (hx : x.In) (hy : y.In) (ha : agree x.kind y.kind = true) :
    ACalls Tryz.prog 6 [.int .u8 op, outs [⟨x, 0⟩, ⟨y, 0⟩]] (.agg (if x.kind = 0 ∨ y.kind = 0 then nullO else boolO (opB op (cmpV x y))).enc) := by
  have h := calc_Node op [⟨x, 0⟩, ⟨y, 0⟩] (if ((ksOf [(⟨x, 0⟩ : Outv), ⟨y, 0⟩]).any fun k => decide (0 = k)) = true then nullO else boolO (opB op (cmpV x y))) (by simp) (fun _ => strict_cmp op hop x y (vOk_kind vx) _)
  rw [two_node _ (by omega) vx vy hx hy ha] at h
  have e : ((ksOf [(⟨x, 0⟩ : Outv), ⟨y, 0⟩]).any fun k => decide (0 = k)) = decide (x.kind = 0 ∨ y.kind = 0) := by
    show (decide (0 = x.kind) || (decide (0 = y.kind) || false)) = _
    rw [Bool.eq_iff_iff]
    simp only [Bool.or_eq_true, decide_eq_true_eq, Bool.false_eq_true, or_false]
    omega
  rw [e] at h
  simp only [decide_eq_true_eq] at h
  exact h
theorem node_same (x y : Val) (vx : vOk x.kind x.int x.text = true) (vy : vOk y.kind y.int y.text = true) (hx : x.In) (hy : y.In) (ha : agree x.kind y.kind = true) :
    ACalls Tryz.prog 6 [.int .u8 18, outs [⟨x, 0⟩, ⟨y, 0⟩]] (.agg (boolO (vEqC x y)).enc) := by
  have h := calc_Node 18 [⟨x, 0⟩, ⟨y, 0⟩] (boolO (vEqC x y)) (by simp) (fun _ => strict_same x y _)
  rw [two_node _ (by omega) vx vy hx hy ha] at h
  exact h
end Go.Proofs.YtmlaogjndaeihaaGreatDoor
