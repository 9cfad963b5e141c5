/- Kind of the program. -/
import Derived.Test.YtmlaogjndaeihaaGreatDoorT5
namespace Go.Proofs.YtmlaogjndaeihaaGreatDoor
open Go Go.Ab
attribute [local go_sem ↓] parts_tt parts_ff parts_tf parts_ft
attribute [local go_sem] parts_eq learnT aops_nil aops_cons aopsD_nil aopsD_cons stepS stepD gval St.learn skipR St.after putτ applyUpd List.foldl_cons List.foldl_nil pureOp memOp callOf litA closeO closeK List.flatMap_cons List.flatMap_nil Option.map_none decide_false opnd ofConst leaf binA unA lenA indexA indexAddrA fieldAddrA fieldA sliceA convertA pickV fillA placeS cellsA setA partA loadM storeM appendM srcEls lookBox lookRow lookMap closeL closeV scalarB scalarL killed buildEls lookupA leafEq eqAll resA resL tupA retA thenA blockA isInt loA hiA foldA maxA minA okSize leafB closedB Res.foot List.getD_cons_zero List.getD_cons_succ List.set_cons_zero List.set_cons_succ List.map_cons List.map_nil List.append_nil List.nil_append List.cons_append List.length_cons List.length_nil List.take_succ_cons List.take_zero List.drop_succ_cons List.drop_zero List.take_nil List.drop_nil List.all_cons List.all_nil List.getElem?_toArray List.getElem?_cons_zero List.getElem?_cons_succ Option.bind_some Option.map_some true_and and_true true_implies ne_eq not_true_eq_false not_false_eq_true Bool.true_eq_false Bool.false_eq_true Bool.not_true Bool.not_false decide_eq_true_eq decide_eq_false_iff_not false_implies implies_true and_self ite_true ite_false cond_true cond_false Option.some.injEq List.reverse_cons List.reverse_nil Bool.and_self Bool.true_and Bool.and_true Bool.false_and Bool.and_false Bool.or_true Bool.true_or Bool.or_false Bool.false_or Bool.not_eq_eq_eq_not Bool.not_not Bool.or_self beq_self_eq_true and_false false_and or_true true_or or_false false_or not_true not_false_iff Decidable.not_not lookT lookR tabT tabR Int.toNat_natCast List.length_map List.map_append List.length_append decide_true decide_false tmod2 List.mem_singleton forall_eq elOk1 elOk3 elOk4 castn0 castn1 castn2 castn3 getD_mid getD_mid_map at_lt at_end mid_lt mid_lt' nat_ge List.size_toArray Array.size_empty Nat.add_zero Nat.zero_add
attribute [local irreducible] ASpec ACalls retA ti EqT
set_option linter.unusedSimpArgs false
set_option maxHeartbeats 4000000
set_option maxRecDepth 100000
set_option linter.unusedVariables false
attribute [local go_sem] ti2 ti3 ti4 ti5 ti9 ti21 ti22 ti23 ti24 ti26 ti27 ti29 ti41 ti47 ti49 ti56 ti59 ti63 ti67 ti71 ti75 ti78 ti79 ti80 ti86 ti90 ti110
/-- What the program's caseKind does. -/
def caseC (even : Bool) (out : List Int) : List Int → Option (List Int)
  | [] => some out
  | x :: r => if even = true ∧ r ≠ [] then (if agree x 3 = true then caseC (!even) out r else none) else caseC (!even) (out ++ [x]) r
def caseKindC (ks : List Int) : Int × Int :=
  match caseC true [] ks with
  | none => (0, 50)
  | some out => if (commonC out).2 = true then ((commonC out).1, 0) else (0, 50)
theorem all_kd (ks : List Int) : (∀ y ∈ List.map kd ks, elOk 1 y = true) = True := by simp [elOk, kd, leafB]
theorem caseC_len {even : Bool} {out ks r : List Int} (h : caseC even out ks = some r) : r.length ≤ out.length + ks.length := by
  induction ks generalizing even out with
  | nil => simp only [caseC, Option.some.injEq] at h; subst h; simp
  | cons x ks ih =>
    rw [caseC] at h
    split at h
    · split at h
      · have := ih h; simp; omega
      · cases h
    · have := ih h; simp at this ⊢; omega
theorem par_succ (n : Nat) : decide ((n + 1) % 2 = 0) = !decide (n % 2 = 0) := by
  by_cases h : n % 2 = 0 <;> simp [h] <;> omega
theorem caseC_step {n : Nat} {x : Int} {rest o : List Int} {C : Option (List Int)} (hp : caseC (decide (n % 2 = 0)) o (x :: rest) = C) :
    (n % 2 = 0 → rest ≠ [] → agree x 3 = true → caseC (decide ((n + 1) % 2 = 0)) o rest = C) ∧ (n % 2 = 0 → rest ≠ [] → agree x 3 = false → C = none) ∧ (¬ (n % 2 = 0 ∧ rest ≠ []) → caseC (decide ((n + 1) % 2 = 0)) (o ++ [x]) rest = C) := by
  rw [par_succ]
  refine ⟨fun h1 h2 h3 => ?_, fun h1 h2 h3 => ?_, fun h => ?_⟩
  · rw [caseC, if_pos (by simpa using ⟨h1, h2⟩), if_pos h3] at hp; exact hp
  · rw [caseC, if_pos (by simpa using ⟨h1, h2⟩), if_neg (by simp [h3])] at hp; exact hp.symm
  · rw [caseC, if_neg (by simpa using h)] at hp; exact hp
theorem calc_caseKind (ks : List Int) (hl : ks.length < 2 ^ 45) : ACalls Tryz.prog 42 [kinds ks] (.tuple [.int .u8 (caseKindC ks).1, .int .i64 (caseKindC ks).2]) := by
  refine acalls_k Tryz.func42 rfl (by kernel_rfl) (congrArg Array.toList Tryz.results42) Tryz.ntmps42 ?_
  intro R hR
  simp only [st0, List.length_cons, List.length_nil, Nat.reduceAdd, Nat.reduceSub, List.replicate_succ, List.replicate_zero, List.cons_append, List.nil_append]
  repeat' (first
      | (with_reducible refine a_seq_reg ?_; intro K hK)
      | ((first | with_reducible refine a_region (by kernel_rfl) ?_ | (with_reducible refine a_draw mixed (by kernel_rfl) ?_; intro C hC) | (with_reducible refine a_cond_k ?_; intro X Y hX hY) | with_reducible refine RetOk.mk ?_); simp (maxSteps := 10000000) (implicitDefEqProofs := false) only [go_sem,  ↓reduceIte, reduceCtorEq, Nat.reduceAdd, Nat.reduceSub, Nat.reduceLeDiff, Nat.reduceEqDiff, Nat.reduceMul, Nat.reduceLT, Nat.reducePow, Int.reduceEq, Int.reduceLT, Int.reduceLE, Int.reduceGT, Int.reduceGE, Int.reduceAdd, Int.reduceSub, Int.reduceNeg, Int.reduceToNat])
      | with_reducible refine a_block ?_
      | with_reducible refine a_ret ?_
      | with_reducible refine a_exit ?_
      | with_reducible refine a_skip ?_
      | with_reducible exact ConfOk.mk (by kernel_rfl)
      | (with_reducible refine eqT_of (eq33 _ _ _ _ _ _) ?_; simp)
      | (with_reducible refine eqT_of (eq35 _ _ _ _ _ _ _ _) ?_; simp)
      | ((fail_if_success with_reducible show False); with_reducible apply_assumption (exfalso := false) (symm := false) only [*, rfl, trivial, congrArg])
      | with_reducible refine And.intro ?_ ?_
      | (intro h; contradiction)
      | (intro h; subst h)
      | intro h
      | simp (maxSteps := 10000000) (implicitDefEqProofs := false) only [go_sem,  ↓reduceIte, reduceCtorEq, Nat.reduceAdd, Nat.reduceSub, Nat.reduceLeDiff, Nat.reduceEqDiff, Nat.reduceMul, Nat.reduceLT, Nat.reducePow, Int.reduceEq, Int.reduceLT, Int.reduceLE, Int.reduceGT, Int.reduceGE, Int.reduceAdd, Int.reduceSub, Int.reduceNeg, Int.reduceToNat])
  refine a_cut (fun st => ∃ (g : Nat) (out : List Int), (out.length < 2 ^ 62 ∧ caseC true [] ks = some out) ∧ Has st 45 [(4, .view 32 g)] [(32, .row g 1 (out.map kd))]) (fun K hK => ?_) ?_
  · repeat' (first
        | (with_reducible refine a_seq_reg ?_; intro K hK)
        | ((first | with_reducible refine a_region (by kernel_rfl) ?_ | (with_reducible refine a_draw mixed (by kernel_rfl) ?_; intro C hC) | (with_reducible refine a_cond_k ?_; intro X Y hX hY) | with_reducible refine RetOk.mk ?_); simp (maxSteps := 10000000) (implicitDefEqProofs := false) only [go_sem,  ↓reduceIte, reduceCtorEq, Nat.reduceAdd, Nat.reduceSub, Nat.reduceLeDiff, Nat.reduceEqDiff, Nat.reduceMul, Nat.reduceLT, Nat.reducePow, Int.reduceEq, Int.reduceLT, Int.reduceLE, Int.reduceGT, Int.reduceGE, Int.reduceAdd, Int.reduceSub, Int.reduceNeg, Int.reduceToNat])
        | with_reducible refine a_block ?_
        | with_reducible refine a_ret ?_
        | with_reducible refine a_exit ?_
        | with_reducible refine a_skip ?_
        | with_reducible exact ConfOk.mk (by kernel_rfl)
        | (with_reducible refine eqT_of (eq33 _ _ _ _ _ _) ?_; simp)
        | (with_reducible refine eqT_of (eq35 _ _ _ _ _ _ _ _) ?_; simp)
        | ((fail_if_success with_reducible show False); with_reducible apply_assumption (exfalso := false) (symm := false) only [*, rfl, trivial, congrArg])
        | with_reducible refine And.intro ?_ ?_
        | (intro h; contradiction)
        | (intro h; subst h)
        | intro h
        | simp (maxSteps := 10000000) (implicitDefEqProofs := false) only [go_sem,  ↓reduceIte, reduceCtorEq, Nat.reduceAdd, Nat.reduceSub, Nat.reduceLeDiff, Nat.reduceEqDiff, Nat.reduceMul, Nat.reduceLT, Nat.reducePow, Int.reduceEq, Int.reduceLT, Int.reduceLE, Int.reduceGT, Int.reduceGE, Int.reduceAdd, Int.reduceSub, Int.reduceNeg, Int.reduceToNat])
    refine a_nilrow [4] 32 1 (by simp) ?_
    simp only [putAll, List.set_cons_zero, List.set_cons_succ]
    refine a_loop_k (fun n st => ∃ (g : Nat) (pre rest : List _) (o : List Int), ks = pre ++ rest ∧ n = rest.length ∧ (o.length ≤ pre.length ∧ caseC (decide (pre.length % 2 = 0)) o rest = caseC true [] ks) ∧ Has st 45 [(0, .slice (ks.map kd)), (4, .view 32 g), (10, .slice (ks.map kd)), (11, .int .i64 ks.length), (12, .int .i64 pre.length)] [(32, .row g 1 (o.map kd))]) (ks).length ⟨3, [], ks, [], rfl, rfl, by simp, ⟨rfl, rfl, by simp [kd, Outv.enc, Val.enc], by simp [kd, Outv.enc, Val.enc]⟩⟩ ?_
    rintro n st ⟨g, pre, rest, o, he, rfl, hp, hs⟩ K hK
    have hw := wrap_nat pre.length (by have := congrArg List.length he; simp at this; omega)
    subst he
    refine a_has hs fun τ σ γ => ?_
    rcases rest with _ | ⟨x, rest⟩
    · repeat' (first
          | (with_reducible refine a_seq_k ?_; intro K hK)
          | ((first | with_reducible refine a_region (by kernel_rfl) ?_ | (with_reducible refine a_draw mixed (by kernel_rfl) ?_; intro C hC) | (with_reducible refine a_cond_k ?_; intro X Y hX hY) | with_reducible refine RetOk.mk ?_); simp (maxSteps := 10000000) (implicitDefEqProofs := false) only [go_sem, kd, hw,  ↓reduceIte, reduceCtorEq, Nat.reduceAdd, Nat.reduceSub, Nat.reduceLeDiff, Nat.reduceEqDiff, Nat.reduceMul, Nat.reduceLT, Nat.reducePow, Int.reduceEq, Int.reduceLT, Int.reduceLE, Int.reduceGT, Int.reduceGE, Int.reduceAdd, Int.reduceSub, Int.reduceNeg, Int.reduceToNat])
          | with_reducible refine a_block ?_
          | with_reducible refine a_ret ?_
          | with_reducible refine a_exit ?_
          | with_reducible refine a_skip ?_
          | with_reducible exact ConfOk.mk (by kernel_rfl)
          | (with_reducible refine eqT_of (eq33 _ _ _ _ _ _) ?_; simp)
          | (with_reducible refine eqT_of (eq35 _ _ _ _ _ _ _ _) ?_; simp)
          | ((fail_if_success with_reducible show False); with_reducible apply_assumption (exfalso := false) (symm := false) only [*, rfl, trivial, congrArg])
          | with_reducible refine And.intro ?_ ?_
          | (intro h; contradiction)
          | (intro h; subst h)
          | intro h
          | simp (maxSteps := 10000000) (implicitDefEqProofs := false) only [go_sem, kd, hw,  ↓reduceIte, reduceCtorEq, Nat.reduceAdd, Nat.reduceSub, Nat.reduceLeDiff, Nat.reduceEqDiff, Nat.reduceMul, Nat.reduceLT, Nat.reducePow, Int.reduceEq, Int.reduceLT, Int.reduceLE, Int.reduceGT, Int.reduceGE, Int.reduceAdd, Int.reduceSub, Int.reduceNeg, Int.reduceToNat])
      · simp only [caseC, List.append_nil] at hp
        exact ⟨⟨g, o, ⟨by simp at hl; omega, hp.2.symm⟩, ⟨rfl, rfl, by simp, by simp⟩⟩⟩
    · have hl' : pre.length + (rest.length + 1) < 2 ^ 45 := by simpa using hl
      have hw2 := wrap_pred pre.length rest.length (by omega)
      have hc := caseC_step hp.2
      repeat' (first
          | (with_reducible refine a_seq_k ?_; intro K hK)
          | ((first | with_reducible refine a_region (by kernel_rfl) ?_ | (with_reducible refine a_draw mixed (by kernel_rfl) ?_; intro C hC) | (with_reducible refine a_cond_k ?_; intro X Y hX hY) | with_reducible refine RetOk.mk ?_ | with_reducible refine CallS.intro (calc_agree _ _) ?_ | with_reducible refine CallD.intro (calc_agree _ _) ?_); simp (maxSteps := 10000000) (implicitDefEqProofs := false) only [go_sem, kd, hw, hw2,  ↓reduceIte, reduceCtorEq, Nat.reduceAdd, Nat.reduceSub, Nat.reduceLeDiff, Nat.reduceEqDiff, Nat.reduceMul, Nat.reduceLT, Nat.reducePow, Int.reduceEq, Int.reduceLT, Int.reduceLE, Int.reduceGT, Int.reduceGE, Int.reduceAdd, Int.reduceSub, Int.reduceNeg, Int.reduceToNat])
          | with_reducible refine a_block ?_
          | with_reducible refine a_ret ?_
          | with_reducible refine a_exit ?_
          | with_reducible refine a_skip ?_
          | with_reducible exact ConfOk.mk (by kernel_rfl)
          | (with_reducible refine eqT_of (eq33 _ _ _ _ _ _) ?_; simp)
          | (with_reducible refine eqT_of (eq35 _ _ _ _ _ _ _ _) ?_; simp)
          | ((fail_if_success with_reducible show False); with_reducible apply_assumption (exfalso := false) (symm := false) only [*, rfl, trivial, congrArg])
          | with_reducible refine And.intro ?_ ?_
          | (intro h; contradiction)
          | (intro h; subst h)
          | intro h
          | simp (maxSteps := 10000000) (implicitDefEqProofs := false) only [go_sem, kd, hw, hw2,  ↓reduceIte, reduceCtorEq, Nat.reduceAdd, Nat.reduceSub, Nat.reduceLeDiff, Nat.reduceEqDiff, Nat.reduceMul, Nat.reduceLT, Nat.reducePow, Int.reduceEq, Int.reduceLT, Int.reduceLE, Int.reduceGT, Int.reduceGE, Int.reduceAdd, Int.reduceSub, Int.reduceNeg, Int.reduceToNat])
      · omega
      · omega
      · exact ⟨⟨rest.length, by simp, γ + 1 + 1 + 1 + 1, pre ++ [x], rest, o ++ [x], by simp, rfl, ⟨by simp; omega, by simpa using hc.2.2 (by rintro ⟨h1, h2⟩; exact h2 (List.eq_nil_of_length_eq_zero (by omega)))⟩, ⟨rfl, rfl, by simp [kd], by simp [kd]⟩⟩⟩
      · have h6 := hc.2.1 (by omega) (ne_nil_of_lt (by assumption)) h
        rw [caseKindC, h6]
      · have h6 := hc.1 (by omega) (ne_nil_of_lt (by assumption)) h
        exact ⟨⟨rest.length, by simp, g, pre ++ [x], rest, o, by simp, rfl, ⟨by simp; omega, by simpa using h6⟩, ⟨rfl, rfl, by simp [kd], by simp [kd]⟩⟩⟩
      · omega
      · omega
      · exact ⟨⟨rest.length, by simp, γ + 1 + 1 + 1 + 1, pre ++ [x], rest, o ++ [x], by simp, rfl, ⟨by simp; omega, by simpa using hc.2.2 (by rintro ⟨h1, h2⟩; omega)⟩, ⟨rfl, rfl, by simp [kd], by simp [kd]⟩⟩⟩
  · rintro st ⟨g, out, hm, hs⟩
    refine a_has hs fun τ σ γ => ?_
    repeat' (first
        | (with_reducible refine a_seq_k ?_; intro K hK)
        | ((first | with_reducible refine a_region (by kernel_rfl) ?_ | (with_reducible refine a_draw mixed (by kernel_rfl) ?_; intro C hC) | (with_reducible refine a_cond_k ?_; intro X Y hX hY) | with_reducible refine RetOk.mk ?_ | with_reducible refine CallS.intro (calc_common out hm.1) ?_ | with_reducible refine CallD.intro (calc_common out hm.1) ?_); simp (maxSteps := 10000000) (implicitDefEqProofs := false) only [go_sem, kd,  ↓reduceIte, reduceCtorEq, Nat.reduceAdd, Nat.reduceSub, Nat.reduceLeDiff, Nat.reduceEqDiff, Nat.reduceMul, Nat.reduceLT, Nat.reducePow, Int.reduceEq, Int.reduceLT, Int.reduceLE, Int.reduceGT, Int.reduceGE, Int.reduceAdd, Int.reduceSub, Int.reduceNeg, Int.reduceToNat])
        | with_reducible refine a_block ?_
        | with_reducible refine a_ret ?_
        | with_reducible refine a_exit ?_
        | with_reducible refine a_skip ?_
        | with_reducible exact ConfOk.mk (by kernel_rfl)
        | (with_reducible refine eqT_of (eq33 _ _ _ _ _ _) ?_; simp)
        | (with_reducible refine eqT_of (eq35 _ _ _ _ _ _ _ _) ?_; simp)
        | ((fail_if_success with_reducible show False); with_reducible apply_assumption (exfalso := false) (symm := false) only [*, rfl, trivial, congrArg])
        | with_reducible refine And.intro ?_ ?_
        | (intro h; contradiction)
        | (intro h; subst h)
        | intro h
        | simp (maxSteps := 10000000) (implicitDefEqProofs := false) only [go_sem, kd,  ↓reduceIte, reduceCtorEq, Nat.reduceAdd, Nat.reduceSub, Nat.reduceLeDiff, Nat.reduceEqDiff, Nat.reduceMul, Nat.reduceLT, Nat.reducePow, Int.reduceEq, Int.reduceLT, Int.reduceLE, Int.reduceGT, Int.reduceGE, Int.reduceAdd, Int.reduceSub, Int.reduceNeg, Int.reduceToNat])
    · rw [caseKindC, hm.2]; simp [h]
    · rw [caseKindC, hm.2]; simp [h]
def kindC (op : Int) (ks : List Int) : Int × Int :=
  let s := if op = 25 then (⟨⟨2, 2 ^ 62, 0, 0⟩, true⟩ : Sig × Bool) else sigOf op
  if s.2 = false ∨ (ks.length : Int) < s.1.least ∨ s.1.most < (ks.length : Int) ∨ (ks.any fun k => decide (3 < k)) = true then (0, 1)
  else if op = 25 then caseKindC ks
  else if (commonC (s.1.takes :: ks)).2 = true then (if op = 26 then (commonC (s.1.takes :: ks)).1 else s.1.gives, 0) else (0, 50)
theorem kindC_of {op : Int} {ks : List Int} {s : Sig} {b : Bool} (hm : (if op = 25 then (⟨⟨2, 2 ^ 62, 0, 0⟩, true⟩ : Sig × Bool) else sigOf op) = (s, b)) :
    kindC op ks = if b = false ∨ (ks.length : Int) < s.least ∨ s.most < (ks.length : Int) ∨ (ks.any fun k => decide (3 < k)) = true then (0, 1)
      else if op = 25 then caseKindC ks
      else if (commonC (s.takes :: ks)).2 = true then (if op = 26 then (commonC (s.takes :: ks)).1 else s.gives, 0) else (0, 50) := by
  unfold kindC; simp only [hm]
theorem calc_Kind (op : Int) (ks : List Int) (hl : ks.length < 2 ^ 45) : ACalls Tryz.prog 22 [.int .u8 op, kinds ks] (.tuple [.int .u8 (kindC op ks).1, .int .i64 (kindC op ks).2]) := by
  have hl2 : ∀ x : Int, (x :: ks).length < 2 ^ 62 := by intro x; simp; omega
  refine acalls_k Tryz.func22 rfl (by kernel_rfl) (congrArg Array.toList Tryz.results22) Tryz.ntmps22 ?_
  intro R hR
  simp only [st0, List.length_cons, List.length_nil, Nat.reduceAdd, Nat.reduceSub, List.replicate_succ, List.replicate_zero, List.cons_append, List.nil_append]
  repeat' (first
      | (with_reducible refine a_seq_reg ?_; intro K hK)
      | ((first | with_reducible refine a_region (by kernel_rfl) ?_ | (with_reducible refine a_draw mixed (by kernel_rfl) ?_; intro C hC) | (with_reducible refine a_cond_k ?_; intro X Y hX hY) | with_reducible refine RetOk.mk ?_ | with_reducible refine CallS.intro (calc_signatures _) ?_ | with_reducible refine CallD.intro (calc_signatures _) ?_); simp (maxSteps := 10000000) (implicitDefEqProofs := false) only [go_sem, Sig.enc,  ↓reduceIte, reduceCtorEq, Nat.reduceAdd, Nat.reduceSub, Nat.reduceLeDiff, Nat.reduceEqDiff, Nat.reduceMul, Nat.reduceLT, Nat.reducePow, Int.reduceEq, Int.reduceLT, Int.reduceLE, Int.reduceGT, Int.reduceGE, Int.reduceAdd, Int.reduceSub, Int.reduceNeg, Int.reduceToNat])
      | with_reducible refine a_block ?_
      | with_reducible refine a_ret ?_
      | with_reducible refine a_exit ?_
      | with_reducible refine a_skip ?_
      | with_reducible exact ConfOk.mk (by kernel_rfl)
      | (with_reducible refine eqT_of (eq33 _ _ _ _ _ _) ?_; simp)
      | (with_reducible refine eqT_of (eq35 _ _ _ _ _ _ _ _) ?_; simp)
      | ((fail_if_success with_reducible show False); with_reducible apply_assumption (exfalso := false) (symm := false) only [*, rfl, trivial, congrArg])
      | with_reducible refine And.intro ?_ ?_
      | (intro h; contradiction)
      | (intro h; subst h)
      | intro h
      | simp (maxSteps := 10000000) (implicitDefEqProofs := false) only [go_sem, Sig.enc,  ↓reduceIte, reduceCtorEq, Nat.reduceAdd, Nat.reduceSub, Nat.reduceLeDiff, Nat.reduceEqDiff, Nat.reduceMul, Nat.reduceLT, Nat.reducePow, Int.reduceEq, Int.reduceLT, Int.reduceLE, Int.reduceGT, Int.reduceGE, Int.reduceAdd, Int.reduceSub, Int.reduceNeg, Int.reduceToNat])
  refine a_cut (fun st => ∃ (g : Nat) (s : Sig) (b : Bool), ((if op = 25 then (⟨⟨2, 2 ^ 62, 0, 0⟩, true⟩ : Sig × Bool) else sigOf op) = (s, b)) ∧ Has st 62 [(0, .int .u8 op), (1, .slice (ks.map kd)), (6, .ptr 6 g 0), (7, .bool b)] [(6, .box g s.enc)]) (fun K hK => ?_) ?_
  · repeat' (first
        | (with_reducible refine a_seq_k ?_; intro K hK)
        | ((first | with_reducible refine a_region (by kernel_rfl) ?_ | (with_reducible refine a_draw mixed (by kernel_rfl) ?_; intro C hC) | (with_reducible refine a_cond_k ?_; intro X Y hX hY) | with_reducible refine RetOk.mk ?_); simp (maxSteps := 10000000) (implicitDefEqProofs := false) only [go_sem, Sig.enc,  ↓reduceIte, reduceCtorEq, Nat.reduceAdd, Nat.reduceSub, Nat.reduceLeDiff, Nat.reduceEqDiff, Nat.reduceMul, Nat.reduceLT, Nat.reducePow, Int.reduceEq, Int.reduceLT, Int.reduceLE, Int.reduceGT, Int.reduceGE, Int.reduceAdd, Int.reduceSub, Int.reduceNeg, Int.reduceToNat])
        | with_reducible refine a_block ?_
        | with_reducible refine a_ret ?_
        | with_reducible refine a_exit ?_
        | with_reducible refine a_skip ?_
        | with_reducible exact ConfOk.mk (by kernel_rfl)
        | (with_reducible refine eqT_of (eq33 _ _ _ _ _ _) ?_; simp)
        | (with_reducible refine eqT_of (eq35 _ _ _ _ _ _ _ _) ?_; simp)
        | ((fail_if_success with_reducible show False); with_reducible apply_assumption (exfalso := false) (symm := false) only [*, rfl, trivial, congrArg])
        | with_reducible refine And.intro ?_ ?_
        | (intro h; contradiction)
        | (intro h; subst h)
        | intro h
        | simp (maxSteps := 10000000) (implicitDefEqProofs := false) only [go_sem, Sig.enc,  ↓reduceIte, reduceCtorEq, Nat.reduceAdd, Nat.reduceSub, Nat.reduceLeDiff, Nat.reduceEqDiff, Nat.reduceMul, Nat.reduceLT, Nat.reducePow, Int.reduceEq, Int.reduceLT, Int.reduceLE, Int.reduceGT, Int.reduceGE, Int.reduceAdd, Int.reduceSub, Int.reduceNeg, Int.reduceToNat])
    · exact ⟨⟨1, _, _, rfl, ⟨rfl, rfl, by simp, by simp [Sig.enc]⟩⟩⟩
    · exact ⟨⟨1, (sigOf op).1, (sigOf op).2, by rw [if_neg h], ⟨rfl, rfl, by simp, by simp [Sig.enc]⟩⟩⟩
  · rintro st ⟨g, s, b, hm, hs⟩
    refine a_has hs fun τ σ γ => ?_
    refine a_cut (fun st => (b = true ∧ s.least ≤ (ks.length : Int) ∧ (ks.length : Int) ≤ s.most ∧ (ks.any fun k => decide (3 < k)) = false) ∧ Has st 62 [(0, .int .u8 op), (1, .slice (ks.map kd)), (6, .ptr 6 g 0)] [(6, .box g s.enc)]) (fun K hK => ?_) ?_
    · repeat' (first
          | (with_reducible refine a_seq_k ?_; intro K hK)
          | ((first | with_reducible refine a_region (by kernel_rfl) ?_ | (with_reducible refine a_draw mixed (by kernel_rfl) ?_; intro C hC) | (with_reducible refine a_cond_k ?_; intro X Y hX hY) | with_reducible refine RetOk.mk ?_ | with_reducible refine CallS.intro (sl_ContainsFunc ks _ _ _ (fun _ _ => rfl) (fun x => calc_Kind1 x) (by omega)) ?_ | with_reducible refine CallD.intro (sl_ContainsFunc ks _ _ _ (fun _ _ => rfl) (fun x => calc_Kind1 x) (by omega)) ?_); simp (maxSteps := 10000000) (implicitDefEqProofs := false) only [go_sem, Sig.enc,  ↓reduceIte, reduceCtorEq, Nat.reduceAdd, Nat.reduceSub, Nat.reduceLeDiff, Nat.reduceEqDiff, Nat.reduceMul, Nat.reduceLT, Nat.reducePow, Int.reduceEq, Int.reduceLT, Int.reduceLE, Int.reduceGT, Int.reduceGE, Int.reduceAdd, Int.reduceSub, Int.reduceNeg, Int.reduceToNat])
          | with_reducible refine a_block ?_
          | with_reducible refine a_ret ?_
          | with_reducible refine a_exit ?_
          | with_reducible refine a_skip ?_
          | with_reducible exact ConfOk.mk (by kernel_rfl)
          | (with_reducible refine eqT_of (eq33 _ _ _ _ _ _) ?_; simp)
          | (with_reducible refine eqT_of (eq35 _ _ _ _ _ _ _ _) ?_; simp)
          | ((fail_if_success with_reducible show False); with_reducible apply_assumption (exfalso := false) (symm := false) only [*, rfl, trivial, congrArg])
          | with_reducible refine And.intro ?_ ?_
          | (intro h; contradiction)
          | (intro h; subst h)
          | intro h
          | simp (maxSteps := 10000000) (implicitDefEqProofs := false) only [go_sem, Sig.enc,  ↓reduceIte, reduceCtorEq, Nat.reduceAdd, Nat.reduceSub, Nat.reduceLeDiff, Nat.reduceEqDiff, Nat.reduceMul, Nat.reduceLT, Nat.reducePow, Int.reduceEq, Int.reduceLT, Int.reduceLE, Int.reduceGT, Int.reduceGE, Int.reduceAdd, Int.reduceSub, Int.reduceNeg, Int.reduceToNat])
      all_goals first
        | exact ⟨⟨⟨by omega, by omega, by assumption⟩, ⟨rfl, rfl, by simp, by simp [Sig.enc]⟩⟩⟩
        | (rw [kindC_of hm, if_pos (by first | exact .inl rfl | exact .inr (.inl (by assumption)) | exact .inr (.inr (.inl (by assumption))) | exact .inr (.inr (.inr (by assumption))))])
    · rintro st ⟨hm, hs⟩
      refine a_has hs fun τ σ γ => ?_
      have hcc := calc_common (s.takes :: ks) (hl2 _)
      simp only [kinds, List.map_cons, kd] at hcc
      obtain ⟨rfl, hm1, hm2, hm3⟩ := hm
      have hm4 : ¬ (true = false ∨ (ks.length : Int) < s.least ∨ s.most < (ks.length : Int) ∨ (ks.any fun k => decide (3 < k)) = true) := by rw [hm3]; simp; omega
      repeat' (first
          | (with_reducible refine a_seq_k ?_; intro K hK)
          | ((first | with_reducible refine a_region (by kernel_rfl) ?_ | (with_reducible refine a_draw mixed (by kernel_rfl) ?_; intro C hC) | (with_reducible refine a_cond_k ?_; intro X Y hX hY) | with_reducible refine RetOk.mk ?_ | with_reducible refine CallS.intro (calc_caseKind ks hl) ?_ | with_reducible refine CallD.intro (calc_caseKind ks hl) ?_ | with_reducible refine CallS.intro (hcc) ?_ | with_reducible refine CallD.intro (hcc) ?_); simp (maxSteps := 10000000) (implicitDefEqProofs := false) only [go_sem, Sig.enc, kd, all_kd,  ↓reduceIte, reduceCtorEq, Nat.reduceAdd, Nat.reduceSub, Nat.reduceLeDiff, Nat.reduceEqDiff, Nat.reduceMul, Nat.reduceLT, Nat.reducePow, Int.reduceEq, Int.reduceLT, Int.reduceLE, Int.reduceGT, Int.reduceGE, Int.reduceAdd, Int.reduceSub, Int.reduceNeg, Int.reduceToNat])
          | with_reducible refine a_block ?_
          | with_reducible refine a_ret ?_
          | with_reducible refine a_exit ?_
          | with_reducible refine a_skip ?_
          | with_reducible exact ConfOk.mk (by kernel_rfl)
          | (with_reducible refine eqT_of (eq33 _ _ _ _ _ _) ?_; simp)
          | (with_reducible refine eqT_of (eq35 _ _ _ _ _ _ _ _) ?_; simp)
          | ((fail_if_success with_reducible show False); with_reducible apply_assumption (exfalso := false) (symm := false) only [*, rfl, trivial, congrArg])
          | with_reducible refine And.intro ?_ ?_
          | (intro h; contradiction)
          | (intro h; subst h)
          | intro h
          | simp (maxSteps := 10000000) (implicitDefEqProofs := false) only [go_sem, Sig.enc, kd, all_kd,  ↓reduceIte, reduceCtorEq, Nat.reduceAdd, Nat.reduceSub, Nat.reduceLeDiff, Nat.reduceEqDiff, Nat.reduceMul, Nat.reduceLT, Nat.reducePow, Int.reduceEq, Int.reduceLT, Int.reduceLE, Int.reduceGT, Int.reduceGE, Int.reduceAdd, Int.reduceSub, Int.reduceNeg, Int.reduceToNat])
      all_goals first
        | omega
        | (rw [kindC_of (by assumption), if_neg hm4]; simp [*]; done)
end Go.Proofs.YtmlaogjndaeihaaGreatDoor
