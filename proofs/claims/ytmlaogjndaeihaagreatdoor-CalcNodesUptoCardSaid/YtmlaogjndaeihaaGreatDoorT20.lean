/- Arithmetic on integers. -/
import Derived.Test.YtmlaogjndaeihaaGreatDoorT7
import Derived.Test.YtmlaogjndaeihaaGreatDoorB0
namespace Go.Proofs.YtmlaogjndaeihaaGreatDoor
open Go Go.Ab
attribute [local go_sem ↓] parts_tt parts_ff parts_tf parts_ft
attribute [local go_sem] parts_eq learnT aops_nil aops_cons aopsD_nil aopsD_cons stepS stepD gval St.learn skipR St.after putτ applyUpd List.foldl_cons List.foldl_nil pureOp memOp callOf litA closeO closeK List.flatMap_cons List.flatMap_nil Option.map_none decide_false opnd ofConst leaf binA unA lenA indexA indexAddrA fieldAddrA fieldA sliceA convertA pickV fillA placeS cellsA setA partA loadM storeM appendM srcEls lookBox lookRow lookMap closeL closeV scalarB scalarL killed buildEls lookupA leafEq eqAll resA resL tupA retA thenA blockA isInt loA hiA foldA maxA minA okSize leafB closedB Res.foot List.getD_cons_zero List.getD_cons_succ List.set_cons_zero List.set_cons_succ List.map_cons List.map_nil List.append_nil List.nil_append List.cons_append List.length_cons List.length_nil List.take_succ_cons List.take_zero List.drop_succ_cons List.drop_zero List.take_nil List.drop_nil List.all_cons List.all_nil List.getElem?_toArray List.getElem?_cons_zero List.getElem?_cons_succ Option.bind_some Option.map_some true_and and_true true_implies ne_eq not_true_eq_false not_false_eq_true Bool.true_eq_false Bool.false_eq_true Bool.not_true Bool.not_false decide_eq_true_eq decide_eq_false_iff_not false_implies implies_true and_self ite_true ite_false cond_true cond_false Option.some.injEq List.reverse_cons List.reverse_nil Bool.and_self Bool.true_and Bool.and_true Bool.false_and Bool.and_false Bool.or_true Bool.true_or Bool.or_false Bool.false_or Bool.not_eq_eq_eq_not Bool.not_not Bool.or_self beq_self_eq_true and_false false_and or_true true_or or_false false_or not_true not_false_iff Decidable.not_not lookT lookR tabT tabR Int.toNat_natCast List.length_map List.map_append List.length_append decide_true decide_false tmod2 List.mem_singleton forall_eq elOk1 elOk3 elOk4 castn0 castn1 castn2 castn3 getD_mid getD_mid_map at_lt at_end mid_lt mid_lt' nat_ge List.size_toArray Array.size_empty Nat.add_zero Nat.zero_add
attribute [local irreducible] ASpec ACalls retA ti EqT
set_option linter.unusedSimpArgs false
set_option maxHeartbeats 4000000
set_option maxRecDepth 100000
set_option linter.unusedVariables false
attribute [local go_sem] ti2 ti3 ti4 ti5 ti9 ti21 ti22 ti23 ti24 ti26 ti27 ti29 ti41 ti47 ti49 ti56 ti59 ti63 ti67 ti71 ti75 ti78 ti79 ti80 ti86 ti90 ti110
theorem value_Int (n : Int) : ACalls Tryz.prog 49 [.int .i64 n] (vA 1 n emp) := by
  refine acalls_k Tryz.func49 rfl (by kernel_rfl) (congrArg Array.toList Tryz.results49) Tryz.ntmps49 ?_
  intro R hR
  simp only [st0, List.length_cons, List.length_nil, Nat.reduceAdd, Nat.reduceSub, List.replicate_succ, List.replicate_zero, List.cons_append, List.nil_append]
  repeat' (first
      | (with_reducible refine a_seq_k ?_; intro K hK)
      | ((first | with_reducible refine a_region (by kernel_rfl) ?_ | (with_reducible refine a_draw mixed (by kernel_rfl) ?_; intro C hC) | (with_reducible refine a_cond_k ?_; intro X Y hX hY) | with_reducible refine RetOk.mk ?_); simp (maxSteps := 10000000) (implicitDefEqProofs := false) only [go_sem,  ↓reduceIte, reduceCtorEq, Nat.reduceAdd, Nat.reduceSub, Nat.reduceLeDiff, Nat.reduceEqDiff, Nat.reduceMul, Nat.reduceLT, Nat.reducePow, Int.reduceEq, Int.reduceLT, Int.reduceLE, Int.reduceGT, Int.reduceGE, Int.reduceAdd, Int.reduceSub, Int.reduceNeg, Int.reduceToNat])
      | with_reducible refine a_block ?_
      | with_reducible refine a_ret ?_
      | with_reducible refine a_exit ?_
      | with_reducible refine a_skip ?_
      | with_reducible exact ConfOk.mk (by kernel_rfl)
      | (with_reducible refine eqT_of (eq33 _ _ _ _ _ _) ?_; simp)
      | (with_reducible refine eqT_of (eq35 _ _ _ _ _ _ _ _) ?_; simp)
      | ((fail_if_success with_reducible show False); with_reducible apply_assumption (exfalso := false) (symm := false) only [*, rfl, trivial, congrArg])
      | with_reducible refine And.intro ?_ ?_
      | (intro h; contradiction)
      | (intro h; subst h)
      | intro h
      | simp (maxSteps := 10000000) (implicitDefEqProofs := false) only [go_sem,  ↓reduceIte, reduceCtorEq, Nat.reduceAdd, Nat.reduceSub, Nat.reduceLeDiff, Nat.reduceEqDiff, Nat.reduceMul, Nat.reduceLT, Nat.reducePow, Int.reduceEq, Int.reduceLT, Int.reduceLE, Int.reduceGT, Int.reduceGE, Int.reduceAdd, Int.reduceSub, Int.reduceNeg, Int.reduceToNat])
def textI (s : ByteArray) : Val × Int := if 100 < (s.size : Int) then (⟨0, 0, emp⟩, 5) else (⟨2, 0, s⟩, 0)
theorem value_Text (s : ByteArray) : ACalls Tryz.prog 48 [.str s] (.tuple [vA (textI s).1.kind (textI s).1.int (textI s).1.text, .int .i64 (textI s).2]) := by
  by_cases h : 100 < (s.size : Int)
  · rw [show textI s = (⟨0, 0, emp⟩, 5) from if_pos h]
    refine acalls_k Tryz.func48 rfl (by kernel_rfl) (congrArg Array.toList Tryz.results48) Tryz.ntmps48 ?_
    intro R hR
    simp only [st0, List.length_cons, List.length_nil, Nat.reduceAdd, Nat.reduceSub, List.replicate_succ, List.replicate_zero, List.cons_append, List.nil_append]
    repeat' (first
        | (with_reducible refine a_seq_k ?_; intro K hK)
        | ((first | with_reducible refine a_region (by kernel_rfl) ?_ | (with_reducible refine a_draw mixed (by kernel_rfl) ?_; intro C hC) | (with_reducible refine a_cond_k ?_; intro X Y hX hY) | with_reducible refine RetOk.mk ?_); simp (maxSteps := 10000000) (implicitDefEqProofs := false) only [go_sem, h,  ↓reduceIte, reduceCtorEq, Nat.reduceAdd, Nat.reduceSub, Nat.reduceLeDiff, Nat.reduceEqDiff, Nat.reduceMul, Nat.reduceLT, Nat.reducePow, Int.reduceEq, Int.reduceLT, Int.reduceLE, Int.reduceGT, Int.reduceGE, Int.reduceAdd, Int.reduceSub, Int.reduceNeg, Int.reduceToNat])
        | with_reducible refine a_block ?_
        | with_reducible refine a_ret ?_
        | with_reducible refine a_exit ?_
        | with_reducible refine a_skip ?_
        | with_reducible exact ConfOk.mk (by kernel_rfl)
        | (with_reducible refine eqT_of (eq33 _ _ _ _ _ _) ?_; simp)
        | (with_reducible refine eqT_of (eq35 _ _ _ _ _ _ _ _) ?_; simp)
        | ((fail_if_success with_reducible show False); with_reducible apply_assumption (exfalso := false) (symm := false) only [*, rfl, trivial, congrArg])
        | with_reducible refine And.intro ?_ ?_
        | (intro h; contradiction)
        | (intro h; subst h)
        | intro h
        | simp (maxSteps := 10000000) (implicitDefEqProofs := false) only [go_sem, h,  ↓reduceIte, reduceCtorEq, Nat.reduceAdd, Nat.reduceSub, Nat.reduceLeDiff, Nat.reduceEqDiff, Nat.reduceMul, Nat.reduceLT, Nat.reducePow, Int.reduceEq, Int.reduceLT, Int.reduceLE, Int.reduceGT, Int.reduceGE, Int.reduceAdd, Int.reduceSub, Int.reduceNeg, Int.reduceToNat])
  · rw [show textI s = (⟨2, 0, s⟩, 0) from if_neg h]
    refine acalls_k Tryz.func48 rfl (by kernel_rfl) (congrArg Array.toList Tryz.results48) Tryz.ntmps48 ?_
    intro R hR
    simp only [st0, List.length_cons, List.length_nil, Nat.reduceAdd, Nat.reduceSub, List.replicate_succ, List.replicate_zero, List.cons_append, List.nil_append]
    repeat' (first
        | (with_reducible refine a_seq_k ?_; intro K hK)
        | ((first | with_reducible refine a_region (by kernel_rfl) ?_ | (with_reducible refine a_draw mixed (by kernel_rfl) ?_; intro C hC) | (with_reducible refine a_cond_k ?_; intro X Y hX hY) | with_reducible refine RetOk.mk ?_); simp (maxSteps := 10000000) (implicitDefEqProofs := false) only [go_sem, h,  ↓reduceIte, reduceCtorEq, Nat.reduceAdd, Nat.reduceSub, Nat.reduceLeDiff, Nat.reduceEqDiff, Nat.reduceMul, Nat.reduceLT, Nat.reducePow, Int.reduceEq, Int.reduceLT, Int.reduceLE, Int.reduceGT, Int.reduceGE, Int.reduceAdd, Int.reduceSub, Int.reduceNeg, Int.reduceToNat])
        | with_reducible refine a_block ?_
        | with_reducible refine a_ret ?_
        | with_reducible refine a_exit ?_
        | with_reducible refine a_skip ?_
        | with_reducible exact ConfOk.mk (by kernel_rfl)
        | (with_reducible refine eqT_of (eq33 _ _ _ _ _ _) ?_; simp)
        | (with_reducible refine eqT_of (eq35 _ _ _ _ _ _ _ _) ?_; simp)
        | ((fail_if_success with_reducible show False); with_reducible apply_assumption (exfalso := false) (symm := false) only [*, rfl, trivial, congrArg])
        | with_reducible refine And.intro ?_ ?_
        | (intro h; contradiction)
        | (intro h; subst h)
        | intro h
        | simp (maxSteps := 10000000) (implicitDefEqProofs := false) only [go_sem, h,  ↓reduceIte, reduceCtorEq, Nat.reduceAdd, Nat.reduceSub, Nat.reduceLeDiff, Nat.reduceEqDiff, Nat.reduceMul, Nat.reduceLT, Nat.reducePow, Int.reduceEq, Int.reduceLT, Int.reduceLE, Int.reduceGT, Int.reduceGE, Int.reduceAdd, Int.reduceSub, Int.reduceNeg, Int.reduceToNat])
theorem value_Add (a b : Int) (ha : In64 a) (hb : In64 b) : ACalls Tryz.prog 71 [.int .i64 a, .int .i64 b] (.tuple [.int .i64 (arI (a + b)).1, .int .i64 (arI (a + b)).2]) := by
  have hO := add_over ha hb
  by_cases h : In64 (a + b)
  · rw [show arI (a + b) = (a + b, 0) from if_pos h]
    have hW := (wrap_i64 (a + b)).2.1 h
    rw [hW] at hO
    refine acalls_k Tryz.func71 rfl (by kernel_rfl) (congrArg Array.toList Tryz.results71) Tryz.ntmps71 ?_
    intro R hR
    simp only [st0, List.length_cons, List.length_nil, Nat.reduceAdd, Nat.reduceSub, List.replicate_succ, List.replicate_zero, List.cons_append, List.nil_append]
    repeat' (first
        | (with_reducible refine a_seq_k ?_; intro K hK)
        | ((first | with_reducible refine a_region (by kernel_rfl) ?_ | (with_reducible refine a_draw mixed (by kernel_rfl) ?_; intro C hC) | (with_reducible refine a_cond_k ?_; intro X Y hX hY) | with_reducible refine RetOk.mk ?_); simp (maxSteps := 10000000) (implicitDefEqProofs := false) only [go_sem, hW, hO, h,  ↓reduceIte, reduceCtorEq, Nat.reduceAdd, Nat.reduceSub, Nat.reduceLeDiff, Nat.reduceEqDiff, Nat.reduceMul, Nat.reduceLT, Nat.reducePow, Int.reduceEq, Int.reduceLT, Int.reduceLE, Int.reduceGT, Int.reduceGE, Int.reduceAdd, Int.reduceSub, Int.reduceNeg, Int.reduceToNat])
        | with_reducible refine a_block ?_
        | with_reducible refine a_ret ?_
        | with_reducible refine a_exit ?_
        | with_reducible refine a_skip ?_
        | with_reducible exact ConfOk.mk (by kernel_rfl)
        | (with_reducible refine eqT_of (eq33 _ _ _ _ _ _) ?_; simp)
        | (with_reducible refine eqT_of (eq35 _ _ _ _ _ _ _ _) ?_; simp)
        | ((fail_if_success with_reducible show False); with_reducible apply_assumption (exfalso := false) (symm := false) only [*, rfl, trivial, congrArg])
        | with_reducible refine And.intro ?_ ?_
        | (intro h; contradiction)
        | (intro h; subst h)
        | intro h
        | simp (maxSteps := 10000000) (implicitDefEqProofs := false) only [go_sem, hW, hO, h,  ↓reduceIte, reduceCtorEq, Nat.reduceAdd, Nat.reduceSub, Nat.reduceLeDiff, Nat.reduceEqDiff, Nat.reduceMul, Nat.reduceLT, Nat.reducePow, Int.reduceEq, Int.reduceLT, Int.reduceLE, Int.reduceGT, Int.reduceGE, Int.reduceAdd, Int.reduceSub, Int.reduceNeg, Int.reduceToNat])
  · rw [show arI (a + b) = (0, 4) from if_neg h]
    refine acalls_k Tryz.func71 rfl (by kernel_rfl) (congrArg Array.toList Tryz.results71) Tryz.ntmps71 ?_
    intro R hR
    simp only [st0, List.length_cons, List.length_nil, Nat.reduceAdd, Nat.reduceSub, List.replicate_succ, List.replicate_zero, List.cons_append, List.nil_append]
    repeat' (first
        | (with_reducible refine a_seq_k ?_; intro K hK)
        | ((first | with_reducible refine a_region (by kernel_rfl) ?_ | (with_reducible refine a_draw mixed (by kernel_rfl) ?_; intro C hC) | (with_reducible refine a_cond_k ?_; intro X Y hX hY) | with_reducible refine RetOk.mk ?_); simp (maxSteps := 10000000) (implicitDefEqProofs := false) only [go_sem, hO, h,  ↓reduceIte, reduceCtorEq, Nat.reduceAdd, Nat.reduceSub, Nat.reduceLeDiff, Nat.reduceEqDiff, Nat.reduceMul, Nat.reduceLT, Nat.reducePow, Int.reduceEq, Int.reduceLT, Int.reduceLE, Int.reduceGT, Int.reduceGE, Int.reduceAdd, Int.reduceSub, Int.reduceNeg, Int.reduceToNat])
        | with_reducible refine a_block ?_
        | with_reducible refine a_ret ?_
        | with_reducible refine a_exit ?_
        | with_reducible refine a_skip ?_
        | with_reducible exact ConfOk.mk (by kernel_rfl)
        | (with_reducible refine eqT_of (eq33 _ _ _ _ _ _) ?_; simp)
        | (with_reducible refine eqT_of (eq35 _ _ _ _ _ _ _ _) ?_; simp)
        | ((fail_if_success with_reducible show False); with_reducible apply_assumption (exfalso := false) (symm := false) only [*, rfl, trivial, congrArg])
        | with_reducible refine And.intro ?_ ?_
        | (intro h; contradiction)
        | (intro h; subst h)
        | intro h
        | simp (maxSteps := 10000000) (implicitDefEqProofs := false) only [go_sem, hO, h,  ↓reduceIte, reduceCtorEq, Nat.reduceAdd, Nat.reduceSub, Nat.reduceLeDiff, Nat.reduceEqDiff, Nat.reduceMul, Nat.reduceLT, Nat.reducePow, Int.reduceEq, Int.reduceLT, Int.reduceLE, Int.reduceGT, Int.reduceGE, Int.reduceAdd, Int.reduceSub, Int.reduceNeg, Int.reduceToNat])
theorem value_Sub (a b : Int) (ha : In64 a) (hb : In64 b) : ACalls Tryz.prog 52 [.int .i64 a, .int .i64 b] (.tuple [.int .i64 (arI (a - b)).1, .int .i64 (arI (a - b)).2]) := by
  have hO := sub_over ha hb
  by_cases h : In64 (a - b)
  · rw [show arI (a - b) = (a - b, 0) from if_pos h]
    have hW := (wrap_i64 (a - b)).2.1 h
    rw [hW] at hO
    refine acalls_k Tryz.func52 rfl (by kernel_rfl) (congrArg Array.toList Tryz.results52) Tryz.ntmps52 ?_
    intro R hR
    simp only [st0, List.length_cons, List.length_nil, Nat.reduceAdd, Nat.reduceSub, List.replicate_succ, List.replicate_zero, List.cons_append, List.nil_append]
    repeat' (first
        | (with_reducible refine a_seq_k ?_; intro K hK)
        | ((first | with_reducible refine a_region (by kernel_rfl) ?_ | (with_reducible refine a_draw mixed (by kernel_rfl) ?_; intro C hC) | (with_reducible refine a_cond_k ?_; intro X Y hX hY) | with_reducible refine RetOk.mk ?_); simp (maxSteps := 10000000) (implicitDefEqProofs := false) only [go_sem, hW, hO, h,  ↓reduceIte, reduceCtorEq, Nat.reduceAdd, Nat.reduceSub, Nat.reduceLeDiff, Nat.reduceEqDiff, Nat.reduceMul, Nat.reduceLT, Nat.reducePow, Int.reduceEq, Int.reduceLT, Int.reduceLE, Int.reduceGT, Int.reduceGE, Int.reduceAdd, Int.reduceSub, Int.reduceNeg, Int.reduceToNat])
        | with_reducible refine a_block ?_
        | with_reducible refine a_ret ?_
        | with_reducible refine a_exit ?_
        | with_reducible refine a_skip ?_
        | with_reducible exact ConfOk.mk (by kernel_rfl)
        | (with_reducible refine eqT_of (eq33 _ _ _ _ _ _) ?_; simp)
        | (with_reducible refine eqT_of (eq35 _ _ _ _ _ _ _ _) ?_; simp)
        | ((fail_if_success with_reducible show False); with_reducible apply_assumption (exfalso := false) (symm := false) only [*, rfl, trivial, congrArg])
        | with_reducible refine And.intro ?_ ?_
        | (intro h; contradiction)
        | (intro h; subst h)
        | intro h
        | simp (maxSteps := 10000000) (implicitDefEqProofs := false) only [go_sem, hW, hO, h,  ↓reduceIte, reduceCtorEq, Nat.reduceAdd, Nat.reduceSub, Nat.reduceLeDiff, Nat.reduceEqDiff, Nat.reduceMul, Nat.reduceLT, Nat.reducePow, Int.reduceEq, Int.reduceLT, Int.reduceLE, Int.reduceGT, Int.reduceGE, Int.reduceAdd, Int.reduceSub, Int.reduceNeg, Int.reduceToNat])
  · rw [show arI (a - b) = (0, 4) from if_neg h]
    refine acalls_k Tryz.func52 rfl (by kernel_rfl) (congrArg Array.toList Tryz.results52) Tryz.ntmps52 ?_
    intro R hR
    simp only [st0, List.length_cons, List.length_nil, Nat.reduceAdd, Nat.reduceSub, List.replicate_succ, List.replicate_zero, List.cons_append, List.nil_append]
    repeat' (first
        | (with_reducible refine a_seq_k ?_; intro K hK)
        | ((first | with_reducible refine a_region (by kernel_rfl) ?_ | (with_reducible refine a_draw mixed (by kernel_rfl) ?_; intro C hC) | (with_reducible refine a_cond_k ?_; intro X Y hX hY) | with_reducible refine RetOk.mk ?_); simp (maxSteps := 10000000) (implicitDefEqProofs := false) only [go_sem, hO, h,  ↓reduceIte, reduceCtorEq, Nat.reduceAdd, Nat.reduceSub, Nat.reduceLeDiff, Nat.reduceEqDiff, Nat.reduceMul, Nat.reduceLT, Nat.reducePow, Int.reduceEq, Int.reduceLT, Int.reduceLE, Int.reduceGT, Int.reduceGE, Int.reduceAdd, Int.reduceSub, Int.reduceNeg, Int.reduceToNat])
        | with_reducible refine a_block ?_
        | with_reducible refine a_ret ?_
        | with_reducible refine a_exit ?_
        | with_reducible refine a_skip ?_
        | with_reducible exact ConfOk.mk (by kernel_rfl)
        | (with_reducible refine eqT_of (eq33 _ _ _ _ _ _) ?_; simp)
        | (with_reducible refine eqT_of (eq35 _ _ _ _ _ _ _ _) ?_; simp)
        | ((fail_if_success with_reducible show False); with_reducible apply_assumption (exfalso := false) (symm := false) only [*, rfl, trivial, congrArg])
        | with_reducible refine And.intro ?_ ?_
        | (intro h; contradiction)
        | (intro h; subst h)
        | intro h
        | simp (maxSteps := 10000000) (implicitDefEqProofs := false) only [go_sem, hO, h,  ↓reduceIte, reduceCtorEq, Nat.reduceAdd, Nat.reduceSub, Nat.reduceLeDiff, Nat.reduceEqDiff, Nat.reduceMul, Nat.reduceLT, Nat.reducePow, Int.reduceEq, Int.reduceLT, Int.reduceLE, Int.reduceGT, Int.reduceGE, Int.reduceAdd, Int.reduceSub, Int.reduceNeg, Int.reduceToNat])
theorem value_magnitude (a : Int) (ha : In64 a) : ACalls Tryz.prog 95 [.int .i64 a] (.int .u64 (if a < 0 then -a else a)) := by
  obtain ⟨h1, h2⟩ := ha
  refine acalls_k Tryz.func95 rfl (by kernel_rfl) (congrArg Array.toList Tryz.results95) Tryz.ntmps95 ?_
  intro R hR
  simp only [st0, List.length_cons, List.length_nil, Nat.reduceAdd, Nat.reduceSub, List.replicate_succ, List.replicate_zero, List.cons_append, List.nil_append]
  repeat' (first
      | (with_reducible refine a_seq_k ?_; intro K hK)
      | ((first | with_reducible refine a_region (by kernel_rfl) ?_ | (with_reducible refine a_draw mixed (by kernel_rfl) ?_; intro C hC) | (with_reducible refine a_cond_k ?_; intro X Y hX hY) | with_reducible refine RetOk.mk ?_); simp (maxSteps := 10000000) (implicitDefEqProofs := false) only [go_sem,  ↓reduceIte, reduceCtorEq, Nat.reduceAdd, Nat.reduceSub, Nat.reduceLeDiff, Nat.reduceEqDiff, Nat.reduceMul, Nat.reduceLT, Nat.reducePow, Int.reduceEq, Int.reduceLT, Int.reduceLE, Int.reduceGT, Int.reduceGE, Int.reduceAdd, Int.reduceSub, Int.reduceNeg, Int.reduceToNat])
      | with_reducible refine a_block ?_
      | with_reducible refine a_ret ?_
      | with_reducible refine a_exit ?_
      | with_reducible refine a_skip ?_
      | with_reducible exact ConfOk.mk (by kernel_rfl)
      | (with_reducible refine eqT_of (eq33 _ _ _ _ _ _) ?_; simp)
      | (with_reducible refine eqT_of (eq35 _ _ _ _ _ _ _ _) ?_; simp)
      | ((fail_if_success with_reducible show False); with_reducible apply_assumption (exfalso := false) (symm := false) only [*, rfl, trivial, congrArg])
      | with_reducible refine And.intro ?_ ?_
      | (intro h; contradiction)
      | (intro h; subst h)
      | intro h
      | simp (maxSteps := 10000000) (implicitDefEqProofs := false) only [go_sem,  ↓reduceIte, reduceCtorEq, Nat.reduceAdd, Nat.reduceSub, Nat.reduceLeDiff, Nat.reduceEqDiff, Nat.reduceMul, Nat.reduceLT, Nat.reducePow, Int.reduceEq, Int.reduceLT, Int.reduceLE, Int.reduceGT, Int.reduceGE, Int.reduceAdd, Int.reduceSub, Int.reduceNeg, Int.reduceToNat])
  · rw [if_pos (by assumption), wrap_u64, wrap_u64]; omega
  · rw [if_neg (by assumption), wrap_u64]; omega
def divI (a b : Int) : Int × Int := if b = 0 then (0, 3) else arI (Int.tdiv a b)
theorem value_Div (a b : Int) (ha : In64 a) (hb : In64 b) : ACalls Tryz.prog 73 [.int .i64 a, .int .i64 b] (.tuple [.int .i64 (divI a b).1, .int .i64 (divI a b).2]) := by
  by_cases h0 : b = 0
  · subst h0
    rw [show divI a 0 = (0, 3) from rfl]
    refine acalls_k Tryz.func73 rfl (by kernel_rfl) (congrArg Array.toList Tryz.results73) Tryz.ntmps73 ?_
    intro R hR
    simp only [st0, List.length_cons, List.length_nil, Nat.reduceAdd, Nat.reduceSub, List.replicate_succ, List.replicate_zero, List.cons_append, List.nil_append]
    repeat' (first
        | (with_reducible refine a_seq_k ?_; intro K hK)
        | ((first | with_reducible refine a_region (by kernel_rfl) ?_ | (with_reducible refine a_draw mixed (by kernel_rfl) ?_; intro C hC) | (with_reducible refine a_cond_k ?_; intro X Y hX hY) | with_reducible refine RetOk.mk ?_); simp (maxSteps := 10000000) (implicitDefEqProofs := false) only [go_sem,  ↓reduceIte, reduceCtorEq, Nat.reduceAdd, Nat.reduceSub, Nat.reduceLeDiff, Nat.reduceEqDiff, Nat.reduceMul, Nat.reduceLT, Nat.reducePow, Int.reduceEq, Int.reduceLT, Int.reduceLE, Int.reduceGT, Int.reduceGE, Int.reduceAdd, Int.reduceSub, Int.reduceNeg, Int.reduceToNat])
        | with_reducible refine a_block ?_
        | with_reducible refine a_ret ?_
        | with_reducible refine a_exit ?_
        | with_reducible refine a_skip ?_
        | with_reducible exact ConfOk.mk (by kernel_rfl)
        | (with_reducible refine eqT_of (eq33 _ _ _ _ _ _) ?_; simp)
        | (with_reducible refine eqT_of (eq35 _ _ _ _ _ _ _ _) ?_; simp)
        | ((fail_if_success with_reducible show False); with_reducible apply_assumption (exfalso := false) (symm := false) only [*, rfl, trivial, congrArg])
        | with_reducible refine And.intro ?_ ?_
        | (intro h; contradiction)
        | (intro h; subst h)
        | intro h
        | simp (maxSteps := 10000000) (implicitDefEqProofs := false) only [go_sem,  ↓reduceIte, reduceCtorEq, Nat.reduceAdd, Nat.reduceSub, Nat.reduceLeDiff, Nat.reduceEqDiff, Nat.reduceMul, Nat.reduceLT, Nat.reducePow, Int.reduceEq, Int.reduceLT, Int.reduceLE, Int.reduceGT, Int.reduceGE, Int.reduceAdd, Int.reduceSub, Int.reduceNeg, Int.reduceToNat])
  · by_cases h1 : b = -1
    · subst h1
      have hS := value_Sub 0 a (by constructor <;> decide) ha
      rw [show divI a (-1) = arI (0 - a) by rw [divI, if_neg (by decide)]; congr 1; simp [Int.tdiv_neg]]
      refine acalls_k Tryz.func73 rfl (by kernel_rfl) (congrArg Array.toList Tryz.results73) Tryz.ntmps73 ?_
      intro R hR
      simp only [st0, List.length_cons, List.length_nil, Nat.reduceAdd, Nat.reduceSub, List.replicate_succ, List.replicate_zero, List.cons_append, List.nil_append]
      repeat' (first
          | (with_reducible refine a_seq_k ?_; intro K hK)
          | ((first | with_reducible refine a_region (by kernel_rfl) ?_ | (with_reducible refine a_draw mixed (by kernel_rfl) ?_; intro C hC) | (with_reducible refine a_cond_k ?_; intro X Y hX hY) | with_reducible refine RetOk.mk ?_ | with_reducible refine CallS.intro (hS) ?_ | with_reducible refine CallD.intro (hS) ?_); simp (maxSteps := 10000000) (implicitDefEqProofs := false) only [go_sem,  ↓reduceIte, reduceCtorEq, Nat.reduceAdd, Nat.reduceSub, Nat.reduceLeDiff, Nat.reduceEqDiff, Nat.reduceMul, Nat.reduceLT, Nat.reducePow, Int.reduceEq, Int.reduceLT, Int.reduceLE, Int.reduceGT, Int.reduceGE, Int.reduceAdd, Int.reduceSub, Int.reduceNeg, Int.reduceToNat])
          | with_reducible refine a_block ?_
          | with_reducible refine a_ret ?_
          | with_reducible refine a_exit ?_
          | with_reducible refine a_skip ?_
          | with_reducible exact ConfOk.mk (by kernel_rfl)
          | (with_reducible refine eqT_of (eq33 _ _ _ _ _ _) ?_; simp)
          | (with_reducible refine eqT_of (eq35 _ _ _ _ _ _ _ _) ?_; simp)
          | ((fail_if_success with_reducible show False); with_reducible apply_assumption (exfalso := false) (symm := false) only [*, rfl, trivial, congrArg])
          | with_reducible refine And.intro ?_ ?_
          | (intro h; contradiction)
          | (intro h; subst h)
          | intro h
          | simp (maxSteps := 10000000) (implicitDefEqProofs := false) only [go_sem,  ↓reduceIte, reduceCtorEq, Nat.reduceAdd, Nat.reduceSub, Nat.reduceLeDiff, Nat.reduceEqDiff, Nat.reduceMul, Nat.reduceLT, Nat.reducePow, Int.reduceEq, Int.reduceLT, Int.reduceLE, Int.reduceGT, Int.reduceGE, Int.reduceAdd, Int.reduceSub, Int.reduceNeg, Int.reduceToNat])
    · have hq := tdiv_in ha h0 h1
      rw [show divI a b = (Int.tdiv a b, 0) by rw [divI, if_neg h0, arI, if_pos hq]]
      have hW := (wrap_i64 (Int.tdiv a b)).2.1 hq
      refine acalls_k Tryz.func73 rfl (by kernel_rfl) (congrArg Array.toList Tryz.results73) Tryz.ntmps73 ?_
      intro R hR
      simp only [st0, List.length_cons, List.length_nil, Nat.reduceAdd, Nat.reduceSub, List.replicate_succ, List.replicate_zero, List.cons_append, List.nil_append]
      repeat' (first
          | (with_reducible refine a_seq_k ?_; intro K hK)
          | ((first | with_reducible refine a_region (by kernel_rfl) ?_ | (with_reducible refine a_draw mixed (by kernel_rfl) ?_; intro C hC) | (with_reducible refine a_cond_k ?_; intro X Y hX hY) | with_reducible refine RetOk.mk ?_); simp (maxSteps := 10000000) (implicitDefEqProofs := false) only [go_sem, h0, h1, hW,  ↓reduceIte, reduceCtorEq, Nat.reduceAdd, Nat.reduceSub, Nat.reduceLeDiff, Nat.reduceEqDiff, Nat.reduceMul, Nat.reduceLT, Nat.reducePow, Int.reduceEq, Int.reduceLT, Int.reduceLE, Int.reduceGT, Int.reduceGE, Int.reduceAdd, Int.reduceSub, Int.reduceNeg, Int.reduceToNat])
          | with_reducible refine a_block ?_
          | with_reducible refine a_ret ?_
          | with_reducible refine a_exit ?_
          | with_reducible refine a_skip ?_
          | with_reducible exact ConfOk.mk (by kernel_rfl)
          | (with_reducible refine eqT_of (eq33 _ _ _ _ _ _) ?_; simp)
          | (with_reducible refine eqT_of (eq35 _ _ _ _ _ _ _ _) ?_; simp)
          | ((fail_if_success with_reducible show False); with_reducible apply_assumption (exfalso := false) (symm := false) only [*, rfl, trivial, congrArg])
          | with_reducible refine And.intro ?_ ?_
          | (intro h; contradiction)
          | (intro h; subst h)
          | intro h
          | simp (maxSteps := 10000000) (implicitDefEqProofs := false) only [go_sem, h0, h1, hW,  ↓reduceIte, reduceCtorEq, Nat.reduceAdd, Nat.reduceSub, Nat.reduceLeDiff, Nat.reduceEqDiff, Nat.reduceMul, Nat.reduceLT, Nat.reducePow, Int.reduceEq, Int.reduceLT, Int.reduceLE, Int.reduceGT, Int.reduceGE, Int.reduceAdd, Int.reduceSub, Int.reduceNeg, Int.reduceToNat])
def modI (a b : Int) : Int × Int := if b = 0 then (0, 3) else (Int.tmod a b, 0)
theorem value_Mod (a b : Int) (ha : In64 a) (hb : In64 b) : ACalls Tryz.prog 74 [.int .i64 a, .int .i64 b] (.tuple [.int .i64 (modI a b).1, .int .i64 (modI a b).2]) := by
  by_cases h0 : b = 0
  · subst h0
    rw [show modI a 0 = (0, 3) from rfl]
    refine acalls_k Tryz.func74 rfl (by kernel_rfl) (congrArg Array.toList Tryz.results74) Tryz.ntmps74 ?_
    intro R hR
    simp only [st0, List.length_cons, List.length_nil, Nat.reduceAdd, Nat.reduceSub, List.replicate_succ, List.replicate_zero, List.cons_append, List.nil_append]
    repeat' (first
        | (with_reducible refine a_seq_k ?_; intro K hK)
        | ((first | with_reducible refine a_region (by kernel_rfl) ?_ | (with_reducible refine a_draw mixed (by kernel_rfl) ?_; intro C hC) | (with_reducible refine a_cond_k ?_; intro X Y hX hY) | with_reducible refine RetOk.mk ?_); simp (maxSteps := 10000000) (implicitDefEqProofs := false) only [go_sem,  ↓reduceIte, reduceCtorEq, Nat.reduceAdd, Nat.reduceSub, Nat.reduceLeDiff, Nat.reduceEqDiff, Nat.reduceMul, Nat.reduceLT, Nat.reducePow, Int.reduceEq, Int.reduceLT, Int.reduceLE, Int.reduceGT, Int.reduceGE, Int.reduceAdd, Int.reduceSub, Int.reduceNeg, Int.reduceToNat])
        | with_reducible refine a_block ?_
        | with_reducible refine a_ret ?_
        | with_reducible refine a_exit ?_
        | with_reducible refine a_skip ?_
        | with_reducible exact ConfOk.mk (by kernel_rfl)
        | (with_reducible refine eqT_of (eq33 _ _ _ _ _ _) ?_; simp)
        | (with_reducible refine eqT_of (eq35 _ _ _ _ _ _ _ _) ?_; simp)
        | ((fail_if_success with_reducible show False); with_reducible apply_assumption (exfalso := false) (symm := false) only [*, rfl, trivial, congrArg])
        | with_reducible refine And.intro ?_ ?_
        | (intro h; contradiction)
        | (intro h; subst h)
        | intro h
        | simp (maxSteps := 10000000) (implicitDefEqProofs := false) only [go_sem,  ↓reduceIte, reduceCtorEq, Nat.reduceAdd, Nat.reduceSub, Nat.reduceLeDiff, Nat.reduceEqDiff, Nat.reduceMul, Nat.reduceLT, Nat.reducePow, Int.reduceEq, Int.reduceLT, Int.reduceLE, Int.reduceGT, Int.reduceGE, Int.reduceAdd, Int.reduceSub, Int.reduceNeg, Int.reduceToNat])
  · rw [show modI a b = (Int.tmod a b, 0) from if_neg h0]
    by_cases h1 : b = 1
    · subst h1
      rw [show Int.tmod a 1 = 0 by simp]
      refine acalls_k Tryz.func74 rfl (by kernel_rfl) (congrArg Array.toList Tryz.results74) Tryz.ntmps74 ?_
      intro R hR
      simp only [st0, List.length_cons, List.length_nil, Nat.reduceAdd, Nat.reduceSub, List.replicate_succ, List.replicate_zero, List.cons_append, List.nil_append]
      repeat' (first
          | (with_reducible refine a_seq_k ?_; intro K hK)
          | ((first | with_reducible refine a_region (by kernel_rfl) ?_ | (with_reducible refine a_draw mixed (by kernel_rfl) ?_; intro C hC) | (with_reducible refine a_cond_k ?_; intro X Y hX hY) | with_reducible refine RetOk.mk ?_); simp (maxSteps := 10000000) (implicitDefEqProofs := false) only [go_sem,  ↓reduceIte, reduceCtorEq, Nat.reduceAdd, Nat.reduceSub, Nat.reduceLeDiff, Nat.reduceEqDiff, Nat.reduceMul, Nat.reduceLT, Nat.reducePow, Int.reduceEq, Int.reduceLT, Int.reduceLE, Int.reduceGT, Int.reduceGE, Int.reduceAdd, Int.reduceSub, Int.reduceNeg, Int.reduceToNat])
          | with_reducible refine a_block ?_
          | with_reducible refine a_ret ?_
          | with_reducible refine a_exit ?_
          | with_reducible refine a_skip ?_
          | with_reducible exact ConfOk.mk (by kernel_rfl)
          | (with_reducible refine eqT_of (eq33 _ _ _ _ _ _) ?_; simp)
          | (with_reducible refine eqT_of (eq35 _ _ _ _ _ _ _ _) ?_; simp)
          | ((fail_if_success with_reducible show False); with_reducible apply_assumption (exfalso := false) (symm := false) only [*, rfl, trivial, congrArg])
          | with_reducible refine And.intro ?_ ?_
          | (intro h; contradiction)
          | (intro h; subst h)
          | intro h
          | simp (maxSteps := 10000000) (implicitDefEqProofs := false) only [go_sem,  ↓reduceIte, reduceCtorEq, Nat.reduceAdd, Nat.reduceSub, Nat.reduceLeDiff, Nat.reduceEqDiff, Nat.reduceMul, Nat.reduceLT, Nat.reducePow, Int.reduceEq, Int.reduceLT, Int.reduceLE, Int.reduceGT, Int.reduceGE, Int.reduceAdd, Int.reduceSub, Int.reduceNeg, Int.reduceToNat])
    · by_cases h2 : b = -1
      · subst h2
        rw [show Int.tmod a (-1) = 0 by simp]
        refine acalls_k Tryz.func74 rfl (by kernel_rfl) (congrArg Array.toList Tryz.results74) Tryz.ntmps74 ?_
        intro R hR
        simp only [st0, List.length_cons, List.length_nil, Nat.reduceAdd, Nat.reduceSub, List.replicate_succ, List.replicate_zero, List.cons_append, List.nil_append]
        repeat' (first
            | (with_reducible refine a_seq_k ?_; intro K hK)
            | ((first | with_reducible refine a_region (by kernel_rfl) ?_ | (with_reducible refine a_draw mixed (by kernel_rfl) ?_; intro C hC) | (with_reducible refine a_cond_k ?_; intro X Y hX hY) | with_reducible refine RetOk.mk ?_); simp (maxSteps := 10000000) (implicitDefEqProofs := false) only [go_sem,  ↓reduceIte, reduceCtorEq, Nat.reduceAdd, Nat.reduceSub, Nat.reduceLeDiff, Nat.reduceEqDiff, Nat.reduceMul, Nat.reduceLT, Nat.reducePow, Int.reduceEq, Int.reduceLT, Int.reduceLE, Int.reduceGT, Int.reduceGE, Int.reduceAdd, Int.reduceSub, Int.reduceNeg, Int.reduceToNat])
            | with_reducible refine a_block ?_
            | with_reducible refine a_ret ?_
            | with_reducible refine a_exit ?_
            | with_reducible refine a_skip ?_
            | with_reducible exact ConfOk.mk (by kernel_rfl)
            | (with_reducible refine eqT_of (eq33 _ _ _ _ _ _) ?_; simp)
            | (with_reducible refine eqT_of (eq35 _ _ _ _ _ _ _ _) ?_; simp)
            | ((fail_if_success with_reducible show False); with_reducible apply_assumption (exfalso := false) (symm := false) only [*, rfl, trivial, congrArg])
            | with_reducible refine And.intro ?_ ?_
            | (intro h; contradiction)
            | (intro h; subst h)
            | intro h
            | simp (maxSteps := 10000000) (implicitDefEqProofs := false) only [go_sem,  ↓reduceIte, reduceCtorEq, Nat.reduceAdd, Nat.reduceSub, Nat.reduceLeDiff, Nat.reduceEqDiff, Nat.reduceMul, Nat.reduceLT, Nat.reducePow, Int.reduceEq, Int.reduceLT, Int.reduceLE, Int.reduceGT, Int.reduceGE, Int.reduceAdd, Int.reduceSub, Int.reduceNeg, Int.reduceToNat])
      · refine acalls_k Tryz.func74 rfl (by kernel_rfl) (congrArg Array.toList Tryz.results74) Tryz.ntmps74 ?_
        intro R hR
        simp only [st0, List.length_cons, List.length_nil, Nat.reduceAdd, Nat.reduceSub, List.replicate_succ, List.replicate_zero, List.cons_append, List.nil_append]
        repeat' (first
            | (with_reducible refine a_seq_k ?_; intro K hK)
            | ((first | with_reducible refine a_region (by kernel_rfl) ?_ | (with_reducible refine a_draw mixed (by kernel_rfl) ?_; intro C hC) | (with_reducible refine a_cond_k ?_; intro X Y hX hY) | with_reducible refine RetOk.mk ?_); simp (maxSteps := 10000000) (implicitDefEqProofs := false) only [go_sem, h0, h1, h2,  ↓reduceIte, reduceCtorEq, Nat.reduceAdd, Nat.reduceSub, Nat.reduceLeDiff, Nat.reduceEqDiff, Nat.reduceMul, Nat.reduceLT, Nat.reducePow, Int.reduceEq, Int.reduceLT, Int.reduceLE, Int.reduceGT, Int.reduceGE, Int.reduceAdd, Int.reduceSub, Int.reduceNeg, Int.reduceToNat])
            | with_reducible refine a_block ?_
            | with_reducible refine a_ret ?_
            | with_reducible refine a_exit ?_
            | with_reducible refine a_skip ?_
            | with_reducible exact ConfOk.mk (by kernel_rfl)
            | (with_reducible refine eqT_of (eq33 _ _ _ _ _ _) ?_; simp)
            | (with_reducible refine eqT_of (eq35 _ _ _ _ _ _ _ _) ?_; simp)
            | ((fail_if_success with_reducible show False); with_reducible apply_assumption (exfalso := false) (symm := false) only [*, rfl, trivial, congrArg])
            | with_reducible refine And.intro ?_ ?_
            | (intro h; contradiction)
            | (intro h; subst h)
            | intro h
            | simp (maxSteps := 10000000) (implicitDefEqProofs := false) only [go_sem, h0, h1, h2,  ↓reduceIte, reduceCtorEq, Nat.reduceAdd, Nat.reduceSub, Nat.reduceLeDiff, Nat.reduceEqDiff, Nat.reduceMul, Nat.reduceLT, Nat.reducePow, Int.reduceEq, Int.reduceLT, Int.reduceLE, Int.reduceGT, Int.reduceGE, Int.reduceAdd, Int.reduceSub, Int.reduceNeg, Int.reduceToNat])
theorem bits_Mul64 (x y : Nat) (hx : x < 18446744073709551616) (hy : y < 18446744073709551616) : ACalls Tryz.prog 94 [.int .u64 x, .int .u64 y] (.tuple [.int .u64 ((x * y / 18446744073709551616 : Nat) : Int), .int .u64 ((x * y % 18446744073709551616 : Nat) : Int)]) := by
  obtain ⟨b1, b3, b5, b6⟩ := Lib.mul64_hi x y hx hy
  have hlo : IntKind.u64.wrap ((x : Int) * y) = ((x * y % 18446744073709551616 : Nat) : Int) := by rw [wrap_u64, ← Int.natCast_mul]; rfl
  have g1 := Lib.half_mul_le (a := x / 4294967296) (b := y / 4294967296) (by omega) (by omega)
  have b2 : x / 4294967296 * (y % 4294967296) < 18446744073709551616 := by omega
  have b4 : x % 4294967296 * (y / 4294967296) < 18446744073709551616 := by omega
  have b7 : x / 4294967296 * (y / 4294967296) < 18446744073709551616 := by omega
  refine acalls_k Tryz.func94 rfl (by kernel_rfl) (congrArg Array.toList Tryz.results94) Tryz.ntmps94 ?_
  intro R hR
  simp only [st0, List.length_cons, List.length_nil, Nat.reduceAdd, Nat.reduceSub, List.replicate_succ, List.replicate_zero, List.cons_append, List.nil_append]
  repeat' (first
      | (with_reducible refine a_seq_k ?_; intro K hK)
      | ((first | with_reducible refine a_region (by kernel_rfl) ?_ | (with_reducible refine a_draw mixed (by kernel_rfl) ?_; intro C hC) | (with_reducible refine a_cond_k ?_; intro X Y hX hY) | with_reducible refine RetOk.mk ?_); simp (maxSteps := 10000000) (implicitDefEqProofs := false) only [go_sem,  ↓reduceIte, reduceCtorEq, Nat.reduceAdd, Nat.reduceSub, Nat.reduceLeDiff, Nat.reduceEqDiff, Nat.reduceMul, Nat.reduceLT, Nat.reducePow, Int.reduceEq, Int.reduceLT, Int.reduceLE, Int.reduceGT, Int.reduceGE, Int.reduceAdd, Int.reduceSub, Int.reduceNeg, Int.reduceToNat])
      | with_reducible refine a_block ?_
      | with_reducible refine a_ret ?_
      | with_reducible refine a_exit ?_
      | with_reducible refine a_skip ?_
      | with_reducible exact ConfOk.mk (by kernel_rfl)
      | (with_reducible refine eqT_of (eq33 _ _ _ _ _ _) ?_; simp)
      | (with_reducible refine eqT_of (eq35 _ _ _ _ _ _ _ _) ?_; simp)
      | ((fail_if_success with_reducible show False); with_reducible apply_assumption (exfalso := false) (symm := false) only [*, rfl, trivial, congrArg])
      | with_reducible refine And.intro ?_ ?_
      | (intro h; contradiction)
      | (intro h; subst h)
      | intro h
      | simp (maxSteps := 10000000) (implicitDefEqProofs := false) only [go_sem,  ↓reduceIte, reduceCtorEq, Nat.reduceAdd, Nat.reduceSub, Nat.reduceLeDiff, Nat.reduceEqDiff, Nat.reduceMul, Nat.reduceLT, Nat.reducePow, Int.reduceEq, Int.reduceLT, Int.reduceLE, Int.reduceGT, Int.reduceGE, Int.reduceAdd, Int.reduceSub, Int.reduceNeg, Int.reduceToNat])
  rw [hlo]
  congr 1
  congr 1
  simp only [maskA x hx, maskA y hy, shr32, ← Int.natCast_mul, wrapN _ b1, wrapN _ b2, wrapN _ b4, wrapN _ b7, ← Int.natCast_add, wrapN _ b3, maskA _ b3, wrapN _ b5]
  rw [← b6]
  generalize x / 4294967296 * (y / 4294967296) = p at *
  generalize x / 4294967296 * (y % 4294967296) = q at *
  generalize x % 4294967296 * (y / 4294967296) = r at *
  generalize x % 4294967296 * (y % 4294967296) = s at *
  have hT : p + (q + s / 4294967296) / 4294967296 + ((q + s / 4294967296) % 4294967296 + r) / 4294967296 < 18446744073709551616 := by
    rw [b6]
    exact Nat.div_lt_of_lt_mul (Nat.mul_lt_mul'' hx hy)
  rw [wrapN _ (by omega), ← Int.natCast_add, wrapN _ hT]
def mulI (a b : Int) : Int × Int := arI (a * b)
theorem value_Mul (a b : Int) (ha : In64 a) (hb : In64 b) : ACalls Tryz.prog 72 [.int .i64 a, .int .i64 b] (.tuple [.int .i64 (mulI a b).1, .int .i64 (mulI a b).2]) := by
  have ma := value_magnitude a ha
  have mb := value_magnitude b hb
  rw [show (if a < 0 then -a else a) = (a.natAbs : Int) by split <;> omega] at ma
  rw [show (if b < 0 then -b else b) = (b.natAbs : Int) by split <;> omega] at mb
  have hm := bits_Mul64 a.natAbs b.natAbs (by obtain ⟨_, _⟩ := ha; omega) (by obtain ⟨_, _⟩ := hb; omega)
  have hs := mul_sign a b
  have hle := mul_mag ha hb
  unfold mulI
  rw [hs]
  clear hs
  generalize a.natAbs * b.natAbs = m at hm hle
  have wm : IntKind.u64.wrap 9223372036854775808 = 9223372036854775808 := rfl
  by_cases hg : decide (a < 0) = decide (b < 0)
  · rw [if_pos hg]
    have he : (decide (a < 0) == decide (b < 0)) = true := by simp [hg]
    by_cases hr : m ≤ 9223372036854775807
    · rw [show arI (m : Int) = ((m : Int), 0) from if_pos (by omega)]
      rw [Nat.div_eq_of_lt (by omega), Nat.mod_eq_of_lt (by omega)] at hm
      have hW := (wrap_i64 (m : Int)).2.1 (by constructor <;> omega)
      have hr' : ¬ (9223372036854775807 : Int) < (m : Int) := by omega
      refine acalls_k Tryz.func72 rfl (by kernel_rfl) (congrArg Array.toList Tryz.results72) Tryz.ntmps72 ?_
      intro R hR
      simp only [st0, List.length_cons, List.length_nil, Nat.reduceAdd, Nat.reduceSub, List.replicate_succ, List.replicate_zero, List.cons_append, List.nil_append]
      repeat' (first
          | (with_reducible refine a_seq_k ?_; intro K hK)
          | ((first | with_reducible refine a_region (by kernel_rfl) ?_ | (with_reducible refine a_draw mixed (by kernel_rfl) ?_; intro C hC) | (with_reducible refine a_cond_k ?_; intro X Y hX hY) | with_reducible refine RetOk.mk ?_ | with_reducible refine CallS.intro (ma) ?_ | with_reducible refine CallD.intro (ma) ?_ | with_reducible refine CallS.intro (mb) ?_ | with_reducible refine CallD.intro (mb) ?_ | with_reducible refine CallS.intro (hm) ?_ | with_reducible refine CallD.intro (hm) ?_); simp (maxSteps := 10000000) (implicitDefEqProofs := false) only [go_sem, he, hW, hr', Int.natCast_zero, Int.ofNat_zero,  ↓reduceIte, reduceCtorEq, Nat.reduceAdd, Nat.reduceSub, Nat.reduceLeDiff, Nat.reduceEqDiff, Nat.reduceMul, Nat.reduceLT, Nat.reducePow, Int.reduceEq, Int.reduceLT, Int.reduceLE, Int.reduceGT, Int.reduceGE, Int.reduceAdd, Int.reduceSub, Int.reduceNeg, Int.reduceToNat])
          | with_reducible refine a_block ?_
          | with_reducible refine a_ret ?_
          | with_reducible refine a_exit ?_
          | with_reducible refine a_skip ?_
          | with_reducible exact ConfOk.mk (by kernel_rfl)
          | (with_reducible refine eqT_of (eq33 _ _ _ _ _ _) ?_; simp)
          | (with_reducible refine eqT_of (eq35 _ _ _ _ _ _ _ _) ?_; simp)
          | ((fail_if_success with_reducible show False); with_reducible apply_assumption (exfalso := false) (symm := false) only [*, rfl, trivial, congrArg])
          | with_reducible refine And.intro ?_ ?_
          | (intro h; contradiction)
          | (intro h; subst h)
          | intro h
          | simp (maxSteps := 10000000) (implicitDefEqProofs := false) only [go_sem, he, hW, hr', Int.natCast_zero, Int.ofNat_zero,  ↓reduceIte, reduceCtorEq, Nat.reduceAdd, Nat.reduceSub, Nat.reduceLeDiff, Nat.reduceEqDiff, Nat.reduceMul, Nat.reduceLT, Nat.reducePow, Int.reduceEq, Int.reduceLT, Int.reduceLE, Int.reduceGT, Int.reduceGE, Int.reduceAdd, Int.reduceSub, Int.reduceNeg, Int.reduceToNat])
      all_goals first
        | (exfalso; omega)
    · rw [show arI (m : Int) = (0, 4) from if_neg (by omega)]
      refine acalls_k Tryz.func72 rfl (by kernel_rfl) (congrArg Array.toList Tryz.results72) Tryz.ntmps72 ?_
      intro R hR
      simp only [st0, List.length_cons, List.length_nil, Nat.reduceAdd, Nat.reduceSub, List.replicate_succ, List.replicate_zero, List.cons_append, List.nil_append]
      repeat' (first
          | (with_reducible refine a_seq_k ?_; intro K hK)
          | ((first | with_reducible refine a_region (by kernel_rfl) ?_ | (with_reducible refine a_draw mixed (by kernel_rfl) ?_; intro C hC) | (with_reducible refine a_cond_k ?_; intro X Y hX hY) | with_reducible refine RetOk.mk ?_ | with_reducible refine CallS.intro (ma) ?_ | with_reducible refine CallD.intro (ma) ?_ | with_reducible refine CallS.intro (mb) ?_ | with_reducible refine CallD.intro (mb) ?_ | with_reducible refine CallS.intro (hm) ?_ | with_reducible refine CallD.intro (hm) ?_); simp (maxSteps := 10000000) (implicitDefEqProofs := false) only [go_sem, he,  ↓reduceIte, reduceCtorEq, Nat.reduceAdd, Nat.reduceSub, Nat.reduceLeDiff, Nat.reduceEqDiff, Nat.reduceMul, Nat.reduceLT, Nat.reducePow, Int.reduceEq, Int.reduceLT, Int.reduceLE, Int.reduceGT, Int.reduceGE, Int.reduceAdd, Int.reduceSub, Int.reduceNeg, Int.reduceToNat])
          | with_reducible refine a_block ?_
          | with_reducible refine a_ret ?_
          | with_reducible refine a_exit ?_
          | with_reducible refine a_skip ?_
          | with_reducible exact ConfOk.mk (by kernel_rfl)
          | (with_reducible refine eqT_of (eq33 _ _ _ _ _ _) ?_; simp)
          | (with_reducible refine eqT_of (eq35 _ _ _ _ _ _ _ _) ?_; simp)
          | ((fail_if_success with_reducible show False); with_reducible apply_assumption (exfalso := false) (symm := false) only [*, rfl, trivial, congrArg])
          | with_reducible refine And.intro ?_ ?_
          | (intro h; contradiction)
          | (intro h; subst h)
          | intro h
          | simp (maxSteps := 10000000) (implicitDefEqProofs := false) only [go_sem, he,  ↓reduceIte, reduceCtorEq, Nat.reduceAdd, Nat.reduceSub, Nat.reduceLeDiff, Nat.reduceEqDiff, Nat.reduceMul, Nat.reduceLT, Nat.reducePow, Int.reduceEq, Int.reduceLT, Int.reduceLE, Int.reduceGT, Int.reduceGE, Int.reduceAdd, Int.reduceSub, Int.reduceNeg, Int.reduceToNat])
      all_goals first
        | (exfalso; omega)
  · rw [if_neg hg]
    have he : (decide (a < 0) == decide (b < 0)) = false := by simpa using hg
    by_cases hr : m ≤ 9223372036854775808
    · rw [show arI (-(m : Int)) = (-(m : Int), 0) from if_pos (by omega)]
      rw [Nat.div_eq_of_lt (by omega), Nat.mod_eq_of_lt (by omega)] at hm
      have hW : IntKind.i64.wrap (IntKind.u64.wrap (0 - (m : Int))) = -(m : Int) := by
        have h1 := wrap_i64 (IntKind.u64.wrap (0 - (m : Int)))
        rw [wrap_u64] at h1 ⊢
        obtain ⟨⟨h2, h3⟩, _, h4⟩ := h1
        omega
      have hr' : ¬ (9223372036854775808 : Int) < (m : Int) := by omega
      refine acalls_k Tryz.func72 rfl (by kernel_rfl) (congrArg Array.toList Tryz.results72) Tryz.ntmps72 ?_
      intro R hR
      simp only [st0, List.length_cons, List.length_nil, Nat.reduceAdd, Nat.reduceSub, List.replicate_succ, List.replicate_zero, List.cons_append, List.nil_append]
      repeat' (first
          | (with_reducible refine a_seq_k ?_; intro K hK)
          | ((first | with_reducible refine a_region (by kernel_rfl) ?_ | (with_reducible refine a_draw mixed (by kernel_rfl) ?_; intro C hC) | (with_reducible refine a_cond_k ?_; intro X Y hX hY) | with_reducible refine RetOk.mk ?_ | with_reducible refine CallS.intro (ma) ?_ | with_reducible refine CallD.intro (ma) ?_ | with_reducible refine CallS.intro (mb) ?_ | with_reducible refine CallD.intro (mb) ?_ | with_reducible refine CallS.intro (hm) ?_ | with_reducible refine CallD.intro (hm) ?_); simp (maxSteps := 10000000) (implicitDefEqProofs := false) only [go_sem, he, hW, hr', wm, Int.natCast_zero, Int.ofNat_zero,  ↓reduceIte, reduceCtorEq, Nat.reduceAdd, Nat.reduceSub, Nat.reduceLeDiff, Nat.reduceEqDiff, Nat.reduceMul, Nat.reduceLT, Nat.reducePow, Int.reduceEq, Int.reduceLT, Int.reduceLE, Int.reduceGT, Int.reduceGE, Int.reduceAdd, Int.reduceSub, Int.reduceNeg, Int.reduceToNat])
          | with_reducible refine a_block ?_
          | with_reducible refine a_ret ?_
          | with_reducible refine a_exit ?_
          | with_reducible refine a_skip ?_
          | with_reducible exact ConfOk.mk (by kernel_rfl)
          | (with_reducible refine eqT_of (eq33 _ _ _ _ _ _) ?_; simp)
          | (with_reducible refine eqT_of (eq35 _ _ _ _ _ _ _ _) ?_; simp)
          | ((fail_if_success with_reducible show False); with_reducible apply_assumption (exfalso := false) (symm := false) only [*, rfl, trivial, congrArg])
          | with_reducible refine And.intro ?_ ?_
          | (intro h; contradiction)
          | (intro h; subst h)
          | intro h
          | simp (maxSteps := 10000000) (implicitDefEqProofs := false) only [go_sem, he, hW, hr', wm, Int.natCast_zero, Int.ofNat_zero,  ↓reduceIte, reduceCtorEq, Nat.reduceAdd, Nat.reduceSub, Nat.reduceLeDiff, Nat.reduceEqDiff, Nat.reduceMul, Nat.reduceLT, Nat.reducePow, Int.reduceEq, Int.reduceLT, Int.reduceLE, Int.reduceGT, Int.reduceGE, Int.reduceAdd, Int.reduceSub, Int.reduceNeg, Int.reduceToNat])
      all_goals first
        | (exfalso; omega)
    · rw [show arI (-(m : Int)) = (0, 4) from if_neg (by omega)]
      refine acalls_k Tryz.func72 rfl (by kernel_rfl) (congrArg Array.toList Tryz.results72) Tryz.ntmps72 ?_
      intro R hR
      simp only [st0, List.length_cons, List.length_nil, Nat.reduceAdd, Nat.reduceSub, List.replicate_succ, List.replicate_zero, List.cons_append, List.nil_append]
      repeat' (first
          | (with_reducible refine a_seq_k ?_; intro K hK)
          | ((first | with_reducible refine a_region (by kernel_rfl) ?_ | (with_reducible refine a_draw mixed (by kernel_rfl) ?_; intro C hC) | (with_reducible refine a_cond_k ?_; intro X Y hX hY) | with_reducible refine RetOk.mk ?_ | with_reducible refine CallS.intro (ma) ?_ | with_reducible refine CallD.intro (ma) ?_ | with_reducible refine CallS.intro (mb) ?_ | with_reducible refine CallD.intro (mb) ?_ | with_reducible refine CallS.intro (hm) ?_ | with_reducible refine CallD.intro (hm) ?_); simp (maxSteps := 10000000) (implicitDefEqProofs := false) only [go_sem, he, wm,  ↓reduceIte, reduceCtorEq, Nat.reduceAdd, Nat.reduceSub, Nat.reduceLeDiff, Nat.reduceEqDiff, Nat.reduceMul, Nat.reduceLT, Nat.reducePow, Int.reduceEq, Int.reduceLT, Int.reduceLE, Int.reduceGT, Int.reduceGE, Int.reduceAdd, Int.reduceSub, Int.reduceNeg, Int.reduceToNat])
          | with_reducible refine a_block ?_
          | with_reducible refine a_ret ?_
          | with_reducible refine a_exit ?_
          | with_reducible refine a_skip ?_
          | with_reducible exact ConfOk.mk (by kernel_rfl)
          | (with_reducible refine eqT_of (eq33 _ _ _ _ _ _) ?_; simp)
          | (with_reducible refine eqT_of (eq35 _ _ _ _ _ _ _ _) ?_; simp)
          | ((fail_if_success with_reducible show False); with_reducible apply_assumption (exfalso := false) (symm := false) only [*, rfl, trivial, congrArg])
          | with_reducible refine And.intro ?_ ?_
          | (intro h; contradiction)
          | (intro h; subst h)
          | intro h
          | simp (maxSteps := 10000000) (implicitDefEqProofs := false) only [go_sem, he, wm,  ↓reduceIte, reduceCtorEq, Nat.reduceAdd, Nat.reduceSub, Nat.reduceLeDiff, Nat.reduceEqDiff, Nat.reduceMul, Nat.reduceLT, Nat.reducePow, Int.reduceEq, Int.reduceLT, Int.reduceLE, Int.reduceGT, Int.reduceGE, Int.reduceAdd, Int.reduceSub, Int.reduceNeg, Int.reduceToNat])
      all_goals first
        | (exfalso; omega)
theorem calc_number (fn : FuncId) (a b n e : Int) (hf : ACalls Tryz.prog fn [.int .i64 a, .int .i64 b] (.tuple [.int .i64 n, .int .i64 e])) : ACalls Tryz.prog 51 [.func (.func fn) [], .int .i64 a, .int .i64 b] (if e ≠ 0 then oA 0 0 emp e else oA 1 n emp 0) := by
  by_cases he : e = 0
  · subst he
    rw [if_neg (by simp)]
    refine acalls_k Tryz.func51 rfl (by kernel_rfl) (congrArg Array.toList Tryz.results51) Tryz.ntmps51 ?_
    intro R hR
    simp only [st0, List.length_cons, List.length_nil, Nat.reduceAdd, Nat.reduceSub, List.replicate_succ, List.replicate_zero, List.cons_append, List.nil_append]
    repeat' (first
        | (with_reducible refine a_seq_k ?_; intro K hK)
        | ((first | with_reducible refine a_region (by kernel_rfl) ?_ | (with_reducible refine a_draw mixed (by kernel_rfl) ?_; intro C hC) | (with_reducible refine a_cond_k ?_; intro X Y hX hY) | with_reducible refine RetOk.mk ?_ | with_reducible refine CallS.intro (hf) ?_ | with_reducible refine CallD.intro (hf) ?_ | with_reducible refine CallS.intro (value_Int _) ?_ | with_reducible refine CallD.intro (value_Int _) ?_); simp (maxSteps := 10000000) (implicitDefEqProofs := false) only [go_sem,  ↓reduceIte, reduceCtorEq, Nat.reduceAdd, Nat.reduceSub, Nat.reduceLeDiff, Nat.reduceEqDiff, Nat.reduceMul, Nat.reduceLT, Nat.reducePow, Int.reduceEq, Int.reduceLT, Int.reduceLE, Int.reduceGT, Int.reduceGE, Int.reduceAdd, Int.reduceSub, Int.reduceNeg, Int.reduceToNat])
        | with_reducible refine a_block ?_
        | with_reducible refine a_ret ?_
        | with_reducible refine a_exit ?_
        | with_reducible refine a_skip ?_
        | with_reducible exact ConfOk.mk (by kernel_rfl)
        | (with_reducible refine eqT_of (eq33 _ _ _ _ _ _) ?_; simp)
        | (with_reducible refine eqT_of (eq35 _ _ _ _ _ _ _ _) ?_; simp)
        | ((fail_if_success with_reducible show False); with_reducible apply_assumption (exfalso := false) (symm := false) only [*, rfl, trivial, congrArg])
        | with_reducible refine And.intro ?_ ?_
        | (intro h; contradiction)
        | (intro h; subst h)
        | intro h
        | simp (maxSteps := 10000000) (implicitDefEqProofs := false) only [go_sem,  ↓reduceIte, reduceCtorEq, Nat.reduceAdd, Nat.reduceSub, Nat.reduceLeDiff, Nat.reduceEqDiff, Nat.reduceMul, Nat.reduceLT, Nat.reducePow, Int.reduceEq, Int.reduceLT, Int.reduceLE, Int.reduceGT, Int.reduceGE, Int.reduceAdd, Int.reduceSub, Int.reduceNeg, Int.reduceToNat])
  · rw [if_pos he]
    refine acalls_k Tryz.func51 rfl (by kernel_rfl) (congrArg Array.toList Tryz.results51) Tryz.ntmps51 ?_
    intro R hR
    simp only [st0, List.length_cons, List.length_nil, Nat.reduceAdd, Nat.reduceSub, List.replicate_succ, List.replicate_zero, List.cons_append, List.nil_append]
    repeat' (first
        | (with_reducible refine a_seq_k ?_; intro K hK)
        | ((first | with_reducible refine a_region (by kernel_rfl) ?_ | (with_reducible refine a_draw mixed (by kernel_rfl) ?_; intro C hC) | (with_reducible refine a_cond_k ?_; intro X Y hX hY) | with_reducible refine RetOk.mk ?_ | with_reducible refine CallS.intro (hf) ?_ | with_reducible refine CallD.intro (hf) ?_ | with_reducible refine CallS.intro (value_Int _) ?_ | with_reducible refine CallD.intro (value_Int _) ?_); simp (maxSteps := 10000000) (implicitDefEqProofs := false) only [go_sem, he,  ↓reduceIte, reduceCtorEq, Nat.reduceAdd, Nat.reduceSub, Nat.reduceLeDiff, Nat.reduceEqDiff, Nat.reduceMul, Nat.reduceLT, Nat.reducePow, Int.reduceEq, Int.reduceLT, Int.reduceLE, Int.reduceGT, Int.reduceGE, Int.reduceAdd, Int.reduceSub, Int.reduceNeg, Int.reduceToNat])
        | with_reducible refine a_block ?_
        | with_reducible refine a_ret ?_
        | with_reducible refine a_exit ?_
        | with_reducible refine a_skip ?_
        | with_reducible exact ConfOk.mk (by kernel_rfl)
        | (with_reducible refine eqT_of (eq33 _ _ _ _ _ _) ?_; simp)
        | (with_reducible refine eqT_of (eq35 _ _ _ _ _ _ _ _) ?_; simp)
        | ((fail_if_success with_reducible show False); with_reducible apply_assumption (exfalso := false) (symm := false) only [*, rfl, trivial, congrArg])
        | with_reducible refine And.intro ?_ ?_
        | (intro h; contradiction)
        | (intro h; subst h)
        | intro h
        | simp (maxSteps := 10000000) (implicitDefEqProofs := false) only [go_sem, he,  ↓reduceIte, reduceCtorEq, Nat.reduceAdd, Nat.reduceSub, Nat.reduceLeDiff, Nat.reduceEqDiff, Nat.reduceMul, Nat.reduceLT, Nat.reducePow, Int.reduceEq, Int.reduceLT, Int.reduceLE, Int.reduceGT, Int.reduceGE, Int.reduceAdd, Int.reduceSub, Int.reduceNeg, Int.reduceToNat])
def arF (op : Int) : FuncId := if op = 5 then 71 else if op = 6 then 52 else if op = 7 then 72 else if op = 8 then 73 else 74
theorem zeroA_func : zeroA Tryz.prog 71 = some .nilFunc := by kernel_rfl
theorem arith_some (op : Int) (hop : op = 5 ∨ op = 6 ∨ op = 7 ∨ op = 8 ∨ op = 9) : ACalls Tryz.prog 53 [.int .u8 op] (.tuple [.func (.func (arF op)) [], .bool true]) := by
  rcases hop with rfl | rfl | rfl | rfl | rfl <;>
  · refine acalls_k Tryz.func53 rfl (by kernel_rfl) (congrArg Array.toList Tryz.results53) Tryz.ntmps53 ?_
    intro R hR
    simp only [st0, List.length_cons, List.length_nil, Nat.reduceAdd, Nat.reduceSub, List.replicate_succ, List.replicate_zero, List.cons_append, List.nil_append]
    repeat' (first
        | (with_reducible refine a_seq_k ?_; intro K hK)
        | ((first | with_reducible refine a_region (by kernel_rfl) ?_ | (with_reducible refine a_draw mixed (by kernel_rfl) ?_; intro C hC) | (with_reducible refine a_cond_k ?_; intro X Y hX hY) | with_reducible refine RetOk.mk ?_); simp (maxSteps := 10000000) (implicitDefEqProofs := false) only [go_sem, List.mem_cons, forall_eq_or_imp, decide_false, zeroA_func, arF,  ↓reduceIte, reduceCtorEq, Nat.reduceAdd, Nat.reduceSub, Nat.reduceLeDiff, Nat.reduceEqDiff, Nat.reduceMul, Nat.reduceLT, Nat.reducePow, Int.reduceEq, Int.reduceLT, Int.reduceLE, Int.reduceGT, Int.reduceGE, Int.reduceAdd, Int.reduceSub, Int.reduceNeg, Int.reduceToNat])
        | with_reducible refine a_block ?_
        | with_reducible refine a_ret ?_
        | with_reducible refine a_exit ?_
        | with_reducible refine a_skip ?_
        | with_reducible exact ConfOk.mk (by kernel_rfl)
        | (with_reducible refine eqT_of (eq33 _ _ _ _ _ _) ?_; simp)
        | (with_reducible refine eqT_of (eq35 _ _ _ _ _ _ _ _) ?_; simp)
        | ((fail_if_success with_reducible show False); with_reducible apply_assumption (exfalso := false) (symm := false) only [*, rfl, trivial, congrArg])
        | with_reducible refine And.intro ?_ ?_
        | (intro h; contradiction)
        | (intro h; subst h)
        | intro h
        | simp (maxSteps := 10000000) (implicitDefEqProofs := false) only [go_sem, List.mem_cons, forall_eq_or_imp, decide_false, zeroA_func, arF,  ↓reduceIte, reduceCtorEq, Nat.reduceAdd, Nat.reduceSub, Nat.reduceLeDiff, Nat.reduceEqDiff, Nat.reduceMul, Nat.reduceLT, Nat.reducePow, Int.reduceEq, Int.reduceLT, Int.reduceLE, Int.reduceGT, Int.reduceGE, Int.reduceAdd, Int.reduceSub, Int.reduceNeg, Int.reduceToNat])
end Go.Proofs.YtmlaogjndaeihaaGreatDoor
