/- The document's strict operators. The document's strict operators, by operator. -/
import Derived.Test.YtmlaogjndaeihaaGreatDoorR2
import Derived.Test.YtmlaogjndaeihaaGreatDoorR3
import Derived.Test.YtmlaogjndaeihaaGreatDoorL9
section
namespace Go.Proofs.YtmlaogjndaeihaaGreatDoor
open Go Go.Ab
attribute [local go_sem ↓] parts_tt parts_ff parts_tf parts_ft
attribute [local go_sem] parts_eq learnT aops_nil aops_cons aopsD_nil aopsD_cons stepS stepD gval St.learn skipR St.after putτ applyUpd List.foldl_cons List.foldl_nil pureOp memOp callOf litA closeO closeK List.flatMap_cons List.flatMap_nil Option.map_none decide_false opnd ofConst leaf binA unA lenA indexA indexAddrA fieldAddrA fieldA sliceA convertA pickV fillA placeS cellsA setA partA loadM storeM appendM srcEls lookBox lookRow lookMap closeL closeV scalarB scalarL killed buildEls lookupA leafEq eqAll resA resL tupA retA thenA blockA isInt loA hiA foldA maxA minA okSize leafB closedB Res.foot List.getD_cons_zero List.getD_cons_succ List.set_cons_zero List.set_cons_succ List.map_cons List.map_nil List.append_nil List.nil_append List.cons_append List.length_cons List.length_nil List.take_succ_cons List.take_zero List.drop_succ_cons List.drop_zero List.take_nil List.drop_nil List.all_cons List.all_nil List.getElem?_toArray List.getElem?_cons_zero List.getElem?_cons_succ Option.bind_some Option.map_some true_and and_true true_implies ne_eq not_true_eq_false not_false_eq_true Bool.true_eq_false Bool.false_eq_true Bool.not_true Bool.not_false decide_eq_true_eq decide_eq_false_iff_not false_implies implies_true and_self ite_true ite_false cond_true cond_false Option.some.injEq List.reverse_cons List.reverse_nil Bool.and_self Bool.true_and Bool.and_true Bool.false_and Bool.and_false Bool.or_true Bool.true_or Bool.or_false Bool.false_or Bool.not_eq_eq_eq_not Bool.not_not Bool.or_self beq_self_eq_true and_false false_and or_true true_or or_false false_or not_true not_false_iff Decidable.not_not lookT lookR tabT tabR Int.toNat_natCast List.length_map List.map_append List.length_append decide_true decide_false tmod2 List.mem_singleton forall_eq elOk1 elOk3 elOk4 castn0 castn1 castn2 castn3 getD_mid getD_mid_map at_lt at_end mid_lt mid_lt' nat_ge List.size_toArray Array.size_empty Nat.add_zero Nat.zero_add
attribute [local irreducible] ASpec ACalls retA ti EqT
set_option linter.unusedSimpArgs false
set_option maxHeartbeats 4000000
set_option maxRecDepth 100000
set_option linter.unusedVariables false
attribute [local go_sem] ti2 ti3 ti4 ti5 ti9 ti21 ti22 ti23 ti24 ti26 ti27 ti29 ti41 ti47 ti49 ti56 ti59 ti63 ti67 ti71 ti75 ti78 ti79 ti80 ti86 ti90 ti110
theorem numO_zero (n : Int) : numO (n, 0) = ⟨⟨1, n, emp⟩, 0⟩ := rfl
theorem numO_err {e : Int} (n : Int) (h : e ≠ 0) : numO (n, e) = ⟨⟨0, 0, emp⟩, e⟩ := if_pos h
theorem ref_number5 (x y : Val) (hi : In64 x.int) (hj : In64 y.int) : ACalls Tryz.prog 32 [.int .u8 5, outs [⟨x, 0⟩, ⟨y, 0⟩]] (.agg (numO (arI2 5 x.int y.int)).enc) := by
  have h1 := ref_Add x.int y.int hi hj
  have w1 : IntKind.i64.wrap 1 = 1 := rfl
  rw [show arI2 5 x.int y.int = arI (x.int + y.int) from rfl]
  generalize arI (x.int + y.int) = r at h1
  obtain ⟨n, e⟩ := r
  by_cases he : e = 0
  · subst he
    rw [numO_zero]
    refine acalls_k Tryz.func32 rfl (by kernel_rfl) (congrArg Array.toList Tryz.results32) Tryz.ntmps32 ?_
    intro R hR
    simp only [st0, List.length_cons, List.length_nil, Nat.reduceAdd, Nat.reduceSub, List.replicate_succ, List.replicate_zero, List.cons_append, List.nil_append]
    repeat' (first
        | (with_reducible refine a_seq_k ?_; intro K hK)
        | ((first | with_reducible refine a_region (by kernel_rfl) ?_ | (with_reducible refine a_draw mixed (by kernel_rfl) ?_; intro C hC) | (with_reducible refine a_cond_k ?_; intro X Y hX hY) | with_reducible refine RetOk.mk ?_ | with_reducible refine CallS.intro (h1) ?_ | with_reducible refine CallD.intro (h1) ?_ | with_reducible refine CallS.intro (ref_Int _) ?_ | with_reducible refine CallD.intro (ref_Int _) ?_ | with_reducible refine CallS.intro (ref_Fail _) ?_ | with_reducible refine CallD.intro (ref_Fail _) ?_); simp (maxSteps := 10000000) (implicitDefEqProofs := false) only [go_sem, Outv.enc, outs, w1,  ↓reduceIte, reduceCtorEq, Nat.reduceAdd, Nat.reduceSub, Nat.reduceLeDiff, Nat.reduceEqDiff, Nat.reduceMul, Nat.reduceLT, Nat.reducePow, Int.reduceEq, Int.reduceLT, Int.reduceLE, Int.reduceGT, Int.reduceGE, Int.reduceAdd, Int.reduceSub, Int.reduceNeg, Int.reduceToNat])
        | with_reducible refine a_block ?_
        | with_reducible refine a_ret ?_
        | with_reducible refine a_exit ?_
        | with_reducible refine a_skip ?_
        | with_reducible exact ConfOk.mk (by kernel_rfl)
        | (with_reducible refine eqT_of (eq33 _ _ _ _ _ _) ?_; simp)
        | (with_reducible refine eqT_of (eq35 _ _ _ _ _ _ _ _) ?_; simp)
        | ((fail_if_success with_reducible show False); with_reducible apply_assumption (exfalso := false) (symm := false) only [*, rfl, trivial, congrArg])
        | with_reducible refine And.intro ?_ ?_
        | (intro h; contradiction)
        | (intro h; subst h)
        | intro h
        | simp (maxSteps := 10000000) (implicitDefEqProofs := false) only [go_sem, Outv.enc, outs, w1,  ↓reduceIte, reduceCtorEq, Nat.reduceAdd, Nat.reduceSub, Nat.reduceLeDiff, Nat.reduceEqDiff, Nat.reduceMul, Nat.reduceLT, Nat.reducePow, Int.reduceEq, Int.reduceLT, Int.reduceLE, Int.reduceGT, Int.reduceGE, Int.reduceAdd, Int.reduceSub, Int.reduceNeg, Int.reduceToNat])
  · rw [numO_err n he]
    refine acalls_k Tryz.func32 rfl (by kernel_rfl) (congrArg Array.toList Tryz.results32) Tryz.ntmps32 ?_
    intro R hR
    simp only [st0, List.length_cons, List.length_nil, Nat.reduceAdd, Nat.reduceSub, List.replicate_succ, List.replicate_zero, List.cons_append, List.nil_append]
    repeat' (first
        | (with_reducible refine a_seq_k ?_; intro K hK)
        | ((first | with_reducible refine a_region (by kernel_rfl) ?_ | (with_reducible refine a_draw mixed (by kernel_rfl) ?_; intro C hC) | (with_reducible refine a_cond_k ?_; intro X Y hX hY) | with_reducible refine RetOk.mk ?_ | with_reducible refine CallS.intro (h1) ?_ | with_reducible refine CallD.intro (h1) ?_ | with_reducible refine CallS.intro (ref_Int _) ?_ | with_reducible refine CallD.intro (ref_Int _) ?_ | with_reducible refine CallS.intro (ref_Fail _) ?_ | with_reducible refine CallD.intro (ref_Fail _) ?_); simp (maxSteps := 10000000) (implicitDefEqProofs := false) only [go_sem, Outv.enc, outs, he, w1,  ↓reduceIte, reduceCtorEq, Nat.reduceAdd, Nat.reduceSub, Nat.reduceLeDiff, Nat.reduceEqDiff, Nat.reduceMul, Nat.reduceLT, Nat.reducePow, Int.reduceEq, Int.reduceLT, Int.reduceLE, Int.reduceGT, Int.reduceGE, Int.reduceAdd, Int.reduceSub, Int.reduceNeg, Int.reduceToNat])
        | with_reducible refine a_block ?_
        | with_reducible refine a_ret ?_
        | with_reducible refine a_exit ?_
        | with_reducible refine a_skip ?_
        | with_reducible exact ConfOk.mk (by kernel_rfl)
        | (with_reducible refine eqT_of (eq33 _ _ _ _ _ _) ?_; simp)
        | (with_reducible refine eqT_of (eq35 _ _ _ _ _ _ _ _) ?_; simp)
        | ((fail_if_success with_reducible show False); with_reducible apply_assumption (exfalso := false) (symm := false) only [*, rfl, trivial, congrArg])
        | with_reducible refine And.intro ?_ ?_
        | (intro h; contradiction)
        | (intro h; subst h)
        | intro h
        | simp (maxSteps := 10000000) (implicitDefEqProofs := false) only [go_sem, Outv.enc, outs, he, w1,  ↓reduceIte, reduceCtorEq, Nat.reduceAdd, Nat.reduceSub, Nat.reduceLeDiff, Nat.reduceEqDiff, Nat.reduceMul, Nat.reduceLT, Nat.reducePow, Int.reduceEq, Int.reduceLT, Int.reduceLE, Int.reduceGT, Int.reduceGE, Int.reduceAdd, Int.reduceSub, Int.reduceNeg, Int.reduceToNat])
theorem ref_number6 (x y : Val) (hi : In64 x.int) (hj : In64 y.int) : ACalls Tryz.prog 32 [.int .u8 6, outs [⟨x, 0⟩, ⟨y, 0⟩]] (.agg (numO (arI2 6 x.int y.int)).enc) := by
  have h1 := ref_Sub x.int y.int hi hj
  have w1 : IntKind.i64.wrap 1 = 1 := rfl
  rw [show arI2 6 x.int y.int = arI (x.int - y.int) from rfl]
  generalize arI (x.int - y.int) = r at h1
  obtain ⟨n, e⟩ := r
  by_cases he : e = 0
  · subst he
    rw [numO_zero]
    refine acalls_k Tryz.func32 rfl (by kernel_rfl) (congrArg Array.toList Tryz.results32) Tryz.ntmps32 ?_
    intro R hR
    simp only [st0, List.length_cons, List.length_nil, Nat.reduceAdd, Nat.reduceSub, List.replicate_succ, List.replicate_zero, List.cons_append, List.nil_append]
    repeat' (first
        | (with_reducible refine a_seq_k ?_; intro K hK)
        | ((first | with_reducible refine a_region (by kernel_rfl) ?_ | (with_reducible refine a_draw mixed (by kernel_rfl) ?_; intro C hC) | (with_reducible refine a_cond_k ?_; intro X Y hX hY) | with_reducible refine RetOk.mk ?_ | with_reducible refine CallS.intro (h1) ?_ | with_reducible refine CallD.intro (h1) ?_ | with_reducible refine CallS.intro (ref_Int _) ?_ | with_reducible refine CallD.intro (ref_Int _) ?_ | with_reducible refine CallS.intro (ref_Fail _) ?_ | with_reducible refine CallD.intro (ref_Fail _) ?_); simp (maxSteps := 10000000) (implicitDefEqProofs := false) only [go_sem, Outv.enc, outs, w1,  ↓reduceIte, reduceCtorEq, Nat.reduceAdd, Nat.reduceSub, Nat.reduceLeDiff, Nat.reduceEqDiff, Nat.reduceMul, Nat.reduceLT, Nat.reducePow, Int.reduceEq, Int.reduceLT, Int.reduceLE, Int.reduceGT, Int.reduceGE, Int.reduceAdd, Int.reduceSub, Int.reduceNeg, Int.reduceToNat])
        | with_reducible refine a_block ?_
        | with_reducible refine a_ret ?_
        | with_reducible refine a_exit ?_
        | with_reducible refine a_skip ?_
        | with_reducible exact ConfOk.mk (by kernel_rfl)
        | (with_reducible refine eqT_of (eq33 _ _ _ _ _ _) ?_; simp)
        | (with_reducible refine eqT_of (eq35 _ _ _ _ _ _ _ _) ?_; simp)
        | ((fail_if_success with_reducible show False); with_reducible apply_assumption (exfalso := false) (symm := false) only [*, rfl, trivial, congrArg])
        | with_reducible refine And.intro ?_ ?_
        | (intro h; contradiction)
        | (intro h; subst h)
        | intro h
        | simp (maxSteps := 10000000) (implicitDefEqProofs := false) only [go_sem, Outv.enc, outs, w1,  ↓reduceIte, reduceCtorEq, Nat.reduceAdd, Nat.reduceSub, Nat.reduceLeDiff, Nat.reduceEqDiff, Nat.reduceMul, Nat.reduceLT, Nat.reducePow, Int.reduceEq, Int.reduceLT, Int.reduceLE, Int.reduceGT, Int.reduceGE, Int.reduceAdd, Int.reduceSub, Int.reduceNeg, Int.reduceToNat])
  · rw [numO_err n he]
    refine acalls_k Tryz.func32 rfl (by kernel_rfl) (congrArg Array.toList Tryz.results32) Tryz.ntmps32 ?_
    intro R hR
    simp only [st0, List.length_cons, List.length_nil, Nat.reduceAdd, Nat.reduceSub, List.replicate_succ, List.replicate_zero, List.cons_append, List.nil_append]
    repeat' (first
        | (with_reducible refine a_seq_k ?_; intro K hK)
        | ((first | with_reducible refine a_region (by kernel_rfl) ?_ | (with_reducible refine a_draw mixed (by kernel_rfl) ?_; intro C hC) | (with_reducible refine a_cond_k ?_; intro X Y hX hY) | with_reducible refine RetOk.mk ?_ | with_reducible refine CallS.intro (h1) ?_ | with_reducible refine CallD.intro (h1) ?_ | with_reducible refine CallS.intro (ref_Int _) ?_ | with_reducible refine CallD.intro (ref_Int _) ?_ | with_reducible refine CallS.intro (ref_Fail _) ?_ | with_reducible refine CallD.intro (ref_Fail _) ?_); simp (maxSteps := 10000000) (implicitDefEqProofs := false) only [go_sem, Outv.enc, outs, he, w1,  ↓reduceIte, reduceCtorEq, Nat.reduceAdd, Nat.reduceSub, Nat.reduceLeDiff, Nat.reduceEqDiff, Nat.reduceMul, Nat.reduceLT, Nat.reducePow, Int.reduceEq, Int.reduceLT, Int.reduceLE, Int.reduceGT, Int.reduceGE, Int.reduceAdd, Int.reduceSub, Int.reduceNeg, Int.reduceToNat])
        | with_reducible refine a_block ?_
        | with_reducible refine a_ret ?_
        | with_reducible refine a_exit ?_
        | with_reducible refine a_skip ?_
        | with_reducible exact ConfOk.mk (by kernel_rfl)
        | (with_reducible refine eqT_of (eq33 _ _ _ _ _ _) ?_; simp)
        | (with_reducible refine eqT_of (eq35 _ _ _ _ _ _ _ _) ?_; simp)
        | ((fail_if_success with_reducible show False); with_reducible apply_assumption (exfalso := false) (symm := false) only [*, rfl, trivial, congrArg])
        | with_reducible refine And.intro ?_ ?_
        | (intro h; contradiction)
        | (intro h; subst h)
        | intro h
        | simp (maxSteps := 10000000) (implicitDefEqProofs := false) only [go_sem, Outv.enc, outs, he, w1,  ↓reduceIte, reduceCtorEq, Nat.reduceAdd, Nat.reduceSub, Nat.reduceLeDiff, Nat.reduceEqDiff, Nat.reduceMul, Nat.reduceLT, Nat.reducePow, Int.reduceEq, Int.reduceLT, Int.reduceLE, Int.reduceGT, Int.reduceGE, Int.reduceAdd, Int.reduceSub, Int.reduceNeg, Int.reduceToNat])
theorem ref_number7 (x y : Val) (hi : In64 x.int) (hj : In64 y.int) : ACalls Tryz.prog 32 [.int .u8 7, outs [⟨x, 0⟩, ⟨y, 0⟩]] (.agg (numO (arI2 7 x.int y.int)).enc) := by
  have h1 := ref_Mul x.int y.int hi hj
  have w1 : IntKind.i64.wrap 1 = 1 := rfl
  rw [show arI2 7 x.int y.int = mulI x.int y.int from rfl]
  generalize mulI x.int y.int = r at h1
  obtain ⟨n, e⟩ := r
  by_cases he : e = 0
  · subst he
    rw [numO_zero]
    refine acalls_k Tryz.func32 rfl (by kernel_rfl) (congrArg Array.toList Tryz.results32) Tryz.ntmps32 ?_
    intro R hR
    simp only [st0, List.length_cons, List.length_nil, Nat.reduceAdd, Nat.reduceSub, List.replicate_succ, List.replicate_zero, List.cons_append, List.nil_append]
    repeat' (first
        | (with_reducible refine a_seq_k ?_; intro K hK)
        | ((first | with_reducible refine a_region (by kernel_rfl) ?_ | (with_reducible refine a_draw mixed (by kernel_rfl) ?_; intro C hC) | (with_reducible refine a_cond_k ?_; intro X Y hX hY) | with_reducible refine RetOk.mk ?_ | with_reducible refine CallS.intro (h1) ?_ | with_reducible refine CallD.intro (h1) ?_ | with_reducible refine CallS.intro (ref_Int _) ?_ | with_reducible refine CallD.intro (ref_Int _) ?_ | with_reducible refine CallS.intro (ref_Fail _) ?_ | with_reducible refine CallD.intro (ref_Fail _) ?_); simp (maxSteps := 10000000) (implicitDefEqProofs := false) only [go_sem, Outv.enc, outs, w1,  ↓reduceIte, reduceCtorEq, Nat.reduceAdd, Nat.reduceSub, Nat.reduceLeDiff, Nat.reduceEqDiff, Nat.reduceMul, Nat.reduceLT, Nat.reducePow, Int.reduceEq, Int.reduceLT, Int.reduceLE, Int.reduceGT, Int.reduceGE, Int.reduceAdd, Int.reduceSub, Int.reduceNeg, Int.reduceToNat])
        | with_reducible refine a_block ?_
        | with_reducible refine a_ret ?_
        | with_reducible refine a_exit ?_
        | with_reducible refine a_skip ?_
        | with_reducible exact ConfOk.mk (by kernel_rfl)
        | (with_reducible refine eqT_of (eq33 _ _ _ _ _ _) ?_; simp)
        | (with_reducible refine eqT_of (eq35 _ _ _ _ _ _ _ _) ?_; simp)
        | ((fail_if_success with_reducible show False); with_reducible apply_assumption (exfalso := false) (symm := false) only [*, rfl, trivial, congrArg])
        | with_reducible refine And.intro ?_ ?_
        | (intro h; contradiction)
        | (intro h; subst h)
        | intro h
        | simp (maxSteps := 10000000) (implicitDefEqProofs := false) only [go_sem, Outv.enc, outs, w1,  ↓reduceIte, reduceCtorEq, Nat.reduceAdd, Nat.reduceSub, Nat.reduceLeDiff, Nat.reduceEqDiff, Nat.reduceMul, Nat.reduceLT, Nat.reducePow, Int.reduceEq, Int.reduceLT, Int.reduceLE, Int.reduceGT, Int.reduceGE, Int.reduceAdd, Int.reduceSub, Int.reduceNeg, Int.reduceToNat])
  · rw [numO_err n he]
    refine acalls_k Tryz.func32 rfl (by kernel_rfl) (congrArg Array.toList Tryz.results32) Tryz.ntmps32 ?_
    intro R hR
    simp only [st0, List.length_cons, List.length_nil, Nat.reduceAdd, Nat.reduceSub, List.replicate_succ, List.replicate_zero, List.cons_append, List.nil_append]
    repeat' (first
        | (with_reducible refine a_seq_k ?_; intro K hK)
        | ((first | with_reducible refine a_region (by kernel_rfl) ?_ | (with_reducible refine a_draw mixed (by kernel_rfl) ?_; intro C hC) | (with_reducible refine a_cond_k ?_; intro X Y hX hY) | with_reducible refine RetOk.mk ?_ | with_reducible refine CallS.intro (h1) ?_ | with_reducible refine CallD.intro (h1) ?_ | with_reducible refine CallS.intro (ref_Int _) ?_ | with_reducible refine CallD.intro (ref_Int _) ?_ | with_reducible refine CallS.intro (ref_Fail _) ?_ | with_reducible refine CallD.intro (ref_Fail _) ?_); simp (maxSteps := 10000000) (implicitDefEqProofs := false) only [go_sem, Outv.enc, outs, he, w1,  ↓reduceIte, reduceCtorEq, Nat.reduceAdd, Nat.reduceSub, Nat.reduceLeDiff, Nat.reduceEqDiff, Nat.reduceMul, Nat.reduceLT, Nat.reducePow, Int.reduceEq, Int.reduceLT, Int.reduceLE, Int.reduceGT, Int.reduceGE, Int.reduceAdd, Int.reduceSub, Int.reduceNeg, Int.reduceToNat])
        | with_reducible refine a_block ?_
        | with_reducible refine a_ret ?_
        | with_reducible refine a_exit ?_
        | with_reducible refine a_skip ?_
        | with_reducible exact ConfOk.mk (by kernel_rfl)
        | (with_reducible refine eqT_of (eq33 _ _ _ _ _ _) ?_; simp)
        | (with_reducible refine eqT_of (eq35 _ _ _ _ _ _ _ _) ?_; simp)
        | ((fail_if_success with_reducible show False); with_reducible apply_assumption (exfalso := false) (symm := false) only [*, rfl, trivial, congrArg])
        | with_reducible refine And.intro ?_ ?_
        | (intro h; contradiction)
        | (intro h; subst h)
        | intro h
        | simp (maxSteps := 10000000) (implicitDefEqProofs := false) only [go_sem, Outv.enc, outs, he, w1,  ↓reduceIte, reduceCtorEq, Nat.reduceAdd, Nat.reduceSub, Nat.reduceLeDiff, Nat.reduceEqDiff, Nat.reduceMul, Nat.reduceLT, Nat.reducePow, Int.reduceEq, Int.reduceLT, Int.reduceLE, Int.reduceGT, Int.reduceGE, Int.reduceAdd, Int.reduceSub, Int.reduceNeg, Int.reduceToNat])
theorem ref_number8 (x y : Val) (hi : In64 x.int) (hj : In64 y.int) : ACalls Tryz.prog 32 [.int .u8 8, outs [⟨x, 0⟩, ⟨y, 0⟩]] (.agg (numO (arI2 8 x.int y.int)).enc) := by
  have h1 := ref_Div x.int y.int hi hj
  have w1 : IntKind.i64.wrap 1 = 1 := rfl
  rw [show arI2 8 x.int y.int = divI x.int y.int from rfl]
  generalize divI x.int y.int = r at h1
  obtain ⟨n, e⟩ := r
  by_cases he : e = 0
  · subst he
    rw [numO_zero]
    refine acalls_k Tryz.func32 rfl (by kernel_rfl) (congrArg Array.toList Tryz.results32) Tryz.ntmps32 ?_
    intro R hR
    simp only [st0, List.length_cons, List.length_nil, Nat.reduceAdd, Nat.reduceSub, List.replicate_succ, List.replicate_zero, List.cons_append, List.nil_append]
    repeat' (first
        | (with_reducible refine a_seq_k ?_; intro K hK)
        | ((first | with_reducible refine a_region (by kernel_rfl) ?_ | (with_reducible refine a_draw mixed (by kernel_rfl) ?_; intro C hC) | (with_reducible refine a_cond_k ?_; intro X Y hX hY) | with_reducible refine RetOk.mk ?_ | with_reducible refine CallS.intro (h1) ?_ | with_reducible refine CallD.intro (h1) ?_ | with_reducible refine CallS.intro (ref_Int _) ?_ | with_reducible refine CallD.intro (ref_Int _) ?_ | with_reducible refine CallS.intro (ref_Fail _) ?_ | with_reducible refine CallD.intro (ref_Fail _) ?_); simp (maxSteps := 10000000) (implicitDefEqProofs := false) only [go_sem, Outv.enc, outs, w1,  ↓reduceIte, reduceCtorEq, Nat.reduceAdd, Nat.reduceSub, Nat.reduceLeDiff, Nat.reduceEqDiff, Nat.reduceMul, Nat.reduceLT, Nat.reducePow, Int.reduceEq, Int.reduceLT, Int.reduceLE, Int.reduceGT, Int.reduceGE, Int.reduceAdd, Int.reduceSub, Int.reduceNeg, Int.reduceToNat])
        | with_reducible refine a_block ?_
        | with_reducible refine a_ret ?_
        | with_reducible refine a_exit ?_
        | with_reducible refine a_skip ?_
        | with_reducible exact ConfOk.mk (by kernel_rfl)
        | (with_reducible refine eqT_of (eq33 _ _ _ _ _ _) ?_; simp)
        | (with_reducible refine eqT_of (eq35 _ _ _ _ _ _ _ _) ?_; simp)
        | ((fail_if_success with_reducible show False); with_reducible apply_assumption (exfalso := false) (symm := false) only [*, rfl, trivial, congrArg])
        | with_reducible refine And.intro ?_ ?_
        | (intro h; contradiction)
        | (intro h; subst h)
        | intro h
        | simp (maxSteps := 10000000) (implicitDefEqProofs := false) only [go_sem, Outv.enc, outs, w1,  ↓reduceIte, reduceCtorEq, Nat.reduceAdd, Nat.reduceSub, Nat.reduceLeDiff, Nat.reduceEqDiff, Nat.reduceMul, Nat.reduceLT, Nat.reducePow, Int.reduceEq, Int.reduceLT, Int.reduceLE, Int.reduceGT, Int.reduceGE, Int.reduceAdd, Int.reduceSub, Int.reduceNeg, Int.reduceToNat])
  · rw [numO_err n he]
    refine acalls_k Tryz.func32 rfl (by kernel_rfl) (congrArg Array.toList Tryz.results32) Tryz.ntmps32 ?_
    intro R hR
    simp only [st0, List.length_cons, List.length_nil, Nat.reduceAdd, Nat.reduceSub, List.replicate_succ, List.replicate_zero, List.cons_append, List.nil_append]
    repeat' (first
        | (with_reducible refine a_seq_k ?_; intro K hK)
        | ((first | with_reducible refine a_region (by kernel_rfl) ?_ | (with_reducible refine a_draw mixed (by kernel_rfl) ?_; intro C hC) | (with_reducible refine a_cond_k ?_; intro X Y hX hY) | with_reducible refine RetOk.mk ?_ | with_reducible refine CallS.intro (h1) ?_ | with_reducible refine CallD.intro (h1) ?_ | with_reducible refine CallS.intro (ref_Int _) ?_ | with_reducible refine CallD.intro (ref_Int _) ?_ | with_reducible refine CallS.intro (ref_Fail _) ?_ | with_reducible refine CallD.intro (ref_Fail _) ?_); simp (maxSteps := 10000000) (implicitDefEqProofs := false) only [go_sem, Outv.enc, outs, he, w1,  ↓reduceIte, reduceCtorEq, Nat.reduceAdd, Nat.reduceSub, Nat.reduceLeDiff, Nat.reduceEqDiff, Nat.reduceMul, Nat.reduceLT, Nat.reducePow, Int.reduceEq, Int.reduceLT, Int.reduceLE, Int.reduceGT, Int.reduceGE, Int.reduceAdd, Int.reduceSub, Int.reduceNeg, Int.reduceToNat])
        | with_reducible refine a_block ?_
        | with_reducible refine a_ret ?_
        | with_reducible refine a_exit ?_
        | with_reducible refine a_skip ?_
        | with_reducible exact ConfOk.mk (by kernel_rfl)
        | (with_reducible refine eqT_of (eq33 _ _ _ _ _ _) ?_; simp)
        | (with_reducible refine eqT_of (eq35 _ _ _ _ _ _ _ _) ?_; simp)
        | ((fail_if_success with_reducible show False); with_reducible apply_assumption (exfalso := false) (symm := false) only [*, rfl, trivial, congrArg])
        | with_reducible refine And.intro ?_ ?_
        | (intro h; contradiction)
        | (intro h; subst h)
        | intro h
        | simp (maxSteps := 10000000) (implicitDefEqProofs := false) only [go_sem, Outv.enc, outs, he, w1,  ↓reduceIte, reduceCtorEq, Nat.reduceAdd, Nat.reduceSub, Nat.reduceLeDiff, Nat.reduceEqDiff, Nat.reduceMul, Nat.reduceLT, Nat.reducePow, Int.reduceEq, Int.reduceLT, Int.reduceLE, Int.reduceGT, Int.reduceGE, Int.reduceAdd, Int.reduceSub, Int.reduceNeg, Int.reduceToNat])
theorem ref_number9 (x y : Val) (hi : In64 x.int) (hj : In64 y.int) : ACalls Tryz.prog 32 [.int .u8 9, outs [⟨x, 0⟩, ⟨y, 0⟩]] (.agg (numO (arI2 9 x.int y.int)).enc) := by
  have h1 := ref_Mod x.int y.int hi hj
  have w1 : IntKind.i64.wrap 1 = 1 := rfl
  rw [show arI2 9 x.int y.int = modI x.int y.int from rfl]
  generalize modI x.int y.int = r at h1
  obtain ⟨n, e⟩ := r
  by_cases he : e = 0
  · subst he
    rw [numO_zero]
    refine acalls_k Tryz.func32 rfl (by kernel_rfl) (congrArg Array.toList Tryz.results32) Tryz.ntmps32 ?_
    intro R hR
    simp only [st0, List.length_cons, List.length_nil, Nat.reduceAdd, Nat.reduceSub, List.replicate_succ, List.replicate_zero, List.cons_append, List.nil_append]
    repeat' (first
        | (with_reducible refine a_seq_k ?_; intro K hK)
        | ((first | with_reducible refine a_region (by kernel_rfl) ?_ | (with_reducible refine a_draw mixed (by kernel_rfl) ?_; intro C hC) | (with_reducible refine a_cond_k ?_; intro X Y hX hY) | with_reducible refine RetOk.mk ?_ | with_reducible refine CallS.intro (h1) ?_ | with_reducible refine CallD.intro (h1) ?_ | with_reducible refine CallS.intro (ref_Int _) ?_ | with_reducible refine CallD.intro (ref_Int _) ?_ | with_reducible refine CallS.intro (ref_Fail _) ?_ | with_reducible refine CallD.intro (ref_Fail _) ?_); simp (maxSteps := 10000000) (implicitDefEqProofs := false) only [go_sem, Outv.enc, outs, w1,  ↓reduceIte, reduceCtorEq, Nat.reduceAdd, Nat.reduceSub, Nat.reduceLeDiff, Nat.reduceEqDiff, Nat.reduceMul, Nat.reduceLT, Nat.reducePow, Int.reduceEq, Int.reduceLT, Int.reduceLE, Int.reduceGT, Int.reduceGE, Int.reduceAdd, Int.reduceSub, Int.reduceNeg, Int.reduceToNat])
        | with_reducible refine a_block ?_
        | with_reducible refine a_ret ?_
        | with_reducible refine a_exit ?_
        | with_reducible refine a_skip ?_
        | with_reducible exact ConfOk.mk (by kernel_rfl)
        | (with_reducible refine eqT_of (eq33 _ _ _ _ _ _) ?_; simp)
        | (with_reducible refine eqT_of (eq35 _ _ _ _ _ _ _ _) ?_; simp)
        | ((fail_if_success with_reducible show False); with_reducible apply_assumption (exfalso := false) (symm := false) only [*, rfl, trivial, congrArg])
        | with_reducible refine And.intro ?_ ?_
        | (intro h; contradiction)
        | (intro h; subst h)
        | intro h
        | simp (maxSteps := 10000000) (implicitDefEqProofs := false) only [go_sem, Outv.enc, outs, w1,  ↓reduceIte, reduceCtorEq, Nat.reduceAdd, Nat.reduceSub, Nat.reduceLeDiff, Nat.reduceEqDiff, Nat.reduceMul, Nat.reduceLT, Nat.reducePow, Int.reduceEq, Int.reduceLT, Int.reduceLE, Int.reduceGT, Int.reduceGE, Int.reduceAdd, Int.reduceSub, Int.reduceNeg, Int.reduceToNat])
  · rw [numO_err n he]
    refine acalls_k Tryz.func32 rfl (by kernel_rfl) (congrArg Array.toList Tryz.results32) Tryz.ntmps32 ?_
    intro R hR
    simp only [st0, List.length_cons, List.length_nil, Nat.reduceAdd, Nat.reduceSub, List.replicate_succ, List.replicate_zero, List.cons_append, List.nil_append]
    repeat' (first
        | (with_reducible refine a_seq_k ?_; intro K hK)
        | ((first | with_reducible refine a_region (by kernel_rfl) ?_ | (with_reducible refine a_draw mixed (by kernel_rfl) ?_; intro C hC) | (with_reducible refine a_cond_k ?_; intro X Y hX hY) | with_reducible refine RetOk.mk ?_ | with_reducible refine CallS.intro (h1) ?_ | with_reducible refine CallD.intro (h1) ?_ | with_reducible refine CallS.intro (ref_Int _) ?_ | with_reducible refine CallD.intro (ref_Int _) ?_ | with_reducible refine CallS.intro (ref_Fail _) ?_ | with_reducible refine CallD.intro (ref_Fail _) ?_); simp (maxSteps := 10000000) (implicitDefEqProofs := false) only [go_sem, Outv.enc, outs, he, w1,  ↓reduceIte, reduceCtorEq, Nat.reduceAdd, Nat.reduceSub, Nat.reduceLeDiff, Nat.reduceEqDiff, Nat.reduceMul, Nat.reduceLT, Nat.reducePow, Int.reduceEq, Int.reduceLT, Int.reduceLE, Int.reduceGT, Int.reduceGE, Int.reduceAdd, Int.reduceSub, Int.reduceNeg, Int.reduceToNat])
        | with_reducible refine a_block ?_
        | with_reducible refine a_ret ?_
        | with_reducible refine a_exit ?_
        | with_reducible refine a_skip ?_
        | with_reducible exact ConfOk.mk (by kernel_rfl)
        | (with_reducible refine eqT_of (eq33 _ _ _ _ _ _) ?_; simp)
        | (with_reducible refine eqT_of (eq35 _ _ _ _ _ _ _ _) ?_; simp)
        | ((fail_if_success with_reducible show False); with_reducible apply_assumption (exfalso := false) (symm := false) only [*, rfl, trivial, congrArg])
        | with_reducible refine And.intro ?_ ?_
        | (intro h; contradiction)
        | (intro h; subst h)
        | intro h
        | simp (maxSteps := 10000000) (implicitDefEqProofs := false) only [go_sem, Outv.enc, outs, he, w1,  ↓reduceIte, reduceCtorEq, Nat.reduceAdd, Nat.reduceSub, Nat.reduceLeDiff, Nat.reduceEqDiff, Nat.reduceMul, Nat.reduceLT, Nat.reducePow, Int.reduceEq, Int.reduceLT, Int.reduceLE, Int.reduceGT, Int.reduceGE, Int.reduceAdd, Int.reduceSub, Int.reduceNeg, Int.reduceToNat])
theorem ref_number4 (x : Val) (hi : In64 x.int) : ACalls Tryz.prog 32 [.int .u8 4, outs [⟨x, 0⟩]] (.agg (numO (arI (0 - x.int))).enc) := by
  have h1 := ref_Sub 0 x.int (by decide) hi
  have w1 : IntKind.i64.wrap 1 = 1 := rfl
  generalize arI (0 - x.int) = r at h1
  obtain ⟨n, e⟩ := r
  by_cases he : e = 0
  · subst he
    rw [numO_zero]
    refine acalls_k Tryz.func32 rfl (by kernel_rfl) (congrArg Array.toList Tryz.results32) Tryz.ntmps32 ?_
    intro R hR
    simp only [st0, List.length_cons, List.length_nil, Nat.reduceAdd, Nat.reduceSub, List.replicate_succ, List.replicate_zero, List.cons_append, List.nil_append]
    repeat' (first
        | (with_reducible refine a_seq_k ?_; intro K hK)
        | ((first | with_reducible refine a_region (by kernel_rfl) ?_ | (with_reducible refine a_draw mixed (by kernel_rfl) ?_; intro C hC) | (with_reducible refine a_cond_k ?_; intro X Y hX hY) | with_reducible refine RetOk.mk ?_ | with_reducible refine CallS.intro (h1) ?_ | with_reducible refine CallD.intro (h1) ?_ | with_reducible refine CallS.intro (ref_Int _) ?_ | with_reducible refine CallD.intro (ref_Int _) ?_ | with_reducible refine CallS.intro (ref_Fail _) ?_ | with_reducible refine CallD.intro (ref_Fail _) ?_); simp (maxSteps := 10000000) (implicitDefEqProofs := false) only [go_sem, Outv.enc, outs, w1,  ↓reduceIte, reduceCtorEq, Nat.reduceAdd, Nat.reduceSub, Nat.reduceLeDiff, Nat.reduceEqDiff, Nat.reduceMul, Nat.reduceLT, Nat.reducePow, Int.reduceEq, Int.reduceLT, Int.reduceLE, Int.reduceGT, Int.reduceGE, Int.reduceAdd, Int.reduceSub, Int.reduceNeg, Int.reduceToNat])
        | with_reducible refine a_block ?_
        | with_reducible refine a_ret ?_
        | with_reducible refine a_exit ?_
        | with_reducible refine a_skip ?_
        | with_reducible exact ConfOk.mk (by kernel_rfl)
        | (with_reducible refine eqT_of (eq33 _ _ _ _ _ _) ?_; simp)
        | (with_reducible refine eqT_of (eq35 _ _ _ _ _ _ _ _) ?_; simp)
        | ((fail_if_success with_reducible show False); with_reducible apply_assumption (exfalso := false) (symm := false) only [*, rfl, trivial, congrArg])
        | with_reducible refine And.intro ?_ ?_
        | (intro h; contradiction)
        | (intro h; subst h)
        | intro h
        | simp (maxSteps := 10000000) (implicitDefEqProofs := false) only [go_sem, Outv.enc, outs, w1,  ↓reduceIte, reduceCtorEq, Nat.reduceAdd, Nat.reduceSub, Nat.reduceLeDiff, Nat.reduceEqDiff, Nat.reduceMul, Nat.reduceLT, Nat.reducePow, Int.reduceEq, Int.reduceLT, Int.reduceLE, Int.reduceGT, Int.reduceGE, Int.reduceAdd, Int.reduceSub, Int.reduceNeg, Int.reduceToNat])
  · rw [numO_err n he]
    refine acalls_k Tryz.func32 rfl (by kernel_rfl) (congrArg Array.toList Tryz.results32) Tryz.ntmps32 ?_
    intro R hR
    simp only [st0, List.length_cons, List.length_nil, Nat.reduceAdd, Nat.reduceSub, List.replicate_succ, List.replicate_zero, List.cons_append, List.nil_append]
    repeat' (first
        | (with_reducible refine a_seq_k ?_; intro K hK)
        | ((first | with_reducible refine a_region (by kernel_rfl) ?_ | (with_reducible refine a_draw mixed (by kernel_rfl) ?_; intro C hC) | (with_reducible refine a_cond_k ?_; intro X Y hX hY) | with_reducible refine RetOk.mk ?_ | with_reducible refine CallS.intro (h1) ?_ | with_reducible refine CallD.intro (h1) ?_ | with_reducible refine CallS.intro (ref_Int _) ?_ | with_reducible refine CallD.intro (ref_Int _) ?_ | with_reducible refine CallS.intro (ref_Fail _) ?_ | with_reducible refine CallD.intro (ref_Fail _) ?_); simp (maxSteps := 10000000) (implicitDefEqProofs := false) only [go_sem, Outv.enc, outs, he, w1,  ↓reduceIte, reduceCtorEq, Nat.reduceAdd, Nat.reduceSub, Nat.reduceLeDiff, Nat.reduceEqDiff, Nat.reduceMul, Nat.reduceLT, Nat.reducePow, Int.reduceEq, Int.reduceLT, Int.reduceLE, Int.reduceGT, Int.reduceGE, Int.reduceAdd, Int.reduceSub, Int.reduceNeg, Int.reduceToNat])
        | with_reducible refine a_block ?_
        | with_reducible refine a_ret ?_
        | with_reducible refine a_exit ?_
        | with_reducible refine a_skip ?_
        | with_reducible exact ConfOk.mk (by kernel_rfl)
        | (with_reducible refine eqT_of (eq33 _ _ _ _ _ _) ?_; simp)
        | (with_reducible refine eqT_of (eq35 _ _ _ _ _ _ _ _) ?_; simp)
        | ((fail_if_success with_reducible show False); with_reducible apply_assumption (exfalso := false) (symm := false) only [*, rfl, trivial, congrArg])
        | with_reducible refine And.intro ?_ ?_
        | (intro h; contradiction)
        | (intro h; subst h)
        | intro h
        | simp (maxSteps := 10000000) (implicitDefEqProofs := false) only [go_sem, Outv.enc, outs, he, w1,  ↓reduceIte, reduceCtorEq, Nat.reduceAdd, Nat.reduceSub, Nat.reduceLeDiff, Nat.reduceEqDiff, Nat.reduceMul, Nat.reduceLT, Nat.reducePow, Int.reduceEq, Int.reduceLT, Int.reduceLE, Int.reduceGT, Int.reduceGE, Int.reduceAdd, Int.reduceSub, Int.reduceNeg, Int.reduceToNat])
theorem ref_compared (op : Int) (hop : op = 12 ∨ op = 13 ∨ op = 14 ∨ op = 15 ∨ op = 16 ∨ op = 17) (a b : Val) (ha : 0 ≤ a.kind ∧ a.kind ≤ 3) (hb : 0 ≤ b.kind ∧ b.kind ≤ 3) (sa : a.text.size < 2 ^ 62) (sb : b.text.size < 2 ^ 62) :
    ACalls Tryz.prog 36 [.int .u8 op, vA a.kind a.int a.text, vA b.kind b.int b.text] (.agg (boolO (opB op (cmpV a b))).enc) := by
  have h1 := ref_Compare a b ha hb sa sb
  generalize cmpV a b = c at h1
  rcases hop with h | h | h | h | h | h <;> subst h
  · refine acalls_k Tryz.func36 rfl (by kernel_rfl) (congrArg Array.toList Tryz.results36) Tryz.ntmps36 ?_
    intro R hR
    simp only [st0, List.length_cons, List.length_nil, Nat.reduceAdd, Nat.reduceSub, List.replicate_succ, List.replicate_zero, List.cons_append, List.nil_append]
    repeat' (first
        | (with_reducible refine a_seq_k ?_; intro K hK)
        | ((first | with_reducible refine a_region (by kernel_rfl) ?_ | (with_reducible refine a_draw mixed (by kernel_rfl) ?_; intro C hC) | (with_reducible refine a_cond_k ?_; intro X Y hX hY) | with_reducible refine RetOk.mk ?_ | with_reducible refine CallS.intro (h1) ?_ | with_reducible refine CallD.intro (h1) ?_ | with_reducible refine CallS.intro (ref_oBool _) ?_ | with_reducible refine CallD.intro (ref_oBool _) ?_); simp (maxSteps := 10000000) (implicitDefEqProofs := false) only [go_sem, Outv.enc,  ↓reduceIte, reduceCtorEq, Nat.reduceAdd, Nat.reduceSub, Nat.reduceLeDiff, Nat.reduceEqDiff, Nat.reduceMul, Nat.reduceLT, Nat.reducePow, Int.reduceEq, Int.reduceLT, Int.reduceLE, Int.reduceGT, Int.reduceGE, Int.reduceAdd, Int.reduceSub, Int.reduceNeg, Int.reduceToNat])
        | with_reducible refine a_block ?_
        | with_reducible refine a_ret ?_
        | with_reducible refine a_exit ?_
        | with_reducible refine a_skip ?_
        | with_reducible exact ConfOk.mk (by kernel_rfl)
        | (with_reducible refine eqT_of (eq33 _ _ _ _ _ _) ?_; simp)
        | (with_reducible refine eqT_of (eq35 _ _ _ _ _ _ _ _) ?_; simp)
        | ((fail_if_success with_reducible show False); with_reducible apply_assumption (exfalso := false) (symm := false) only [*, rfl, trivial, congrArg])
        | with_reducible refine And.intro ?_ ?_
        | (intro h; contradiction)
        | (intro h; subst h)
        | intro h
        | simp (maxSteps := 10000000) (implicitDefEqProofs := false) only [go_sem, Outv.enc,  ↓reduceIte, reduceCtorEq, Nat.reduceAdd, Nat.reduceSub, Nat.reduceLeDiff, Nat.reduceEqDiff, Nat.reduceMul, Nat.reduceLT, Nat.reducePow, Int.reduceEq, Int.reduceLT, Int.reduceLE, Int.reduceGT, Int.reduceGE, Int.reduceAdd, Int.reduceSub, Int.reduceNeg, Int.reduceToNat])
    all_goals simp [opB, boolO, boolV]
  · refine acalls_k Tryz.func36 rfl (by kernel_rfl) (congrArg Array.toList Tryz.results36) Tryz.ntmps36 ?_
    intro R hR
    simp only [st0, List.length_cons, List.length_nil, Nat.reduceAdd, Nat.reduceSub, List.replicate_succ, List.replicate_zero, List.cons_append, List.nil_append]
    repeat' (first
        | (with_reducible refine a_seq_k ?_; intro K hK)
        | ((first | with_reducible refine a_region (by kernel_rfl) ?_ | (with_reducible refine a_draw mixed (by kernel_rfl) ?_; intro C hC) | (with_reducible refine a_cond_k ?_; intro X Y hX hY) | with_reducible refine RetOk.mk ?_ | with_reducible refine CallS.intro (h1) ?_ | with_reducible refine CallD.intro (h1) ?_ | with_reducible refine CallS.intro (ref_oBool _) ?_ | with_reducible refine CallD.intro (ref_oBool _) ?_); simp (maxSteps := 10000000) (implicitDefEqProofs := false) only [go_sem, Outv.enc,  ↓reduceIte, reduceCtorEq, Nat.reduceAdd, Nat.reduceSub, Nat.reduceLeDiff, Nat.reduceEqDiff, Nat.reduceMul, Nat.reduceLT, Nat.reducePow, Int.reduceEq, Int.reduceLT, Int.reduceLE, Int.reduceGT, Int.reduceGE, Int.reduceAdd, Int.reduceSub, Int.reduceNeg, Int.reduceToNat])
        | with_reducible refine a_block ?_
        | with_reducible refine a_ret ?_
        | with_reducible refine a_exit ?_
        | with_reducible refine a_skip ?_
        | with_reducible exact ConfOk.mk (by kernel_rfl)
        | (with_reducible refine eqT_of (eq33 _ _ _ _ _ _) ?_; simp)
        | (with_reducible refine eqT_of (eq35 _ _ _ _ _ _ _ _) ?_; simp)
        | ((fail_if_success with_reducible show False); with_reducible apply_assumption (exfalso := false) (symm := false) only [*, rfl, trivial, congrArg])
        | with_reducible refine And.intro ?_ ?_
        | (intro h; contradiction)
        | (intro h; subst h)
        | intro h
        | simp (maxSteps := 10000000) (implicitDefEqProofs := false) only [go_sem, Outv.enc,  ↓reduceIte, reduceCtorEq, Nat.reduceAdd, Nat.reduceSub, Nat.reduceLeDiff, Nat.reduceEqDiff, Nat.reduceMul, Nat.reduceLT, Nat.reducePow, Int.reduceEq, Int.reduceLT, Int.reduceLE, Int.reduceGT, Int.reduceGE, Int.reduceAdd, Int.reduceSub, Int.reduceNeg, Int.reduceToNat])
    all_goals simp [opB, boolO, boolV]
  · refine acalls_k Tryz.func36 rfl (by kernel_rfl) (congrArg Array.toList Tryz.results36) Tryz.ntmps36 ?_
    intro R hR
    simp only [st0, List.length_cons, List.length_nil, Nat.reduceAdd, Nat.reduceSub, List.replicate_succ, List.replicate_zero, List.cons_append, List.nil_append]
    repeat' (first
        | (with_reducible refine a_seq_k ?_; intro K hK)
        | ((first | with_reducible refine a_region (by kernel_rfl) ?_ | (with_reducible refine a_draw mixed (by kernel_rfl) ?_; intro C hC) | (with_reducible refine a_cond_k ?_; intro X Y hX hY) | with_reducible refine RetOk.mk ?_ | with_reducible refine CallS.intro (h1) ?_ | with_reducible refine CallD.intro (h1) ?_ | with_reducible refine CallS.intro (ref_oBool _) ?_ | with_reducible refine CallD.intro (ref_oBool _) ?_); simp (maxSteps := 10000000) (implicitDefEqProofs := false) only [go_sem, Outv.enc,  ↓reduceIte, reduceCtorEq, Nat.reduceAdd, Nat.reduceSub, Nat.reduceLeDiff, Nat.reduceEqDiff, Nat.reduceMul, Nat.reduceLT, Nat.reducePow, Int.reduceEq, Int.reduceLT, Int.reduceLE, Int.reduceGT, Int.reduceGE, Int.reduceAdd, Int.reduceSub, Int.reduceNeg, Int.reduceToNat])
        | with_reducible refine a_block ?_
        | with_reducible refine a_ret ?_
        | with_reducible refine a_exit ?_
        | with_reducible refine a_skip ?_
        | with_reducible exact ConfOk.mk (by kernel_rfl)
        | (with_reducible refine eqT_of (eq33 _ _ _ _ _ _) ?_; simp)
        | (with_reducible refine eqT_of (eq35 _ _ _ _ _ _ _ _) ?_; simp)
        | ((fail_if_success with_reducible show False); with_reducible apply_assumption (exfalso := false) (symm := false) only [*, rfl, trivial, congrArg])
        | with_reducible refine And.intro ?_ ?_
        | (intro h; contradiction)
        | (intro h; subst h)
        | intro h
        | simp (maxSteps := 10000000) (implicitDefEqProofs := false) only [go_sem, Outv.enc,  ↓reduceIte, reduceCtorEq, Nat.reduceAdd, Nat.reduceSub, Nat.reduceLeDiff, Nat.reduceEqDiff, Nat.reduceMul, Nat.reduceLT, Nat.reducePow, Int.reduceEq, Int.reduceLT, Int.reduceLE, Int.reduceGT, Int.reduceGE, Int.reduceAdd, Int.reduceSub, Int.reduceNeg, Int.reduceToNat])
    all_goals simp [opB, boolO, boolV]
  · refine acalls_k Tryz.func36 rfl (by kernel_rfl) (congrArg Array.toList Tryz.results36) Tryz.ntmps36 ?_
    intro R hR
    simp only [st0, List.length_cons, List.length_nil, Nat.reduceAdd, Nat.reduceSub, List.replicate_succ, List.replicate_zero, List.cons_append, List.nil_append]
    repeat' (first
        | (with_reducible refine a_seq_k ?_; intro K hK)
        | ((first | with_reducible refine a_region (by kernel_rfl) ?_ | (with_reducible refine a_draw mixed (by kernel_rfl) ?_; intro C hC) | (with_reducible refine a_cond_k ?_; intro X Y hX hY) | with_reducible refine RetOk.mk ?_ | with_reducible refine CallS.intro (h1) ?_ | with_reducible refine CallD.intro (h1) ?_ | with_reducible refine CallS.intro (ref_oBool _) ?_ | with_reducible refine CallD.intro (ref_oBool _) ?_); simp (maxSteps := 10000000) (implicitDefEqProofs := false) only [go_sem, Outv.enc,  ↓reduceIte, reduceCtorEq, Nat.reduceAdd, Nat.reduceSub, Nat.reduceLeDiff, Nat.reduceEqDiff, Nat.reduceMul, Nat.reduceLT, Nat.reducePow, Int.reduceEq, Int.reduceLT, Int.reduceLE, Int.reduceGT, Int.reduceGE, Int.reduceAdd, Int.reduceSub, Int.reduceNeg, Int.reduceToNat])
        | with_reducible refine a_block ?_
        | with_reducible refine a_ret ?_
        | with_reducible refine a_exit ?_
        | with_reducible refine a_skip ?_
        | with_reducible exact ConfOk.mk (by kernel_rfl)
        | (with_reducible refine eqT_of (eq33 _ _ _ _ _ _) ?_; simp)
        | (with_reducible refine eqT_of (eq35 _ _ _ _ _ _ _ _) ?_; simp)
        | ((fail_if_success with_reducible show False); with_reducible apply_assumption (exfalso := false) (symm := false) only [*, rfl, trivial, congrArg])
        | with_reducible refine And.intro ?_ ?_
        | (intro h; contradiction)
        | (intro h; subst h)
        | intro h
        | simp (maxSteps := 10000000) (implicitDefEqProofs := false) only [go_sem, Outv.enc,  ↓reduceIte, reduceCtorEq, Nat.reduceAdd, Nat.reduceSub, Nat.reduceLeDiff, Nat.reduceEqDiff, Nat.reduceMul, Nat.reduceLT, Nat.reducePow, Int.reduceEq, Int.reduceLT, Int.reduceLE, Int.reduceGT, Int.reduceGE, Int.reduceAdd, Int.reduceSub, Int.reduceNeg, Int.reduceToNat])
    all_goals simp [opB, boolO, boolV]
  · refine acalls_k Tryz.func36 rfl (by kernel_rfl) (congrArg Array.toList Tryz.results36) Tryz.ntmps36 ?_
    intro R hR
    simp only [st0, List.length_cons, List.length_nil, Nat.reduceAdd, Nat.reduceSub, List.replicate_succ, List.replicate_zero, List.cons_append, List.nil_append]
    repeat' (first
        | (with_reducible refine a_seq_k ?_; intro K hK)
        | ((first | with_reducible refine a_region (by kernel_rfl) ?_ | (with_reducible refine a_draw mixed (by kernel_rfl) ?_; intro C hC) | (with_reducible refine a_cond_k ?_; intro X Y hX hY) | with_reducible refine RetOk.mk ?_ | with_reducible refine CallS.intro (h1) ?_ | with_reducible refine CallD.intro (h1) ?_ | with_reducible refine CallS.intro (ref_oBool _) ?_ | with_reducible refine CallD.intro (ref_oBool _) ?_); simp (maxSteps := 10000000) (implicitDefEqProofs := false) only [go_sem, Outv.enc,  ↓reduceIte, reduceCtorEq, Nat.reduceAdd, Nat.reduceSub, Nat.reduceLeDiff, Nat.reduceEqDiff, Nat.reduceMul, Nat.reduceLT, Nat.reducePow, Int.reduceEq, Int.reduceLT, Int.reduceLE, Int.reduceGT, Int.reduceGE, Int.reduceAdd, Int.reduceSub, Int.reduceNeg, Int.reduceToNat])
        | with_reducible refine a_block ?_
        | with_reducible refine a_ret ?_
        | with_reducible refine a_exit ?_
        | with_reducible refine a_skip ?_
        | with_reducible exact ConfOk.mk (by kernel_rfl)
        | (with_reducible refine eqT_of (eq33 _ _ _ _ _ _) ?_; simp)
        | (with_reducible refine eqT_of (eq35 _ _ _ _ _ _ _ _) ?_; simp)
        | ((fail_if_success with_reducible show False); with_reducible apply_assumption (exfalso := false) (symm := false) only [*, rfl, trivial, congrArg])
        | with_reducible refine And.intro ?_ ?_
        | (intro h; contradiction)
        | (intro h; subst h)
        | intro h
        | simp (maxSteps := 10000000) (implicitDefEqProofs := false) only [go_sem, Outv.enc,  ↓reduceIte, reduceCtorEq, Nat.reduceAdd, Nat.reduceSub, Nat.reduceLeDiff, Nat.reduceEqDiff, Nat.reduceMul, Nat.reduceLT, Nat.reducePow, Int.reduceEq, Int.reduceLT, Int.reduceLE, Int.reduceGT, Int.reduceGE, Int.reduceAdd, Int.reduceSub, Int.reduceNeg, Int.reduceToNat])
    all_goals simp [opB, boolO, boolV]
  · refine acalls_k Tryz.func36 rfl (by kernel_rfl) (congrArg Array.toList Tryz.results36) Tryz.ntmps36 ?_
    intro R hR
    simp only [st0, List.length_cons, List.length_nil, Nat.reduceAdd, Nat.reduceSub, List.replicate_succ, List.replicate_zero, List.cons_append, List.nil_append]
    repeat' (first
        | (with_reducible refine a_seq_k ?_; intro K hK)
        | ((first | with_reducible refine a_region (by kernel_rfl) ?_ | (with_reducible refine a_draw mixed (by kernel_rfl) ?_; intro C hC) | (with_reducible refine a_cond_k ?_; intro X Y hX hY) | with_reducible refine RetOk.mk ?_ | with_reducible refine CallS.intro (h1) ?_ | with_reducible refine CallD.intro (h1) ?_ | with_reducible refine CallS.intro (ref_oBool _) ?_ | with_reducible refine CallD.intro (ref_oBool _) ?_); simp (maxSteps := 10000000) (implicitDefEqProofs := false) only [go_sem, Outv.enc,  ↓reduceIte, reduceCtorEq, Nat.reduceAdd, Nat.reduceSub, Nat.reduceLeDiff, Nat.reduceEqDiff, Nat.reduceMul, Nat.reduceLT, Nat.reducePow, Int.reduceEq, Int.reduceLT, Int.reduceLE, Int.reduceGT, Int.reduceGE, Int.reduceAdd, Int.reduceSub, Int.reduceNeg, Int.reduceToNat])
        | with_reducible refine a_block ?_
        | with_reducible refine a_ret ?_
        | with_reducible refine a_exit ?_
        | with_reducible refine a_skip ?_
        | with_reducible exact ConfOk.mk (by kernel_rfl)
        | (with_reducible refine eqT_of (eq33 _ _ _ _ _ _) ?_; simp)
        | (with_reducible refine eqT_of (eq35 _ _ _ _ _ _ _ _) ?_; simp)
        | ((fail_if_success with_reducible show False); with_reducible apply_assumption (exfalso := false) (symm := false) only [*, rfl, trivial, congrArg])
        | with_reducible refine And.intro ?_ ?_
        | (intro h; contradiction)
        | (intro h; subst h)
        | intro h
        | simp (maxSteps := 10000000) (implicitDefEqProofs := false) only [go_sem, Outv.enc,  ↓reduceIte, reduceCtorEq, Nat.reduceAdd, Nat.reduceSub, Nat.reduceLeDiff, Nat.reduceEqDiff, Nat.reduceMul, Nat.reduceLT, Nat.reducePow, Int.reduceEq, Int.reduceLT, Int.reduceLE, Int.reduceGT, Int.reduceGE, Int.reduceAdd, Int.reduceSub, Int.reduceNeg, Int.reduceToNat])
    all_goals simp [opB, boolO, boolV]
end Go.Proofs.YtmlaogjndaeihaaGreatDoor
end

section
namespace Go.Proofs.YtmlaogjndaeihaaGreatDoor
open Go Go.Ab
attribute [local go_sem ↓] parts_tt parts_ff parts_tf parts_ft
attribute [local go_sem] parts_eq learnT aops_nil aops_cons aopsD_nil aopsD_cons stepS stepD gval St.learn skipR St.after putτ applyUpd List.foldl_cons List.foldl_nil pureOp memOp callOf litA closeO closeK List.flatMap_cons List.flatMap_nil Option.map_none decide_false opnd ofConst leaf binA unA lenA indexA indexAddrA fieldAddrA fieldA sliceA convertA pickV fillA placeS cellsA setA partA loadM storeM appendM srcEls lookBox lookRow lookMap closeL closeV scalarB scalarL killed buildEls lookupA leafEq eqAll resA resL tupA retA thenA blockA isInt loA hiA foldA maxA minA okSize leafB closedB Res.foot List.getD_cons_zero List.getD_cons_succ List.set_cons_zero List.set_cons_succ List.map_cons List.map_nil List.append_nil List.nil_append List.cons_append List.length_cons List.length_nil List.take_succ_cons List.take_zero List.drop_succ_cons List.drop_zero List.take_nil List.drop_nil List.all_cons List.all_nil List.getElem?_toArray List.getElem?_cons_zero List.getElem?_cons_succ Option.bind_some Option.map_some true_and and_true true_implies ne_eq not_true_eq_false not_false_eq_true Bool.true_eq_false Bool.false_eq_true Bool.not_true Bool.not_false decide_eq_true_eq decide_eq_false_iff_not false_implies implies_true and_self ite_true ite_false cond_true cond_false Option.some.injEq List.reverse_cons List.reverse_nil Bool.and_self Bool.true_and Bool.and_true Bool.false_and Bool.and_false Bool.or_true Bool.true_or Bool.or_false Bool.false_or Bool.not_eq_eq_eq_not Bool.not_not Bool.or_self beq_self_eq_true and_false false_and or_true true_or or_false false_or not_true not_false_iff Decidable.not_not lookT lookR tabT tabR Int.toNat_natCast List.length_map List.map_append List.length_append decide_true decide_false tmod2 List.mem_singleton forall_eq elOk1 elOk3 elOk4 castn0 castn1 castn2 castn3 getD_mid getD_mid_map at_lt at_end mid_lt mid_lt' nat_ge List.size_toArray Array.size_empty Nat.add_zero Nat.zero_add
attribute [local irreducible] ASpec ACalls retA ti EqT
set_option linter.unusedSimpArgs false
set_option maxHeartbeats 4000000
set_option maxRecDepth 100000
set_option linter.unusedVariables false
attribute [local go_sem] ti2 ti3 ti4 ti5 ti9 ti21 ti22 ti23 ti24 ti26 ti27 ti29 ti41 ti47 ti49 ti56 ti59 ti63 ti67 ti71 ti75 ti78 ti79 ti80 ti86 ti90 ti110
theorem ref_strict5 (x y : Val) (hi : In64 x.int) (hj : In64 y.int) : ACalls Tryz.prog 20 [.int .u8 5, outs [⟨x, 0⟩, ⟨y, 0⟩]] (.agg (strictO 5 x y false).enc) := by
  have h1 := ref_number5 x y hi hj
  rw [show strictO 5 x y false = numO (arI2 5 x.int y.int) from rfl]
  generalize numO (arI2 5 x.int y.int) = r at h1
  simp only [outs, Outv.enc, List.map_cons, List.map_nil] at h1
  refine acalls_k Tryz.func20 rfl (by kernel_rfl) (congrArg Array.toList Tryz.results20) Tryz.ntmps20 ?_
  intro R hR
  simp only [st0, List.length_cons, List.length_nil, Nat.reduceAdd, Nat.reduceSub, List.replicate_succ, List.replicate_zero, List.cons_append, List.nil_append]
  repeat' (first
      | (with_reducible refine a_seq_k ?_; intro K hK)
      | ((first | with_reducible refine a_region (by kernel_rfl) ?_ | (with_reducible refine a_draw mixed (by kernel_rfl) ?_; intro C hC) | (with_reducible refine a_cond_k ?_; intro X Y hX hY) | with_reducible refine RetOk.mk ?_ | with_reducible refine CallS.intro (h1) ?_ | with_reducible refine CallD.intro (h1) ?_); simp (maxSteps := 10000000) (implicitDefEqProofs := false) only [go_sem, Outv.enc, outs,  ↓reduceIte, reduceCtorEq, Nat.reduceAdd, Nat.reduceSub, Nat.reduceLeDiff, Nat.reduceEqDiff, Nat.reduceMul, Nat.reduceLT, Nat.reducePow, Int.reduceEq, Int.reduceLT, Int.reduceLE, Int.reduceGT, Int.reduceGE, Int.reduceAdd, Int.reduceSub, Int.reduceNeg, Int.reduceToNat])
      | with_reducible refine a_block ?_
      | with_reducible refine a_ret ?_
      | with_reducible refine a_exit ?_
      | with_reducible refine a_skip ?_
      | with_reducible exact ConfOk.mk (by kernel_rfl)
      | (with_reducible refine eqT_of (eq33 _ _ _ _ _ _) ?_; simp)
      | (with_reducible refine eqT_of (eq35 _ _ _ _ _ _ _ _) ?_; simp)
      | ((fail_if_success with_reducible show False); with_reducible apply_assumption (exfalso := false) (symm := false) only [*, rfl, trivial, congrArg])
      | with_reducible refine And.intro ?_ ?_
      | (intro h; contradiction)
      | (intro h; subst h)
      | intro h
      | simp (maxSteps := 10000000) (implicitDefEqProofs := false) only [go_sem, Outv.enc, outs,  ↓reduceIte, reduceCtorEq, Nat.reduceAdd, Nat.reduceSub, Nat.reduceLeDiff, Nat.reduceEqDiff, Nat.reduceMul, Nat.reduceLT, Nat.reducePow, Int.reduceEq, Int.reduceLT, Int.reduceLE, Int.reduceGT, Int.reduceGE, Int.reduceAdd, Int.reduceSub, Int.reduceNeg, Int.reduceToNat])
theorem ref_strict6 (x y : Val) (hi : In64 x.int) (hj : In64 y.int) : ACalls Tryz.prog 20 [.int .u8 6, outs [⟨x, 0⟩, ⟨y, 0⟩]] (.agg (strictO 6 x y false).enc) := by
  have h1 := ref_number6 x y hi hj
  rw [show strictO 6 x y false = numO (arI2 6 x.int y.int) from rfl]
  generalize numO (arI2 6 x.int y.int) = r at h1
  simp only [outs, Outv.enc, List.map_cons, List.map_nil] at h1
  refine acalls_k Tryz.func20 rfl (by kernel_rfl) (congrArg Array.toList Tryz.results20) Tryz.ntmps20 ?_
  intro R hR
  simp only [st0, List.length_cons, List.length_nil, Nat.reduceAdd, Nat.reduceSub, List.replicate_succ, List.replicate_zero, List.cons_append, List.nil_append]
  repeat' (first
      | (with_reducible refine a_seq_k ?_; intro K hK)
      | ((first | with_reducible refine a_region (by kernel_rfl) ?_ | (with_reducible refine a_draw mixed (by kernel_rfl) ?_; intro C hC) | (with_reducible refine a_cond_k ?_; intro X Y hX hY) | with_reducible refine RetOk.mk ?_ | with_reducible refine CallS.intro (h1) ?_ | with_reducible refine CallD.intro (h1) ?_); simp (maxSteps := 10000000) (implicitDefEqProofs := false) only [go_sem, Outv.enc, outs,  ↓reduceIte, reduceCtorEq, Nat.reduceAdd, Nat.reduceSub, Nat.reduceLeDiff, Nat.reduceEqDiff, Nat.reduceMul, Nat.reduceLT, Nat.reducePow, Int.reduceEq, Int.reduceLT, Int.reduceLE, Int.reduceGT, Int.reduceGE, Int.reduceAdd, Int.reduceSub, Int.reduceNeg, Int.reduceToNat])
      | with_reducible refine a_block ?_
      | with_reducible refine a_ret ?_
      | with_reducible refine a_exit ?_
      | with_reducible refine a_skip ?_
      | with_reducible exact ConfOk.mk (by kernel_rfl)
      | (with_reducible refine eqT_of (eq33 _ _ _ _ _ _) ?_; simp)
      | (with_reducible refine eqT_of (eq35 _ _ _ _ _ _ _ _) ?_; simp)
      | ((fail_if_success with_reducible show False); with_reducible apply_assumption (exfalso := false) (symm := false) only [*, rfl, trivial, congrArg])
      | with_reducible refine And.intro ?_ ?_
      | (intro h; contradiction)
      | (intro h; subst h)
      | intro h
      | simp (maxSteps := 10000000) (implicitDefEqProofs := false) only [go_sem, Outv.enc, outs,  ↓reduceIte, reduceCtorEq, Nat.reduceAdd, Nat.reduceSub, Nat.reduceLeDiff, Nat.reduceEqDiff, Nat.reduceMul, Nat.reduceLT, Nat.reducePow, Int.reduceEq, Int.reduceLT, Int.reduceLE, Int.reduceGT, Int.reduceGE, Int.reduceAdd, Int.reduceSub, Int.reduceNeg, Int.reduceToNat])
theorem ref_strict7 (x y : Val) (hi : In64 x.int) (hj : In64 y.int) : ACalls Tryz.prog 20 [.int .u8 7, outs [⟨x, 0⟩, ⟨y, 0⟩]] (.agg (strictO 7 x y false).enc) := by
  have h1 := ref_number7 x y hi hj
  rw [show strictO 7 x y false = numO (arI2 7 x.int y.int) from rfl]
  generalize numO (arI2 7 x.int y.int) = r at h1
  simp only [outs, Outv.enc, List.map_cons, List.map_nil] at h1
  refine acalls_k Tryz.func20 rfl (by kernel_rfl) (congrArg Array.toList Tryz.results20) Tryz.ntmps20 ?_
  intro R hR
  simp only [st0, List.length_cons, List.length_nil, Nat.reduceAdd, Nat.reduceSub, List.replicate_succ, List.replicate_zero, List.cons_append, List.nil_append]
  repeat' (first
      | (with_reducible refine a_seq_k ?_; intro K hK)
      | ((first | with_reducible refine a_region (by kernel_rfl) ?_ | (with_reducible refine a_draw mixed (by kernel_rfl) ?_; intro C hC) | (with_reducible refine a_cond_k ?_; intro X Y hX hY) | with_reducible refine RetOk.mk ?_ | with_reducible refine CallS.intro (h1) ?_ | with_reducible refine CallD.intro (h1) ?_); simp (maxSteps := 10000000) (implicitDefEqProofs := false) only [go_sem, Outv.enc, outs,  ↓reduceIte, reduceCtorEq, Nat.reduceAdd, Nat.reduceSub, Nat.reduceLeDiff, Nat.reduceEqDiff, Nat.reduceMul, Nat.reduceLT, Nat.reducePow, Int.reduceEq, Int.reduceLT, Int.reduceLE, Int.reduceGT, Int.reduceGE, Int.reduceAdd, Int.reduceSub, Int.reduceNeg, Int.reduceToNat])
      | with_reducible refine a_block ?_
      | with_reducible refine a_ret ?_
      | with_reducible refine a_exit ?_
      | with_reducible refine a_skip ?_
      | with_reducible exact ConfOk.mk (by kernel_rfl)
      | (with_reducible refine eqT_of (eq33 _ _ _ _ _ _) ?_; simp)
      | (with_reducible refine eqT_of (eq35 _ _ _ _ _ _ _ _) ?_; simp)
      | ((fail_if_success with_reducible show False); with_reducible apply_assumption (exfalso := false) (symm := false) only [*, rfl, trivial, congrArg])
      | with_reducible refine And.intro ?_ ?_
      | (intro h; contradiction)
      | (intro h; subst h)
      | intro h
      | simp (maxSteps := 10000000) (implicitDefEqProofs := false) only [go_sem, Outv.enc, outs,  ↓reduceIte, reduceCtorEq, Nat.reduceAdd, Nat.reduceSub, Nat.reduceLeDiff, Nat.reduceEqDiff, Nat.reduceMul, Nat.reduceLT, Nat.reducePow, Int.reduceEq, Int.reduceLT, Int.reduceLE, Int.reduceGT, Int.reduceGE, Int.reduceAdd, Int.reduceSub, Int.reduceNeg, Int.reduceToNat])
theorem ref_strict8 (x y : Val) (hi : In64 x.int) (hj : In64 y.int) : ACalls Tryz.prog 20 [.int .u8 8, outs [⟨x, 0⟩, ⟨y, 0⟩]] (.agg (strictO 8 x y false).enc) := by
  have h1 := ref_number8 x y hi hj
  rw [show strictO 8 x y false = numO (arI2 8 x.int y.int) from rfl]
  generalize numO (arI2 8 x.int y.int) = r at h1
  simp only [outs, Outv.enc, List.map_cons, List.map_nil] at h1
  refine acalls_k Tryz.func20 rfl (by kernel_rfl) (congrArg Array.toList Tryz.results20) Tryz.ntmps20 ?_
  intro R hR
  simp only [st0, List.length_cons, List.length_nil, Nat.reduceAdd, Nat.reduceSub, List.replicate_succ, List.replicate_zero, List.cons_append, List.nil_append]
  repeat' (first
      | (with_reducible refine a_seq_k ?_; intro K hK)
      | ((first | with_reducible refine a_region (by kernel_rfl) ?_ | (with_reducible refine a_draw mixed (by kernel_rfl) ?_; intro C hC) | (with_reducible refine a_cond_k ?_; intro X Y hX hY) | with_reducible refine RetOk.mk ?_ | with_reducible refine CallS.intro (h1) ?_ | with_reducible refine CallD.intro (h1) ?_); simp (maxSteps := 10000000) (implicitDefEqProofs := false) only [go_sem, Outv.enc, outs,  ↓reduceIte, reduceCtorEq, Nat.reduceAdd, Nat.reduceSub, Nat.reduceLeDiff, Nat.reduceEqDiff, Nat.reduceMul, Nat.reduceLT, Nat.reducePow, Int.reduceEq, Int.reduceLT, Int.reduceLE, Int.reduceGT, Int.reduceGE, Int.reduceAdd, Int.reduceSub, Int.reduceNeg, Int.reduceToNat])
      | with_reducible refine a_block ?_
      | with_reducible refine a_ret ?_
      | with_reducible refine a_exit ?_
      | with_reducible refine a_skip ?_
      | with_reducible exact ConfOk.mk (by kernel_rfl)
      | (with_reducible refine eqT_of (eq33 _ _ _ _ _ _) ?_; simp)
      | (with_reducible refine eqT_of (eq35 _ _ _ _ _ _ _ _) ?_; simp)
      | ((fail_if_success with_reducible show False); with_reducible apply_assumption (exfalso := false) (symm := false) only [*, rfl, trivial, congrArg])
      | with_reducible refine And.intro ?_ ?_
      | (intro h; contradiction)
      | (intro h; subst h)
      | intro h
      | simp (maxSteps := 10000000) (implicitDefEqProofs := false) only [go_sem, Outv.enc, outs,  ↓reduceIte, reduceCtorEq, Nat.reduceAdd, Nat.reduceSub, Nat.reduceLeDiff, Nat.reduceEqDiff, Nat.reduceMul, Nat.reduceLT, Nat.reducePow, Int.reduceEq, Int.reduceLT, Int.reduceLE, Int.reduceGT, Int.reduceGE, Int.reduceAdd, Int.reduceSub, Int.reduceNeg, Int.reduceToNat])
theorem ref_strict9 (x y : Val) (hi : In64 x.int) (hj : In64 y.int) : ACalls Tryz.prog 20 [.int .u8 9, outs [⟨x, 0⟩, ⟨y, 0⟩]] (.agg (strictO 9 x y false).enc) := by
  have h1 := ref_number9 x y hi hj
  rw [show strictO 9 x y false = numO (arI2 9 x.int y.int) from rfl]
  generalize numO (arI2 9 x.int y.int) = r at h1
  simp only [outs, Outv.enc, List.map_cons, List.map_nil] at h1
  refine acalls_k Tryz.func20 rfl (by kernel_rfl) (congrArg Array.toList Tryz.results20) Tryz.ntmps20 ?_
  intro R hR
  simp only [st0, List.length_cons, List.length_nil, Nat.reduceAdd, Nat.reduceSub, List.replicate_succ, List.replicate_zero, List.cons_append, List.nil_append]
  repeat' (first
      | (with_reducible refine a_seq_k ?_; intro K hK)
      | ((first | with_reducible refine a_region (by kernel_rfl) ?_ | (with_reducible refine a_draw mixed (by kernel_rfl) ?_; intro C hC) | (with_reducible refine a_cond_k ?_; intro X Y hX hY) | with_reducible refine RetOk.mk ?_ | with_reducible refine CallS.intro (h1) ?_ | with_reducible refine CallD.intro (h1) ?_); simp (maxSteps := 10000000) (implicitDefEqProofs := false) only [go_sem, Outv.enc, outs,  ↓reduceIte, reduceCtorEq, Nat.reduceAdd, Nat.reduceSub, Nat.reduceLeDiff, Nat.reduceEqDiff, Nat.reduceMul, Nat.reduceLT, Nat.reducePow, Int.reduceEq, Int.reduceLT, Int.reduceLE, Int.reduceGT, Int.reduceGE, Int.reduceAdd, Int.reduceSub, Int.reduceNeg, Int.reduceToNat])
      | with_reducible refine a_block ?_
      | with_reducible refine a_ret ?_
      | with_reducible refine a_exit ?_
      | with_reducible refine a_skip ?_
      | with_reducible exact ConfOk.mk (by kernel_rfl)
      | (with_reducible refine eqT_of (eq33 _ _ _ _ _ _) ?_; simp)
      | (with_reducible refine eqT_of (eq35 _ _ _ _ _ _ _ _) ?_; simp)
      | ((fail_if_success with_reducible show False); with_reducible apply_assumption (exfalso := false) (symm := false) only [*, rfl, trivial, congrArg])
      | with_reducible refine And.intro ?_ ?_
      | (intro h; contradiction)
      | (intro h; subst h)
      | intro h
      | simp (maxSteps := 10000000) (implicitDefEqProofs := false) only [go_sem, Outv.enc, outs,  ↓reduceIte, reduceCtorEq, Nat.reduceAdd, Nat.reduceSub, Nat.reduceLeDiff, Nat.reduceEqDiff, Nat.reduceMul, Nat.reduceLT, Nat.reducePow, Int.reduceEq, Int.reduceLT, Int.reduceLE, Int.reduceGT, Int.reduceGE, Int.reduceAdd, Int.reduceSub, Int.reduceNeg, Int.reduceToNat])
theorem ref_strict4 (x : Val) (hi : In64 x.int) : ACalls Tryz.prog 20 [.int .u8 4, outs [⟨x, 0⟩]] (.agg (strictO 4 x x false).enc) := by
  have h1 := ref_number4 x hi
  rw [show strictO 4 x x false = numO (arI (0 - x.int)) from rfl]
  generalize numO (arI (0 - x.int)) = r at h1
  simp only [outs, Outv.enc, List.map_cons, List.map_nil] at h1
  refine acalls_k Tryz.func20 rfl (by kernel_rfl) (congrArg Array.toList Tryz.results20) Tryz.ntmps20 ?_
  intro R hR
  simp only [st0, List.length_cons, List.length_nil, Nat.reduceAdd, Nat.reduceSub, List.replicate_succ, List.replicate_zero, List.cons_append, List.nil_append]
  repeat' (first
      | (with_reducible refine a_seq_k ?_; intro K hK)
      | ((first | with_reducible refine a_region (by kernel_rfl) ?_ | (with_reducible refine a_draw mixed (by kernel_rfl) ?_; intro C hC) | (with_reducible refine a_cond_k ?_; intro X Y hX hY) | with_reducible refine RetOk.mk ?_ | with_reducible refine CallS.intro (h1) ?_ | with_reducible refine CallD.intro (h1) ?_); simp (maxSteps := 10000000) (implicitDefEqProofs := false) only [go_sem, Outv.enc, outs,  ↓reduceIte, reduceCtorEq, Nat.reduceAdd, Nat.reduceSub, Nat.reduceLeDiff, Nat.reduceEqDiff, Nat.reduceMul, Nat.reduceLT, Nat.reducePow, Int.reduceEq, Int.reduceLT, Int.reduceLE, Int.reduceGT, Int.reduceGE, Int.reduceAdd, Int.reduceSub, Int.reduceNeg, Int.reduceToNat])
      | with_reducible refine a_block ?_
      | with_reducible refine a_ret ?_
      | with_reducible refine a_exit ?_
      | with_reducible refine a_skip ?_
      | with_reducible exact ConfOk.mk (by kernel_rfl)
      | (with_reducible refine eqT_of (eq33 _ _ _ _ _ _) ?_; simp)
      | (with_reducible refine eqT_of (eq35 _ _ _ _ _ _ _ _) ?_; simp)
      | ((fail_if_success with_reducible show False); with_reducible apply_assumption (exfalso := false) (symm := false) only [*, rfl, trivial, congrArg])
      | with_reducible refine And.intro ?_ ?_
      | (intro h; contradiction)
      | (intro h; subst h)
      | intro h
      | simp (maxSteps := 10000000) (implicitDefEqProofs := false) only [go_sem, Outv.enc, outs,  ↓reduceIte, reduceCtorEq, Nat.reduceAdd, Nat.reduceSub, Nat.reduceLeDiff, Nat.reduceEqDiff, Nat.reduceMul, Nat.reduceLT, Nat.reducePow, Int.reduceEq, Int.reduceLT, Int.reduceLE, Int.reduceGT, Int.reduceGE, Int.reduceAdd, Int.reduceSub, Int.reduceNeg, Int.reduceToNat])
theorem ref_strict10 (x y : Val) (hs : x.text.size + y.text.size < 2 ^ 62) : ACalls Tryz.prog 20 [.int .u8 10, outs [⟨x, 0⟩, ⟨y, 0⟩]] (.agg (strictO 10 x y false).enc) := by
  have h1 := ref_Text (x.text ++ y.text)
  rw [show strictO 10 x y false = ⟨(textI (x.text ++ y.text)).1, (textI (x.text ++ y.text)).2⟩ from rfl]
  generalize textI (x.text ++ y.text) = r at h1
  have w1 : IntKind.i64.wrap 1 = 1 := rfl
  refine acalls_k Tryz.func20 rfl (by kernel_rfl) (congrArg Array.toList Tryz.results20) Tryz.ntmps20 ?_
  intro R hR
  simp only [st0, List.length_cons, List.length_nil, Nat.reduceAdd, Nat.reduceSub, List.replicate_succ, List.replicate_zero, List.cons_append, List.nil_append]
  repeat' (first
      | (with_reducible refine a_seq_k ?_; intro K hK)
      | ((first | with_reducible refine a_region (by kernel_rfl) ?_ | (with_reducible refine a_draw mixed (by kernel_rfl) ?_; intro C hC) | (with_reducible refine a_cond_k ?_; intro X Y hX hY) | with_reducible refine RetOk.mk ?_ | with_reducible refine CallS.intro (h1) ?_ | with_reducible refine CallD.intro (h1) ?_); simp (maxSteps := 10000000) (implicitDefEqProofs := false) only [go_sem, Outv.enc, outs, w1,  ↓reduceIte, reduceCtorEq, Nat.reduceAdd, Nat.reduceSub, Nat.reduceLeDiff, Nat.reduceEqDiff, Nat.reduceMul, Nat.reduceLT, Nat.reducePow, Int.reduceEq, Int.reduceLT, Int.reduceLE, Int.reduceGT, Int.reduceGE, Int.reduceAdd, Int.reduceSub, Int.reduceNeg, Int.reduceToNat])
      | with_reducible refine a_block ?_
      | with_reducible refine a_ret ?_
      | with_reducible refine a_exit ?_
      | with_reducible refine a_skip ?_
      | with_reducible exact ConfOk.mk (by kernel_rfl)
      | (with_reducible refine eqT_of (eq33 _ _ _ _ _ _) ?_; simp)
      | (with_reducible refine eqT_of (eq35 _ _ _ _ _ _ _ _) ?_; simp)
      | ((fail_if_success with_reducible show False); with_reducible apply_assumption (exfalso := false) (symm := false) only [*, rfl, trivial, congrArg])
      | with_reducible refine And.intro ?_ ?_
      | (intro h; contradiction)
      | (intro h; subst h)
      | intro h
      | simp (maxSteps := 10000000) (implicitDefEqProofs := false) only [go_sem, Outv.enc, outs, w1,  ↓reduceIte, reduceCtorEq, Nat.reduceAdd, Nat.reduceSub, Nat.reduceLeDiff, Nat.reduceEqDiff, Nat.reduceMul, Nat.reduceLT, Nat.reducePow, Int.reduceEq, Int.reduceLT, Int.reduceLE, Int.reduceGT, Int.reduceGE, Int.reduceAdd, Int.reduceSub, Int.reduceNeg, Int.reduceToNat])
  all_goals (show _ ≤ (9223372036854775807 : Int); omega)
theorem ref_strict11 (x : Val) (hs : x.text.size < 2 ^ 62) : ACalls Tryz.prog 20 [.int .u8 11, outs [⟨x, 0⟩]] (.agg (strictO 11 x x false).enc) := by
  rw [show strictO 11 x x false = ⟨⟨1, x.text.size, emp⟩, 0⟩ from rfl]
  refine acalls_k Tryz.func20 rfl (by kernel_rfl) (congrArg Array.toList Tryz.results20) Tryz.ntmps20 ?_
  intro R hR
  simp only [st0, List.length_cons, List.length_nil, Nat.reduceAdd, Nat.reduceSub, List.replicate_succ, List.replicate_zero, List.cons_append, List.nil_append]
  repeat' (first
      | (with_reducible refine a_seq_k ?_; intro K hK)
      | ((first | with_reducible refine a_region (by kernel_rfl) ?_ | (with_reducible refine a_draw mixed (by kernel_rfl) ?_; intro C hC) | (with_reducible refine a_cond_k ?_; intro X Y hX hY) | with_reducible refine RetOk.mk ?_ | with_reducible refine CallS.intro (ref_Int _) ?_ | with_reducible refine CallD.intro (ref_Int _) ?_); simp (maxSteps := 10000000) (implicitDefEqProofs := false) only [go_sem, Outv.enc, outs,  ↓reduceIte, reduceCtorEq, Nat.reduceAdd, Nat.reduceSub, Nat.reduceLeDiff, Nat.reduceEqDiff, Nat.reduceMul, Nat.reduceLT, Nat.reducePow, Int.reduceEq, Int.reduceLT, Int.reduceLE, Int.reduceGT, Int.reduceGE, Int.reduceAdd, Int.reduceSub, Int.reduceNeg, Int.reduceToNat])
      | with_reducible refine a_block ?_
      | with_reducible refine a_ret ?_
      | with_reducible refine a_exit ?_
      | with_reducible refine a_skip ?_
      | with_reducible exact ConfOk.mk (by kernel_rfl)
      | (with_reducible refine eqT_of (eq33 _ _ _ _ _ _) ?_; simp)
      | (with_reducible refine eqT_of (eq35 _ _ _ _ _ _ _ _) ?_; simp)
      | ((fail_if_success with_reducible show False); with_reducible apply_assumption (exfalso := false) (symm := false) only [*, rfl, trivial, congrArg])
      | with_reducible refine And.intro ?_ ?_
      | (intro h; contradiction)
      | (intro h; subst h)
      | intro h
      | simp (maxSteps := 10000000) (implicitDefEqProofs := false) only [go_sem, Outv.enc, outs,  ↓reduceIte, reduceCtorEq, Nat.reduceAdd, Nat.reduceSub, Nat.reduceLeDiff, Nat.reduceEqDiff, Nat.reduceMul, Nat.reduceLT, Nat.reducePow, Int.reduceEq, Int.reduceLT, Int.reduceLE, Int.reduceGT, Int.reduceGE, Int.reduceAdd, Int.reduceSub, Int.reduceNeg, Int.reduceToNat])
theorem ref_strict19 (x y : Val) (hs : x.text.size < 2 ^ 40) (ht : y.text.size < 2 ^ 40) : ACalls Tryz.prog 20 [.int .u8 19, outs [⟨x, 0⟩, ⟨y, 0⟩]] (.agg (strictO 19 x y false).enc) := by
  have h1 := ref_Matches x.text y.text hs ht
  rw [show strictO 19 x y false = boolO (gm (LB y.text) (LB x.text)) from rfl]
  generalize gm (LB y.text) (LB x.text) = r at h1
  have w1 : IntKind.i64.wrap 1 = 1 := rfl
  refine acalls_k Tryz.func20 rfl (by kernel_rfl) (congrArg Array.toList Tryz.results20) Tryz.ntmps20 ?_
  intro R hR
  simp only [st0, List.length_cons, List.length_nil, Nat.reduceAdd, Nat.reduceSub, List.replicate_succ, List.replicate_zero, List.cons_append, List.nil_append]
  repeat' (first
      | (with_reducible refine a_seq_k ?_; intro K hK)
      | ((first | with_reducible refine a_region (by kernel_rfl) ?_ | (with_reducible refine a_draw mixed (by kernel_rfl) ?_; intro C hC) | (with_reducible refine a_cond_k ?_; intro X Y hX hY) | with_reducible refine RetOk.mk ?_ | with_reducible refine CallS.intro (h1) ?_ | with_reducible refine CallD.intro (h1) ?_ | with_reducible refine CallS.intro (ref_oBool _) ?_ | with_reducible refine CallD.intro (ref_oBool _) ?_); simp (maxSteps := 10000000) (implicitDefEqProofs := false) only [go_sem, Outv.enc, outs, w1,  ↓reduceIte, reduceCtorEq, Nat.reduceAdd, Nat.reduceSub, Nat.reduceLeDiff, Nat.reduceEqDiff, Nat.reduceMul, Nat.reduceLT, Nat.reducePow, Int.reduceEq, Int.reduceLT, Int.reduceLE, Int.reduceGT, Int.reduceGE, Int.reduceAdd, Int.reduceSub, Int.reduceNeg, Int.reduceToNat])
      | with_reducible refine a_block ?_
      | with_reducible refine a_ret ?_
      | with_reducible refine a_exit ?_
      | with_reducible refine a_skip ?_
      | with_reducible exact ConfOk.mk (by kernel_rfl)
      | (with_reducible refine eqT_of (eq33 _ _ _ _ _ _) ?_; simp)
      | (with_reducible refine eqT_of (eq35 _ _ _ _ _ _ _ _) ?_; simp)
      | ((fail_if_success with_reducible show False); with_reducible apply_assumption (exfalso := false) (symm := false) only [*, rfl, trivial, congrArg])
      | with_reducible refine And.intro ?_ ?_
      | (intro h; contradiction)
      | (intro h; subst h)
      | intro h
      | simp (maxSteps := 10000000) (implicitDefEqProofs := false) only [go_sem, Outv.enc, outs, w1,  ↓reduceIte, reduceCtorEq, Nat.reduceAdd, Nat.reduceSub, Nat.reduceLeDiff, Nat.reduceEqDiff, Nat.reduceMul, Nat.reduceLT, Nat.reducePow, Int.reduceEq, Int.reduceLT, Int.reduceLE, Int.reduceGT, Int.reduceGE, Int.reduceAdd, Int.reduceSub, Int.reduceNeg, Int.reduceToNat])
theorem ref_strict22 (x : Val) (h3 : x.kind = 3) (hn : x.int = 0 ∨ x.int = 1) (hs : x.text = emp) : ACalls Tryz.prog 20 [.int .u8 22, outs [⟨x, 0⟩]] (.agg (strictO 22 x x false).enc) := by
  obtain ⟨k, n, s⟩ := x
  simp only at h3 hn hs
  subst h3 hs
  rcases hn with rfl | rfl
  · rw [show strictO 22 ⟨3, 0, emp⟩ ⟨3, 0, emp⟩ false = boolO true from rfl]
    refine acalls_k Tryz.func20 rfl (by kernel_rfl) (congrArg Array.toList Tryz.results20) Tryz.ntmps20 ?_
    intro R hR
    simp only [st0, List.length_cons, List.length_nil, Nat.reduceAdd, Nat.reduceSub, List.replicate_succ, List.replicate_zero, List.cons_append, List.nil_append]
    repeat' (first
        | (with_reducible refine a_seq_k ?_; intro K hK)
        | ((first | with_reducible refine a_region (by kernel_rfl) ?_ | (with_reducible refine a_draw mixed (by kernel_rfl) ?_; intro C hC) | (with_reducible refine a_cond_k ?_; intro X Y hX hY) | with_reducible refine RetOk.mk ?_ | with_reducible refine CallS.intro (ref_isTrue _ _ _ _) ?_ | with_reducible refine CallD.intro (ref_isTrue _ _ _ _) ?_ | with_reducible refine CallS.intro (ref_oBool _) ?_ | with_reducible refine CallD.intro (ref_oBool _) ?_); simp (maxSteps := 10000000) (implicitDefEqProofs := false) only [go_sem, Outv.enc, outs,  ↓reduceIte, reduceCtorEq, Nat.reduceAdd, Nat.reduceSub, Nat.reduceLeDiff, Nat.reduceEqDiff, Nat.reduceMul, Nat.reduceLT, Nat.reducePow, Int.reduceEq, Int.reduceLT, Int.reduceLE, Int.reduceGT, Int.reduceGE, Int.reduceAdd, Int.reduceSub, Int.reduceNeg, Int.reduceToNat])
        | with_reducible refine a_block ?_
        | with_reducible refine a_ret ?_
        | with_reducible refine a_exit ?_
        | with_reducible refine a_skip ?_
        | with_reducible exact ConfOk.mk (by kernel_rfl)
        | (with_reducible refine eqT_of (eq33 _ _ _ _ _ _) ?_; simp)
        | (with_reducible refine eqT_of (eq35 _ _ _ _ _ _ _ _) ?_; simp)
        | ((fail_if_success with_reducible show False); with_reducible apply_assumption (exfalso := false) (symm := false) only [*, rfl, trivial, congrArg])
        | with_reducible refine And.intro ?_ ?_
        | (intro h; contradiction)
        | (intro h; subst h)
        | intro h
        | simp (maxSteps := 10000000) (implicitDefEqProofs := false) only [go_sem, Outv.enc, outs,  ↓reduceIte, reduceCtorEq, Nat.reduceAdd, Nat.reduceSub, Nat.reduceLeDiff, Nat.reduceEqDiff, Nat.reduceMul, Nat.reduceLT, Nat.reducePow, Int.reduceEq, Int.reduceLT, Int.reduceLE, Int.reduceGT, Int.reduceGE, Int.reduceAdd, Int.reduceSub, Int.reduceNeg, Int.reduceToNat])
  · rw [show strictO 22 ⟨3, 1, emp⟩ ⟨3, 1, emp⟩ false = boolO false from rfl]
    refine acalls_k Tryz.func20 rfl (by kernel_rfl) (congrArg Array.toList Tryz.results20) Tryz.ntmps20 ?_
    intro R hR
    simp only [st0, List.length_cons, List.length_nil, Nat.reduceAdd, Nat.reduceSub, List.replicate_succ, List.replicate_zero, List.cons_append, List.nil_append]
    repeat' (first
        | (with_reducible refine a_seq_k ?_; intro K hK)
        | ((first | with_reducible refine a_region (by kernel_rfl) ?_ | (with_reducible refine a_draw mixed (by kernel_rfl) ?_; intro C hC) | (with_reducible refine a_cond_k ?_; intro X Y hX hY) | with_reducible refine RetOk.mk ?_ | with_reducible refine CallS.intro (ref_isTrue _ _ _ _) ?_ | with_reducible refine CallD.intro (ref_isTrue _ _ _ _) ?_ | with_reducible refine CallS.intro (ref_oBool _) ?_ | with_reducible refine CallD.intro (ref_oBool _) ?_); simp (maxSteps := 10000000) (implicitDefEqProofs := false) only [go_sem, Outv.enc, outs,  ↓reduceIte, reduceCtorEq, Nat.reduceAdd, Nat.reduceSub, Nat.reduceLeDiff, Nat.reduceEqDiff, Nat.reduceMul, Nat.reduceLT, Nat.reducePow, Int.reduceEq, Int.reduceLT, Int.reduceLE, Int.reduceGT, Int.reduceGE, Int.reduceAdd, Int.reduceSub, Int.reduceNeg, Int.reduceToNat])
        | with_reducible refine a_block ?_
        | with_reducible refine a_ret ?_
        | with_reducible refine a_exit ?_
        | with_reducible refine a_skip ?_
        | with_reducible exact ConfOk.mk (by kernel_rfl)
        | (with_reducible refine eqT_of (eq33 _ _ _ _ _ _) ?_; simp)
        | (with_reducible refine eqT_of (eq35 _ _ _ _ _ _ _ _) ?_; simp)
        | ((fail_if_success with_reducible show False); with_reducible apply_assumption (exfalso := false) (symm := false) only [*, rfl, trivial, congrArg])
        | with_reducible refine And.intro ?_ ?_
        | (intro h; contradiction)
        | (intro h; subst h)
        | intro h
        | simp (maxSteps := 10000000) (implicitDefEqProofs := false) only [go_sem, Outv.enc, outs,  ↓reduceIte, reduceCtorEq, Nat.reduceAdd, Nat.reduceSub, Nat.reduceLeDiff, Nat.reduceEqDiff, Nat.reduceMul, Nat.reduceLT, Nat.reducePow, Int.reduceEq, Int.reduceLT, Int.reduceLE, Int.reduceGT, Int.reduceGE, Int.reduceAdd, Int.reduceSub, Int.reduceNeg, Int.reduceToNat])
theorem ref_strict12 (x y : Val) (ha : 0 ≤ x.kind ∧ x.kind ≤ 3) (hb : 0 ≤ y.kind ∧ y.kind ≤ 3) (sa : x.text.size < 2 ^ 62) (sb : y.text.size < 2 ^ 62) : ACalls Tryz.prog 20 [.int .u8 12, outs [⟨x, 0⟩, ⟨y, 0⟩]] (.agg (strictO 12 x y false).enc) := by
  have h1 := ref_compared 12 (by omega) x y ha hb sa sb
  rw [show strictO 12 x y false = boolO (opB 12 (cmpV x y)) from rfl]
  generalize boolO (opB 12 (cmpV x y)) = r at h1
  have w1 : IntKind.i64.wrap 1 = 1 := rfl
  simp only [Outv.enc] at h1
  refine acalls_k Tryz.func20 rfl (by kernel_rfl) (congrArg Array.toList Tryz.results20) Tryz.ntmps20 ?_
  intro R hR
  simp only [st0, List.length_cons, List.length_nil, Nat.reduceAdd, Nat.reduceSub, List.replicate_succ, List.replicate_zero, List.cons_append, List.nil_append]
  repeat' (first
      | (with_reducible refine a_seq_k ?_; intro K hK)
      | ((first | with_reducible refine a_region (by kernel_rfl) ?_ | (with_reducible refine a_draw mixed (by kernel_rfl) ?_; intro C hC) | (with_reducible refine a_cond_k ?_; intro X Y hX hY) | with_reducible refine RetOk.mk ?_ | with_reducible refine CallS.intro (h1) ?_ | with_reducible refine CallD.intro (h1) ?_); simp (maxSteps := 10000000) (implicitDefEqProofs := false) only [go_sem, Outv.enc, outs, w1,  ↓reduceIte, reduceCtorEq, Nat.reduceAdd, Nat.reduceSub, Nat.reduceLeDiff, Nat.reduceEqDiff, Nat.reduceMul, Nat.reduceLT, Nat.reducePow, Int.reduceEq, Int.reduceLT, Int.reduceLE, Int.reduceGT, Int.reduceGE, Int.reduceAdd, Int.reduceSub, Int.reduceNeg, Int.reduceToNat])
      | with_reducible refine a_block ?_
      | with_reducible refine a_ret ?_
      | with_reducible refine a_exit ?_
      | with_reducible refine a_skip ?_
      | with_reducible exact ConfOk.mk (by kernel_rfl)
      | (with_reducible refine eqT_of (eq33 _ _ _ _ _ _) ?_; simp)
      | (with_reducible refine eqT_of (eq35 _ _ _ _ _ _ _ _) ?_; simp)
      | ((fail_if_success with_reducible show False); with_reducible apply_assumption (exfalso := false) (symm := false) only [*, rfl, trivial, congrArg])
      | with_reducible refine And.intro ?_ ?_
      | (intro h; contradiction)
      | (intro h; subst h)
      | intro h
      | simp (maxSteps := 10000000) (implicitDefEqProofs := false) only [go_sem, Outv.enc, outs, w1,  ↓reduceIte, reduceCtorEq, Nat.reduceAdd, Nat.reduceSub, Nat.reduceLeDiff, Nat.reduceEqDiff, Nat.reduceMul, Nat.reduceLT, Nat.reducePow, Int.reduceEq, Int.reduceLT, Int.reduceLE, Int.reduceGT, Int.reduceGE, Int.reduceAdd, Int.reduceSub, Int.reduceNeg, Int.reduceToNat])
theorem ref_strict13 (x y : Val) (ha : 0 ≤ x.kind ∧ x.kind ≤ 3) (hb : 0 ≤ y.kind ∧ y.kind ≤ 3) (sa : x.text.size < 2 ^ 62) (sb : y.text.size < 2 ^ 62) : ACalls Tryz.prog 20 [.int .u8 13, outs [⟨x, 0⟩, ⟨y, 0⟩]] (.agg (strictO 13 x y false).enc) := by
  have h1 := ref_compared 13 (by omega) x y ha hb sa sb
  rw [show strictO 13 x y false = boolO (opB 13 (cmpV x y)) from rfl]
  generalize boolO (opB 13 (cmpV x y)) = r at h1
  have w1 : IntKind.i64.wrap 1 = 1 := rfl
  simp only [Outv.enc] at h1
  refine acalls_k Tryz.func20 rfl (by kernel_rfl) (congrArg Array.toList Tryz.results20) Tryz.ntmps20 ?_
  intro R hR
  simp only [st0, List.length_cons, List.length_nil, Nat.reduceAdd, Nat.reduceSub, List.replicate_succ, List.replicate_zero, List.cons_append, List.nil_append]
  repeat' (first
      | (with_reducible refine a_seq_k ?_; intro K hK)
      | ((first | with_reducible refine a_region (by kernel_rfl) ?_ | (with_reducible refine a_draw mixed (by kernel_rfl) ?_; intro C hC) | (with_reducible refine a_cond_k ?_; intro X Y hX hY) | with_reducible refine RetOk.mk ?_ | with_reducible refine CallS.intro (h1) ?_ | with_reducible refine CallD.intro (h1) ?_); simp (maxSteps := 10000000) (implicitDefEqProofs := false) only [go_sem, Outv.enc, outs, w1,  ↓reduceIte, reduceCtorEq, Nat.reduceAdd, Nat.reduceSub, Nat.reduceLeDiff, Nat.reduceEqDiff, Nat.reduceMul, Nat.reduceLT, Nat.reducePow, Int.reduceEq, Int.reduceLT, Int.reduceLE, Int.reduceGT, Int.reduceGE, Int.reduceAdd, Int.reduceSub, Int.reduceNeg, Int.reduceToNat])
      | with_reducible refine a_block ?_
      | with_reducible refine a_ret ?_
      | with_reducible refine a_exit ?_
      | with_reducible refine a_skip ?_
      | with_reducible exact ConfOk.mk (by kernel_rfl)
      | (with_reducible refine eqT_of (eq33 _ _ _ _ _ _) ?_; simp)
      | (with_reducible refine eqT_of (eq35 _ _ _ _ _ _ _ _) ?_; simp)
      | ((fail_if_success with_reducible show False); with_reducible apply_assumption (exfalso := false) (symm := false) only [*, rfl, trivial, congrArg])
      | with_reducible refine And.intro ?_ ?_
      | (intro h; contradiction)
      | (intro h; subst h)
      | intro h
      | simp (maxSteps := 10000000) (implicitDefEqProofs := false) only [go_sem, Outv.enc, outs, w1,  ↓reduceIte, reduceCtorEq, Nat.reduceAdd, Nat.reduceSub, Nat.reduceLeDiff, Nat.reduceEqDiff, Nat.reduceMul, Nat.reduceLT, Nat.reducePow, Int.reduceEq, Int.reduceLT, Int.reduceLE, Int.reduceGT, Int.reduceGE, Int.reduceAdd, Int.reduceSub, Int.reduceNeg, Int.reduceToNat])
theorem ref_strict14 (x y : Val) (ha : 0 ≤ x.kind ∧ x.kind ≤ 3) (hb : 0 ≤ y.kind ∧ y.kind ≤ 3) (sa : x.text.size < 2 ^ 62) (sb : y.text.size < 2 ^ 62) : ACalls Tryz.prog 20 [.int .u8 14, outs [⟨x, 0⟩, ⟨y, 0⟩]] (.agg (strictO 14 x y false).enc) := by
  have h1 := ref_compared 14 (by omega) x y ha hb sa sb
  rw [show strictO 14 x y false = boolO (opB 14 (cmpV x y)) from rfl]
  generalize boolO (opB 14 (cmpV x y)) = r at h1
  have w1 : IntKind.i64.wrap 1 = 1 := rfl
  simp only [Outv.enc] at h1
  refine acalls_k Tryz.func20 rfl (by kernel_rfl) (congrArg Array.toList Tryz.results20) Tryz.ntmps20 ?_
  intro R hR
  simp only [st0, List.length_cons, List.length_nil, Nat.reduceAdd, Nat.reduceSub, List.replicate_succ, List.replicate_zero, List.cons_append, List.nil_append]
  repeat' (first
      | (with_reducible refine a_seq_k ?_; intro K hK)
      | ((first | with_reducible refine a_region (by kernel_rfl) ?_ | (with_reducible refine a_draw mixed (by kernel_rfl) ?_; intro C hC) | (with_reducible refine a_cond_k ?_; intro X Y hX hY) | with_reducible refine RetOk.mk ?_ | with_reducible refine CallS.intro (h1) ?_ | with_reducible refine CallD.intro (h1) ?_); simp (maxSteps := 10000000) (implicitDefEqProofs := false) only [go_sem, Outv.enc, outs, w1,  ↓reduceIte, reduceCtorEq, Nat.reduceAdd, Nat.reduceSub, Nat.reduceLeDiff, Nat.reduceEqDiff, Nat.reduceMul, Nat.reduceLT, Nat.reducePow, Int.reduceEq, Int.reduceLT, Int.reduceLE, Int.reduceGT, Int.reduceGE, Int.reduceAdd, Int.reduceSub, Int.reduceNeg, Int.reduceToNat])
      | with_reducible refine a_block ?_
      | with_reducible refine a_ret ?_
      | with_reducible refine a_exit ?_
      | with_reducible refine a_skip ?_
      | with_reducible exact ConfOk.mk (by kernel_rfl)
      | (with_reducible refine eqT_of (eq33 _ _ _ _ _ _) ?_; simp)
      | (with_reducible refine eqT_of (eq35 _ _ _ _ _ _ _ _) ?_; simp)
      | ((fail_if_success with_reducible show False); with_reducible apply_assumption (exfalso := false) (symm := false) only [*, rfl, trivial, congrArg])
      | with_reducible refine And.intro ?_ ?_
      | (intro h; contradiction)
      | (intro h; subst h)
      | intro h
      | simp (maxSteps := 10000000) (implicitDefEqProofs := false) only [go_sem, Outv.enc, outs, w1,  ↓reduceIte, reduceCtorEq, Nat.reduceAdd, Nat.reduceSub, Nat.reduceLeDiff, Nat.reduceEqDiff, Nat.reduceMul, Nat.reduceLT, Nat.reducePow, Int.reduceEq, Int.reduceLT, Int.reduceLE, Int.reduceGT, Int.reduceGE, Int.reduceAdd, Int.reduceSub, Int.reduceNeg, Int.reduceToNat])
theorem ref_strict15 (x y : Val) (ha : 0 ≤ x.kind ∧ x.kind ≤ 3) (hb : 0 ≤ y.kind ∧ y.kind ≤ 3) (sa : x.text.size < 2 ^ 62) (sb : y.text.size < 2 ^ 62) : ACalls Tryz.prog 20 [.int .u8 15, outs [⟨x, 0⟩, ⟨y, 0⟩]] (.agg (strictO 15 x y false).enc) := by
  have h1 := ref_compared 15 (by omega) x y ha hb sa sb
  rw [show strictO 15 x y false = boolO (opB 15 (cmpV x y)) from rfl]
  generalize boolO (opB 15 (cmpV x y)) = r at h1
  have w1 : IntKind.i64.wrap 1 = 1 := rfl
  simp only [Outv.enc] at h1
  refine acalls_k Tryz.func20 rfl (by kernel_rfl) (congrArg Array.toList Tryz.results20) Tryz.ntmps20 ?_
  intro R hR
  simp only [st0, List.length_cons, List.length_nil, Nat.reduceAdd, Nat.reduceSub, List.replicate_succ, List.replicate_zero, List.cons_append, List.nil_append]
  repeat' (first
      | (with_reducible refine a_seq_k ?_; intro K hK)
      | ((first | with_reducible refine a_region (by kernel_rfl) ?_ | (with_reducible refine a_draw mixed (by kernel_rfl) ?_; intro C hC) | (with_reducible refine a_cond_k ?_; intro X Y hX hY) | with_reducible refine RetOk.mk ?_ | with_reducible refine CallS.intro (h1) ?_ | with_reducible refine CallD.intro (h1) ?_); simp (maxSteps := 10000000) (implicitDefEqProofs := false) only [go_sem, Outv.enc, outs, w1,  ↓reduceIte, reduceCtorEq, Nat.reduceAdd, Nat.reduceSub, Nat.reduceLeDiff, Nat.reduceEqDiff, Nat.reduceMul, Nat.reduceLT, Nat.reducePow, Int.reduceEq, Int.reduceLT, Int.reduceLE, Int.reduceGT, Int.reduceGE, Int.reduceAdd, Int.reduceSub, Int.reduceNeg, Int.reduceToNat])
      | with_reducible refine a_block ?_
      | with_reducible refine a_ret ?_
      | with_reducible refine a_exit ?_
      | with_reducible refine a_skip ?_
      | with_reducible exact ConfOk.mk (by kernel_rfl)
      | (with_reducible refine eqT_of (eq33 _ _ _ _ _ _) ?_; simp)
      | (with_reducible refine eqT_of (eq35 _ _ _ _ _ _ _ _) ?_; simp)
      | ((fail_if_success with_reducible show False); with_reducible apply_assumption (exfalso := false) (symm := false) only [*, rfl, trivial, congrArg])
      | with_reducible refine And.intro ?_ ?_
      | (intro h; contradiction)
      | (intro h; subst h)
      | intro h
      | simp (maxSteps := 10000000) (implicitDefEqProofs := false) only [go_sem, Outv.enc, outs, w1,  ↓reduceIte, reduceCtorEq, Nat.reduceAdd, Nat.reduceSub, Nat.reduceLeDiff, Nat.reduceEqDiff, Nat.reduceMul, Nat.reduceLT, Nat.reducePow, Int.reduceEq, Int.reduceLT, Int.reduceLE, Int.reduceGT, Int.reduceGE, Int.reduceAdd, Int.reduceSub, Int.reduceNeg, Int.reduceToNat])
theorem ref_strict16 (x y : Val) (ha : 0 ≤ x.kind ∧ x.kind ≤ 3) (hb : 0 ≤ y.kind ∧ y.kind ≤ 3) (sa : x.text.size < 2 ^ 62) (sb : y.text.size < 2 ^ 62) : ACalls Tryz.prog 20 [.int .u8 16, outs [⟨x, 0⟩, ⟨y, 0⟩]] (.agg (strictO 16 x y false).enc) := by
  have h1 := ref_compared 16 (by omega) x y ha hb sa sb
  rw [show strictO 16 x y false = boolO (opB 16 (cmpV x y)) from rfl]
  generalize boolO (opB 16 (cmpV x y)) = r at h1
  have w1 : IntKind.i64.wrap 1 = 1 := rfl
  simp only [Outv.enc] at h1
  refine acalls_k Tryz.func20 rfl (by kernel_rfl) (congrArg Array.toList Tryz.results20) Tryz.ntmps20 ?_
  intro R hR
  simp only [st0, List.length_cons, List.length_nil, Nat.reduceAdd, Nat.reduceSub, List.replicate_succ, List.replicate_zero, List.cons_append, List.nil_append]
  repeat' (first
      | (with_reducible refine a_seq_k ?_; intro K hK)
      | ((first | with_reducible refine a_region (by kernel_rfl) ?_ | (with_reducible refine a_draw mixed (by kernel_rfl) ?_; intro C hC) | (with_reducible refine a_cond_k ?_; intro X Y hX hY) | with_reducible refine RetOk.mk ?_ | with_reducible refine CallS.intro (h1) ?_ | with_reducible refine CallD.intro (h1) ?_); simp (maxSteps := 10000000) (implicitDefEqProofs := false) only [go_sem, Outv.enc, outs, w1,  ↓reduceIte, reduceCtorEq, Nat.reduceAdd, Nat.reduceSub, Nat.reduceLeDiff, Nat.reduceEqDiff, Nat.reduceMul, Nat.reduceLT, Nat.reducePow, Int.reduceEq, Int.reduceLT, Int.reduceLE, Int.reduceGT, Int.reduceGE, Int.reduceAdd, Int.reduceSub, Int.reduceNeg, Int.reduceToNat])
      | with_reducible refine a_block ?_
      | with_reducible refine a_ret ?_
      | with_reducible refine a_exit ?_
      | with_reducible refine a_skip ?_
      | with_reducible exact ConfOk.mk (by kernel_rfl)
      | (with_reducible refine eqT_of (eq33 _ _ _ _ _ _) ?_; simp)
      | (with_reducible refine eqT_of (eq35 _ _ _ _ _ _ _ _) ?_; simp)
      | ((fail_if_success with_reducible show False); with_reducible apply_assumption (exfalso := false) (symm := false) only [*, rfl, trivial, congrArg])
      | with_reducible refine And.intro ?_ ?_
      | (intro h; contradiction)
      | (intro h; subst h)
      | intro h
      | simp (maxSteps := 10000000) (implicitDefEqProofs := false) only [go_sem, Outv.enc, outs, w1,  ↓reduceIte, reduceCtorEq, Nat.reduceAdd, Nat.reduceSub, Nat.reduceLeDiff, Nat.reduceEqDiff, Nat.reduceMul, Nat.reduceLT, Nat.reducePow, Int.reduceEq, Int.reduceLT, Int.reduceLE, Int.reduceGT, Int.reduceGE, Int.reduceAdd, Int.reduceSub, Int.reduceNeg, Int.reduceToNat])
theorem ref_strict17 (x y : Val) (ha : 0 ≤ x.kind ∧ x.kind ≤ 3) (hb : 0 ≤ y.kind ∧ y.kind ≤ 3) (sa : x.text.size < 2 ^ 62) (sb : y.text.size < 2 ^ 62) : ACalls Tryz.prog 20 [.int .u8 17, outs [⟨x, 0⟩, ⟨y, 0⟩]] (.agg (strictO 17 x y false).enc) := by
  have h1 := ref_compared 17 (by omega) x y ha hb sa sb
  rw [show strictO 17 x y false = boolO (opB 17 (cmpV x y)) from rfl]
  generalize boolO (opB 17 (cmpV x y)) = r at h1
  have w1 : IntKind.i64.wrap 1 = 1 := rfl
  simp only [Outv.enc] at h1
  refine acalls_k Tryz.func20 rfl (by kernel_rfl) (congrArg Array.toList Tryz.results20) Tryz.ntmps20 ?_
  intro R hR
  simp only [st0, List.length_cons, List.length_nil, Nat.reduceAdd, Nat.reduceSub, List.replicate_succ, List.replicate_zero, List.cons_append, List.nil_append]
  repeat' (first
      | (with_reducible refine a_seq_k ?_; intro K hK)
      | ((first | with_reducible refine a_region (by kernel_rfl) ?_ | (with_reducible refine a_draw mixed (by kernel_rfl) ?_; intro C hC) | (with_reducible refine a_cond_k ?_; intro X Y hX hY) | with_reducible refine RetOk.mk ?_ | with_reducible refine CallS.intro (h1) ?_ | with_reducible refine CallD.intro (h1) ?_); simp (maxSteps := 10000000) (implicitDefEqProofs := false) only [go_sem, Outv.enc, outs, w1,  ↓reduceIte, reduceCtorEq, Nat.reduceAdd, Nat.reduceSub, Nat.reduceLeDiff, Nat.reduceEqDiff, Nat.reduceMul, Nat.reduceLT, Nat.reducePow, Int.reduceEq, Int.reduceLT, Int.reduceLE, Int.reduceGT, Int.reduceGE, Int.reduceAdd, Int.reduceSub, Int.reduceNeg, Int.reduceToNat])
      | with_reducible refine a_block ?_
      | with_reducible refine a_ret ?_
      | with_reducible refine a_exit ?_
      | with_reducible refine a_skip ?_
      | with_reducible exact ConfOk.mk (by kernel_rfl)
      | (with_reducible refine eqT_of (eq33 _ _ _ _ _ _) ?_; simp)
      | (with_reducible refine eqT_of (eq35 _ _ _ _ _ _ _ _) ?_; simp)
      | ((fail_if_success with_reducible show False); with_reducible apply_assumption (exfalso := false) (symm := false) only [*, rfl, trivial, congrArg])
      | with_reducible refine And.intro ?_ ?_
      | (intro h; contradiction)
      | (intro h; subst h)
      | intro h
      | simp (maxSteps := 10000000) (implicitDefEqProofs := false) only [go_sem, Outv.enc, outs, w1,  ↓reduceIte, reduceCtorEq, Nat.reduceAdd, Nat.reduceSub, Nat.reduceLeDiff, Nat.reduceEqDiff, Nat.reduceMul, Nat.reduceLT, Nat.reducePow, Int.reduceEq, Int.reduceLT, Int.reduceLE, Int.reduceGT, Int.reduceGE, Int.reduceAdd, Int.reduceSub, Int.reduceNeg, Int.reduceToNat])
end Go.Proofs.YtmlaogjndaeihaaGreatDoor
end
