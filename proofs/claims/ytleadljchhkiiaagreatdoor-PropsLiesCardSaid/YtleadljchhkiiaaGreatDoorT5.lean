/- Loops over kinds. Kind, of the specification and of the program. Kind, of the specification and of the program. Kind of the specification. -/
import Derived.Test.YtleadljchhkiiaaGreatDoorT0
set_option linter.unusedSimpArgs false
set_option linter.unusedVariables false
section
section
namespace Go.Proofs.YtleadljchhkiiaaGreatDoor
open Go Go.Ab
attribute [local go_sem ↓] parts_tt parts_ff parts_tf parts_ft
attribute [local go_sem] parts_eq learnT aops_nil aops_cons aopsD_nil aopsD_cons stepS stepD gval St.learn skipR St.after putτ applyUpd List.foldl_cons List.foldl_nil pureOp memOp callOf litA closeO closeK List.flatMap_cons List.flatMap_nil Option.map_none decide_false opnd ofConst leaf binA unA lenA indexA indexAddrA fieldAddrA fieldA sliceA convertA pickV fillA placeS cellsA setA partA loadM storeM appendM srcEls lookBox lookRow lookMap closeL closeV scalarB scalarL killed buildEls lookupA leafEq eqAll resA resL tupA retA thenA blockA isInt loA hiA foldA maxA minA okSize leafB closedB Res.foot List.getD_cons_zero List.getD_cons_succ List.set_cons_zero List.set_cons_succ List.map_cons List.map_nil List.append_nil List.nil_append List.cons_append List.length_cons List.length_nil List.take_succ_cons List.take_zero List.drop_succ_cons List.drop_zero List.take_nil List.drop_nil List.all_cons List.all_nil List.getElem?_toArray List.getElem?_cons_zero List.getElem?_cons_succ Option.bind_some Option.map_some true_and and_true true_implies ne_eq not_true_eq_false not_false_eq_true Bool.true_eq_false Bool.false_eq_true Bool.not_true Bool.not_false decide_eq_true_eq decide_eq_false_iff_not false_implies implies_true and_self ite_true ite_false cond_true cond_false Option.some.injEq List.reverse_cons List.reverse_nil Bool.and_self Bool.true_and Bool.and_true Bool.false_and Bool.and_false Bool.or_true Bool.true_or Bool.or_false Bool.false_or Bool.not_eq_eq_eq_not Bool.not_not Bool.or_self beq_self_eq_true and_false false_and or_true true_or or_false false_or not_true not_false_iff Decidable.not_not lookT lookR tabT tabR Int.toNat_natCast List.length_map List.map_append List.length_append decide_true decide_false tmod2 List.mem_singleton forall_eq elOk1 elOk3 elOk4 castn0 castn1 castn2 castn3 getD_mid getD_mid_map at_lt at_end mid_lt mid_lt' nat_ge List.size_toArray Array.size_empty Nat.add_zero Nat.zero_add
attribute [local irreducible] ASpec ACalls retA ti EqT
set_option linter.unusedSimpArgs false
set_option maxHeartbeats 4000000
set_option maxRecDepth 100000
set_option linter.unusedVariables false
attribute [local go_sem] ti2 ti3 ti4 ti5 ti9 ti21 ti22 ti24 ti26 ti34 ti42 ti55 ti71 ti72 ti81 ti103 ti134 ti146 ti153 ti161 ti165 ti176 ti205 ti221 ti222 ti247
def kd (k : Int) : List AV := [.int .u8 k]
@[reducible] def kinds (ks : List Int) : AV := .slice (ks.map kd)
theorem ref_Agree (a b : Int) : ACalls Tryz.prog 228 [.int .u8 a, .int .u8 b] (.bool (agree a b)) := by
  refine acalls_k Tryz.func228 rfl (by kernel_rfl) (congrArg Array.toList Tryz.results228) Tryz.ntmps228 ?_
  intro R hR
  simp only [st0, List.length_cons, List.length_nil, Nat.reduceAdd, Nat.reduceSub, List.replicate_succ, List.replicate_zero, List.cons_append, List.nil_append]
  repeat' (first
      | (with_reducible refine a_seq_k ?_; intro K hK)
      | ((first | with_reducible refine a_region (by kernel_rfl) ?_ | (with_reducible refine a_draw mixed (by kernel_rfl) ?_; intro C hC) | (with_reducible refine a_cond_k ?_; intro X Y hX hY) | with_reducible refine RetOk.mk ?_); simp (maxSteps := 10000000) (implicitDefEqProofs := false) only [go_sem,  ↓reduceIte, reduceCtorEq, Nat.reduceAdd, Nat.reduceSub, Nat.reduceLeDiff, Nat.reduceEqDiff, Nat.reduceMul, Nat.reduceLT, Nat.reducePow, Int.reduceEq, Int.reduceLT, Int.reduceLE, Int.reduceGT, Int.reduceGE, Int.reduceAdd, Int.reduceSub, Int.reduceNeg, Int.reduceToNat])
      | with_reducible refine a_block ?_
      | with_reducible refine a_ret ?_
      | with_reducible refine a_exit ?_
      | with_reducible refine a_skip ?_
      | with_reducible exact ConfOk.mk (by kernel_rfl)
      | (with_reducible refine eqT_of (eq33 _ _ _ _ _ _) ?_; simp)
      | (with_reducible refine eqT_of (eq35 _ _ _ _ _ _ _ _) ?_; simp)
      | ((fail_if_success with_reducible show False); with_reducible apply_assumption (exfalso := false) (symm := false) only [*, rfl, trivial, congrArg])
      | with_reducible refine And.intro ?_ ?_
      | (intro h; contradiction)
      | (intro h; subst h)
      | intro h
      | simp (maxSteps := 10000000) (implicitDefEqProofs := false) only [go_sem,  ↓reduceIte, reduceCtorEq, Nat.reduceAdd, Nat.reduceSub, Nat.reduceLeDiff, Nat.reduceEqDiff, Nat.reduceMul, Nat.reduceLT, Nat.reducePow, Int.reduceEq, Int.reduceLT, Int.reduceLE, Int.reduceGT, Int.reduceGE, Int.reduceAdd, Int.reduceSub, Int.reduceNeg, Int.reduceToNat])
  all_goals simp [agree, *]
theorem ref_allAgree (ks : List Int) (k : Int) (hl : ks.length < 2 ^ 62) : ACalls Tryz.prog 227 [kinds ks, .int .u8 k] (.bool (ks.all fun x => agree x k)) := by
  refine acalls_k Tryz.func227 rfl (by kernel_rfl) (congrArg Array.toList Tryz.results227) Tryz.ntmps227 ?_
  intro R hR
  simp only [st0, List.length_cons, List.length_nil, Nat.reduceAdd, Nat.reduceSub, List.replicate_succ, List.replicate_zero, List.cons_append, List.nil_append]
  repeat' (first
      | (with_reducible refine a_seq_k ?_; intro K hK)
      | ((first | with_reducible refine a_region (by kernel_rfl) ?_ | (with_reducible refine a_draw mixed (by kernel_rfl) ?_; intro C hC) | (with_reducible refine a_cond_k ?_; intro X Y hX hY) | with_reducible refine RetOk.mk ?_); simp (maxSteps := 10000000) (implicitDefEqProofs := false) only [go_sem,  ↓reduceIte, reduceCtorEq, Nat.reduceAdd, Nat.reduceSub, Nat.reduceLeDiff, Nat.reduceEqDiff, Nat.reduceMul, Nat.reduceLT, Nat.reducePow, Int.reduceEq, Int.reduceLT, Int.reduceLE, Int.reduceGT, Int.reduceGE, Int.reduceAdd, Int.reduceSub, Int.reduceNeg, Int.reduceToNat])
      | with_reducible refine a_block ?_
      | with_reducible refine a_ret ?_
      | with_reducible refine a_exit ?_
      | with_reducible refine a_skip ?_
      | with_reducible exact ConfOk.mk (by kernel_rfl)
      | (with_reducible refine eqT_of (eq33 _ _ _ _ _ _) ?_; simp)
      | (with_reducible refine eqT_of (eq35 _ _ _ _ _ _ _ _) ?_; simp)
      | ((fail_if_success with_reducible show False); with_reducible apply_assumption (exfalso := false) (symm := false) only [*, rfl, trivial, congrArg])
      | with_reducible refine And.intro ?_ ?_
      | (intro h; contradiction)
      | (intro h; subst h)
      | intro h
      | simp (maxSteps := 10000000) (implicitDefEqProofs := false) only [go_sem,  ↓reduceIte, reduceCtorEq, Nat.reduceAdd, Nat.reduceSub, Nat.reduceLeDiff, Nat.reduceEqDiff, Nat.reduceMul, Nat.reduceLT, Nat.reducePow, Int.reduceEq, Int.reduceLT, Int.reduceLE, Int.reduceGT, Int.reduceGE, Int.reduceAdd, Int.reduceSub, Int.reduceNeg, Int.reduceToNat])
  refine a_loop_k (fun n st => ∃ (g : Nat) (pre rest : List _) (acc : Unit), ks = pre ++ rest ∧ n = rest.length ∧ ((pre.all fun x => agree x k) = true) ∧ Has st 19 [(0, .slice (ks.map kd)), (1, .int .u8 k), (5, .int .i64 pre.length)] []) (ks).length ⟨0, [], ks, (), rfl, rfl, rfl, ⟨rfl, rfl, by simp [kd, Outv.enc, Val.enc], by simp [kd, Outv.enc, Val.enc]⟩⟩ ?_
  rintro n st ⟨g, pre, rest, acc, he, rfl, hp, hs⟩ K hK
  have hw := wrap_nat pre.length (by have := congrArg List.length he; simp at this; omega)
  subst he
  refine a_has hs fun τ σ γ => ?_
  rcases rest with _ | ⟨x, rest⟩
  · repeat' (first
        | (with_reducible refine a_seq_k ?_; intro K hK)
        | ((first | with_reducible refine a_region (by kernel_rfl) ?_ | (with_reducible refine a_draw mixed (by kernel_rfl) ?_; intro C hC) | (with_reducible refine a_cond_k ?_; intro X Y hX hY) | with_reducible refine RetOk.mk ?_); simp (maxSteps := 10000000) (implicitDefEqProofs := false) only [go_sem, kd, hw,  ↓reduceIte, reduceCtorEq, Nat.reduceAdd, Nat.reduceSub, Nat.reduceLeDiff, Nat.reduceEqDiff, Nat.reduceMul, Nat.reduceLT, Nat.reducePow, Int.reduceEq, Int.reduceLT, Int.reduceLE, Int.reduceGT, Int.reduceGE, Int.reduceAdd, Int.reduceSub, Int.reduceNeg, Int.reduceToNat])
        | with_reducible refine a_block ?_
        | with_reducible refine a_ret ?_
        | with_reducible refine a_exit ?_
        | with_reducible refine a_skip ?_
        | with_reducible exact ConfOk.mk (by kernel_rfl)
        | (with_reducible refine eqT_of (eq33 _ _ _ _ _ _) ?_; simp)
        | (with_reducible refine eqT_of (eq35 _ _ _ _ _ _ _ _) ?_; simp)
        | ((fail_if_success with_reducible show False); with_reducible apply_assumption (exfalso := false) (symm := false) only [*, rfl, trivial, congrArg])
        | with_reducible refine And.intro ?_ ?_
        | (intro h; contradiction)
        | (intro h; subst h)
        | intro h
        | simp (maxSteps := 10000000) (implicitDefEqProofs := false) only [go_sem, kd, hw,  ↓reduceIte, reduceCtorEq, Nat.reduceAdd, Nat.reduceSub, Nat.reduceLeDiff, Nat.reduceEqDiff, Nat.reduceMul, Nat.reduceLT, Nat.reducePow, Int.reduceEq, Int.reduceLT, Int.reduceLE, Int.reduceGT, Int.reduceGE, Int.reduceAdd, Int.reduceSub, Int.reduceNeg, Int.reduceToNat])
    · simp_all only []
  · repeat' (first
        | (with_reducible refine a_seq_k ?_; intro K hK)
        | ((first | with_reducible refine a_region (by kernel_rfl) ?_ | (with_reducible refine a_draw mixed (by kernel_rfl) ?_; intro C hC) | (with_reducible refine a_cond_k ?_; intro X Y hX hY) | with_reducible refine RetOk.mk ?_ | with_reducible refine CallS.intro (ref_Agree _ _) ?_ | with_reducible refine CallD.intro (ref_Agree _ _) ?_); simp (maxSteps := 10000000) (implicitDefEqProofs := false) only [go_sem, kd, hw,  ↓reduceIte, reduceCtorEq, Nat.reduceAdd, Nat.reduceSub, Nat.reduceLeDiff, Nat.reduceEqDiff, Nat.reduceMul, Nat.reduceLT, Nat.reducePow, Int.reduceEq, Int.reduceLT, Int.reduceLE, Int.reduceGT, Int.reduceGE, Int.reduceAdd, Int.reduceSub, Int.reduceNeg, Int.reduceToNat])
        | with_reducible refine a_block ?_
        | with_reducible refine a_ret ?_
        | with_reducible refine a_exit ?_
        | with_reducible refine a_skip ?_
        | with_reducible exact ConfOk.mk (by kernel_rfl)
        | (with_reducible refine eqT_of (eq33 _ _ _ _ _ _) ?_; simp)
        | (with_reducible refine eqT_of (eq35 _ _ _ _ _ _ _ _) ?_; simp)
        | ((fail_if_success with_reducible show False); with_reducible apply_assumption (exfalso := false) (symm := false) only [*, rfl, trivial, congrArg])
        | with_reducible refine And.intro ?_ ?_
        | (intro h; contradiction)
        | (intro h; subst h)
        | intro h
        | simp (maxSteps := 10000000) (implicitDefEqProofs := false) only [go_sem, kd, hw,  ↓reduceIte, reduceCtorEq, Nat.reduceAdd, Nat.reduceSub, Nat.reduceLeDiff, Nat.reduceEqDiff, Nat.reduceMul, Nat.reduceLT, Nat.reducePow, Int.reduceEq, Int.reduceLT, Int.reduceLE, Int.reduceGT, Int.reduceGE, Int.reduceAdd, Int.reduceSub, Int.reduceNeg, Int.reduceToNat])
    · simp [*]
    · exact ⟨⟨rest.length, by simp, 0, pre ++ [x], rest, (), by simp, rfl, by simp [*], ⟨rfl, rfl, by simp [kd, Outv.enc, Val.enc], by simp [kd, Outv.enc, Val.enc]⟩⟩⟩
def commonGo (out : Int) : List Int → Int × Bool
  | [] => (out, true)
  | x :: r => if agree out x = true then commonGo (if out = 0 then x else out) r else (0, false)
theorem ref_Common (ks : List Int) (hl : ks.length < 2 ^ 62) : ACalls Tryz.prog 230 [kinds ks] (.tuple [.int .u8 (commonGo 0 ks).1, .bool (commonGo 0 ks).2]) := by
  refine acalls_k Tryz.func230 rfl (by kernel_rfl) (congrArg Array.toList Tryz.results230) Tryz.ntmps230 ?_
  intro R hR
  simp only [st0, List.length_cons, List.length_nil, Nat.reduceAdd, Nat.reduceSub, List.replicate_succ, List.replicate_zero, List.cons_append, List.nil_append]
  repeat' (first
      | (with_reducible refine a_seq_k ?_; intro K hK)
      | ((first | with_reducible refine a_region (by kernel_rfl) ?_ | (with_reducible refine a_draw mixed (by kernel_rfl) ?_; intro C hC) | (with_reducible refine a_cond_k ?_; intro X Y hX hY) | with_reducible refine RetOk.mk ?_); simp (maxSteps := 10000000) (implicitDefEqProofs := false) only [go_sem,  ↓reduceIte, reduceCtorEq, Nat.reduceAdd, Nat.reduceSub, Nat.reduceLeDiff, Nat.reduceEqDiff, Nat.reduceMul, Nat.reduceLT, Nat.reducePow, Int.reduceEq, Int.reduceLT, Int.reduceLE, Int.reduceGT, Int.reduceGE, Int.reduceAdd, Int.reduceSub, Int.reduceNeg, Int.reduceToNat])
      | with_reducible refine a_block ?_
      | with_reducible refine a_ret ?_
      | with_reducible refine a_exit ?_
      | with_reducible refine a_skip ?_
      | with_reducible exact ConfOk.mk (by kernel_rfl)
      | (with_reducible refine eqT_of (eq33 _ _ _ _ _ _) ?_; simp)
      | (with_reducible refine eqT_of (eq35 _ _ _ _ _ _ _ _) ?_; simp)
      | ((fail_if_success with_reducible show False); with_reducible apply_assumption (exfalso := false) (symm := false) only [*, rfl, trivial, congrArg])
      | with_reducible refine And.intro ?_ ?_
      | (intro h; contradiction)
      | (intro h; subst h)
      | intro h
      | simp (maxSteps := 10000000) (implicitDefEqProofs := false) only [go_sem,  ↓reduceIte, reduceCtorEq, Nat.reduceAdd, Nat.reduceSub, Nat.reduceLeDiff, Nat.reduceEqDiff, Nat.reduceMul, Nat.reduceLT, Nat.reducePow, Int.reduceEq, Int.reduceLT, Int.reduceLE, Int.reduceGT, Int.reduceGE, Int.reduceAdd, Int.reduceSub, Int.reduceNeg, Int.reduceToNat])
  refine a_loop_k (fun n st => ∃ (g : Nat) (pre rest : List _) (out : Int), ks = pre ++ rest ∧ n = rest.length ∧ (commonGo out rest = commonGo 0 ks) ∧ Has st 26 [(0, .slice (ks.map kd)), (4, .int .u8 out), (5, .int .i64 pre.length)] []) (ks).length ⟨0, [], ks, 0, rfl, rfl, rfl, ⟨rfl, rfl, by simp [kd, Outv.enc, Val.enc], by simp [kd, Outv.enc, Val.enc]⟩⟩ ?_
  rintro n st ⟨g, pre, rest, out, he, rfl, hp, hs⟩ K hK
  have hw := wrap_nat pre.length (by have := congrArg List.length he; simp at this; omega)
  subst he
  refine a_has hs fun τ σ γ => ?_
  rcases rest with _ | ⟨x, rest⟩
  · repeat' (first
        | (with_reducible refine a_seq_k ?_; intro K hK)
        | ((first | with_reducible refine a_region (by kernel_rfl) ?_ | (with_reducible refine a_draw mixed (by kernel_rfl) ?_; intro C hC) | (with_reducible refine a_cond_k ?_; intro X Y hX hY) | with_reducible refine RetOk.mk ?_); simp (maxSteps := 10000000) (implicitDefEqProofs := false) only [go_sem, kd, hw,  ↓reduceIte, reduceCtorEq, Nat.reduceAdd, Nat.reduceSub, Nat.reduceLeDiff, Nat.reduceEqDiff, Nat.reduceMul, Nat.reduceLT, Nat.reducePow, Int.reduceEq, Int.reduceLT, Int.reduceLE, Int.reduceGT, Int.reduceGE, Int.reduceAdd, Int.reduceSub, Int.reduceNeg, Int.reduceToNat])
        | with_reducible refine a_block ?_
        | with_reducible refine a_ret ?_
        | with_reducible refine a_exit ?_
        | with_reducible refine a_skip ?_
        | with_reducible exact ConfOk.mk (by kernel_rfl)
        | (with_reducible refine eqT_of (eq33 _ _ _ _ _ _) ?_; simp)
        | (with_reducible refine eqT_of (eq35 _ _ _ _ _ _ _ _) ?_; simp)
        | ((fail_if_success with_reducible show False); with_reducible apply_assumption (exfalso := false) (symm := false) only [*, rfl, trivial, congrArg])
        | with_reducible refine And.intro ?_ ?_
        | (intro h; contradiction)
        | (intro h; subst h)
        | intro h
        | simp (maxSteps := 10000000) (implicitDefEqProofs := false) only [go_sem, kd, hw,  ↓reduceIte, reduceCtorEq, Nat.reduceAdd, Nat.reduceSub, Nat.reduceLeDiff, Nat.reduceEqDiff, Nat.reduceMul, Nat.reduceLT, Nat.reducePow, Int.reduceEq, Int.reduceLT, Int.reduceLE, Int.reduceGT, Int.reduceGE, Int.reduceAdd, Int.reduceSub, Int.reduceNeg, Int.reduceToNat])
    · simp only [List.append_nil, commonGo] at hp; simp [← hp]
  · repeat' (first
        | (with_reducible refine a_seq_k ?_; intro K hK)
        | ((first | with_reducible refine a_region (by kernel_rfl) ?_ | (with_reducible refine a_draw mixed (by kernel_rfl) ?_; intro C hC) | (with_reducible refine a_cond_k ?_; intro X Y hX hY) | with_reducible refine RetOk.mk ?_ | with_reducible refine CallS.intro (ref_Agree _ _) ?_ | with_reducible refine CallD.intro (ref_Agree _ _) ?_); simp (maxSteps := 10000000) (implicitDefEqProofs := false) only [go_sem, kd, hw,  ↓reduceIte, reduceCtorEq, Nat.reduceAdd, Nat.reduceSub, Nat.reduceLeDiff, Nat.reduceEqDiff, Nat.reduceMul, Nat.reduceLT, Nat.reducePow, Int.reduceEq, Int.reduceLT, Int.reduceLE, Int.reduceGT, Int.reduceGE, Int.reduceAdd, Int.reduceSub, Int.reduceNeg, Int.reduceToNat])
        | with_reducible refine a_block ?_
        | with_reducible refine a_ret ?_
        | with_reducible refine a_exit ?_
        | with_reducible refine a_skip ?_
        | with_reducible exact ConfOk.mk (by kernel_rfl)
        | (with_reducible refine eqT_of (eq33 _ _ _ _ _ _) ?_; simp)
        | (with_reducible refine eqT_of (eq35 _ _ _ _ _ _ _ _) ?_; simp)
        | ((fail_if_success with_reducible show False); with_reducible apply_assumption (exfalso := false) (symm := false) only [*, rfl, trivial, congrArg])
        | with_reducible refine And.intro ?_ ?_
        | (intro h; contradiction)
        | (intro h; subst h)
        | intro h
        | simp (maxSteps := 10000000) (implicitDefEqProofs := false) only [go_sem, kd, hw,  ↓reduceIte, reduceCtorEq, Nat.reduceAdd, Nat.reduceSub, Nat.reduceLeDiff, Nat.reduceEqDiff, Nat.reduceMul, Nat.reduceLT, Nat.reducePow, Int.reduceEq, Int.reduceLT, Int.reduceLE, Int.reduceGT, Int.reduceGE, Int.reduceAdd, Int.reduceSub, Int.reduceNeg, Int.reduceToNat])
    · rw [← hp]; simp [commonGo, *]
    · exact ⟨⟨rest.length, by simp, 0, pre ++ [x], rest, x, by simp, rfl, by rw [← hp]; simp [commonGo, *], ⟨rfl, rfl, by simp [kd, Outv.enc, Val.enc], by simp [kd, Outv.enc, Val.enc]⟩⟩⟩
    · exact ⟨⟨rest.length, by simp, 0, pre ++ [x], rest, out, by simp, rfl, by rw [← hp]; simp [commonGo, *], ⟨rfl, rfl, by simp [kd, Outv.enc, Val.enc], by simp [kd, Outv.enc, Val.enc]⟩⟩⟩
theorem calc_common1 (l k : Int) : ACalls Tryz.prog 205 [.int .u8 l, .cptr [.int .u8 k]] (.bool (!agree l k)) := by
  refine acalls_k Tryz.func205 rfl (by kernel_rfl) (congrArg Array.toList Tryz.results205) Tryz.ntmps205 ?_
  intro R hR
  simp only [st0, List.length_cons, List.length_nil, Nat.reduceAdd, Nat.reduceSub, List.replicate_succ, List.replicate_zero, List.cons_append, List.nil_append]
  repeat' (first
      | (with_reducible refine a_seq_k ?_; intro K hK)
      | ((first | with_reducible refine a_region (by kernel_rfl) ?_ | (with_reducible refine a_draw mixed (by kernel_rfl) ?_; intro C hC) | (with_reducible refine a_cond_k ?_; intro X Y hX hY) | with_reducible refine RetOk.mk ?_ | with_reducible refine CallS.intro (calc_agree _ _) ?_ | with_reducible refine CallD.intro (calc_agree _ _) ?_); simp (maxSteps := 10000000) (implicitDefEqProofs := false) only [go_sem,  ↓reduceIte, reduceCtorEq, Nat.reduceAdd, Nat.reduceSub, Nat.reduceLeDiff, Nat.reduceEqDiff, Nat.reduceMul, Nat.reduceLT, Nat.reducePow, Int.reduceEq, Int.reduceLT, Int.reduceLE, Int.reduceGT, Int.reduceGE, Int.reduceAdd, Int.reduceSub, Int.reduceNeg, Int.reduceToNat])
      | with_reducible refine a_block ?_
      | with_reducible refine a_ret ?_
      | with_reducible refine a_exit ?_
      | with_reducible refine a_skip ?_
      | with_reducible exact ConfOk.mk (by kernel_rfl)
      | (with_reducible refine eqT_of (eq33 _ _ _ _ _ _) ?_; simp)
      | (with_reducible refine eqT_of (eq35 _ _ _ _ _ _ _ _) ?_; simp)
      | ((fail_if_success with_reducible show False); with_reducible apply_assumption (exfalso := false) (symm := false) only [*, rfl, trivial, congrArg])
      | with_reducible refine And.intro ?_ ?_
      | (intro h; contradiction)
      | (intro h; subst h)
      | intro h
      | simp (maxSteps := 10000000) (implicitDefEqProofs := false) only [go_sem,  ↓reduceIte, reduceCtorEq, Nat.reduceAdd, Nat.reduceSub, Nat.reduceLeDiff, Nat.reduceEqDiff, Nat.reduceMul, Nat.reduceLT, Nat.reducePow, Int.reduceEq, Int.reduceLT, Int.reduceLE, Int.reduceGT, Int.reduceGE, Int.reduceAdd, Int.reduceSub, Int.reduceNeg, Int.reduceToNat])
theorem calc_Kind1 (k : Int) : ACalls Tryz.prog 114 [.int .u8 k] (.bool (decide (3 < k))) := by
  refine acalls_k Tryz.func114 rfl (by kernel_rfl) (congrArg Array.toList Tryz.results114) Tryz.ntmps114 ?_
  intro R hR
  simp only [st0, List.length_cons, List.length_nil, Nat.reduceAdd, Nat.reduceSub, List.replicate_succ, List.replicate_zero, List.cons_append, List.nil_append]
  repeat' (first
      | (with_reducible refine a_seq_k ?_; intro K hK)
      | ((first | with_reducible refine a_region (by kernel_rfl) ?_ | (with_reducible refine a_draw mixed (by kernel_rfl) ?_; intro C hC) | (with_reducible refine a_cond_k ?_; intro X Y hX hY) | with_reducible refine RetOk.mk ?_); simp (maxSteps := 10000000) (implicitDefEqProofs := false) only [go_sem,  ↓reduceIte, reduceCtorEq, Nat.reduceAdd, Nat.reduceSub, Nat.reduceLeDiff, Nat.reduceEqDiff, Nat.reduceMul, Nat.reduceLT, Nat.reducePow, Int.reduceEq, Int.reduceLT, Int.reduceLE, Int.reduceGT, Int.reduceGE, Int.reduceAdd, Int.reduceSub, Int.reduceNeg, Int.reduceToNat])
      | with_reducible refine a_block ?_
      | with_reducible refine a_ret ?_
      | with_reducible refine a_exit ?_
      | with_reducible refine a_skip ?_
      | with_reducible exact ConfOk.mk (by kernel_rfl)
      | (with_reducible refine eqT_of (eq33 _ _ _ _ _ _) ?_; simp)
      | (with_reducible refine eqT_of (eq35 _ _ _ _ _ _ _ _) ?_; simp)
      | ((fail_if_success with_reducible show False); with_reducible apply_assumption (exfalso := false) (symm := false) only [*, rfl, trivial, congrArg])
      | with_reducible refine And.intro ?_ ?_
      | (intro h; contradiction)
      | (intro h; subst h)
      | intro h
      | simp (maxSteps := 10000000) (implicitDefEqProofs := false) only [go_sem,  ↓reduceIte, reduceCtorEq, Nat.reduceAdd, Nat.reduceSub, Nat.reduceLeDiff, Nat.reduceEqDiff, Nat.reduceMul, Nat.reduceLT, Nat.reducePow, Int.reduceEq, Int.reduceLT, Int.reduceLE, Int.reduceGT, Int.reduceGE, Int.reduceAdd, Int.reduceSub, Int.reduceNeg, Int.reduceToNat])
def idxF {α : Type} (p : α → Bool) (ks : List α) : Int := if ks.any p = true then (ks.findIdx p : Int) else -1
theorem idxF_none {α : Type} {p : α → Bool} {ks : List α} (h : ks.any p = false) : -1 = idxF p ks := by unfold idxF; rw [if_neg (by simp [h])]
theorem idxF_hit {α : Type} {p : α → Bool} {pre rest : List α} {x : α} (h : pre.any p = false) (hx : p x = true) : (pre.length : Int) = idxF p (pre ++ x :: rest) := by
  have : List.findIdx p (pre ++ x :: rest) = pre.length := by
    induction pre with
    | nil => simp [List.findIdx_cons, hx]
    | cons y pre ih =>
      simp only [List.any_cons, Bool.or_eq_false_iff] at h
      simp [List.findIdx_cons, h.1, ih h.2]
  unfold idxF; rw [if_pos (by simp [hx]), this]
theorem idxF_ge {α : Type} (p : α → Bool) (ks : List α) : decide (0 ≤ idxF p ks) = ks.any p := by
  unfold idxF; split
  · rename_i h; rw [h]; simp
  · rename_i h; simp only [Bool.not_eq_true] at h; rw [h]; simp
theorem sl_IndexFunc (ks : List Int) (fn : FuncId) (cap : List AV) (p : Int → Bool) (hc : ∀ σ n, closeL (closeV σ (n + 1)) cap = some (cap, [])) (hf : ∀ x, ACalls Tryz.prog fn (.int .u8 x :: cap) (.bool (p x))) (hl : ks.length < 2 ^ 62) : ACalls Tryz.prog 203 [kinds ks, .func (.func fn) cap] (.int .i64 (idxF p ks)) := by
  refine acalls_k Tryz.func203 rfl (by kernel_rfl) (congrArg Array.toList Tryz.results203) Tryz.ntmps203 ?_
  intro R hR
  simp only [st0, List.length_cons, List.length_nil, Nat.reduceAdd, Nat.reduceSub, List.replicate_succ, List.replicate_zero, List.cons_append, List.nil_append]
  repeat' (first
      | (with_reducible refine a_seq_k ?_; intro K hK)
      | ((first | with_reducible refine a_region (by kernel_rfl) ?_ | (with_reducible refine a_draw mixed (by kernel_rfl) ?_; intro C hC) | (with_reducible refine a_cond_k ?_; intro X Y hX hY) | with_reducible refine RetOk.mk ?_); simp (maxSteps := 10000000) (implicitDefEqProofs := false) only [go_sem,  ↓reduceIte, reduceCtorEq, Nat.reduceAdd, Nat.reduceSub, Nat.reduceLeDiff, Nat.reduceEqDiff, Nat.reduceMul, Nat.reduceLT, Nat.reducePow, Int.reduceEq, Int.reduceLT, Int.reduceLE, Int.reduceGT, Int.reduceGE, Int.reduceAdd, Int.reduceSub, Int.reduceNeg, Int.reduceToNat])
      | with_reducible refine a_block ?_
      | with_reducible refine a_ret ?_
      | with_reducible refine a_exit ?_
      | with_reducible refine a_skip ?_
      | with_reducible exact ConfOk.mk (by kernel_rfl)
      | (with_reducible refine eqT_of (eq33 _ _ _ _ _ _) ?_; simp)
      | (with_reducible refine eqT_of (eq35 _ _ _ _ _ _ _ _) ?_; simp)
      | ((fail_if_success with_reducible show False); with_reducible apply_assumption (exfalso := false) (symm := false) only [*, rfl, trivial, congrArg])
      | with_reducible refine And.intro ?_ ?_
      | (intro h; contradiction)
      | (intro h; subst h)
      | intro h
      | simp (maxSteps := 10000000) (implicitDefEqProofs := false) only [go_sem,  ↓reduceIte, reduceCtorEq, Nat.reduceAdd, Nat.reduceSub, Nat.reduceLeDiff, Nat.reduceEqDiff, Nat.reduceMul, Nat.reduceLT, Nat.reducePow, Int.reduceEq, Int.reduceLT, Int.reduceLE, Int.reduceGT, Int.reduceGE, Int.reduceAdd, Int.reduceSub, Int.reduceNeg, Int.reduceToNat])
  refine a_loop_k (fun n st => ∃ (g : Nat) (pre rest : List _) (acc : Unit), ks = pre ++ rest ∧ n = rest.length ∧ ((pre.any p) = false) ∧ Has st 19 [(0, .slice (ks.map kd)), (1, .func (.func fn) cap), (6, .slice (ks.map kd)), (7, .int .i64 ks.length), (8, .int .i64 pre.length)] []) (ks).length ⟨0, [], ks, (), rfl, rfl, rfl, ⟨rfl, rfl, by simp [kd, Outv.enc, Val.enc], by simp [kd, Outv.enc, Val.enc]⟩⟩ ?_
  rintro n st ⟨g, pre, rest, acc, he, rfl, hp, hs⟩ K hK
  have hw := wrap_nat pre.length (by have := congrArg List.length he; simp at this; omega)
  subst he
  refine a_has hs fun τ σ γ => ?_
  rcases rest with _ | ⟨x, rest⟩
  · repeat' (first
        | (with_reducible refine a_seq_k ?_; intro K hK)
        | ((first | with_reducible refine a_region (by kernel_rfl) ?_ | (with_reducible refine a_draw mixed (by kernel_rfl) ?_; intro C hC) | (with_reducible refine a_cond_k ?_; intro X Y hX hY) | with_reducible refine RetOk.mk ?_); simp (maxSteps := 10000000) (implicitDefEqProofs := false) only [go_sem, kd, hw, hc,  ↓reduceIte, reduceCtorEq, Nat.reduceAdd, Nat.reduceSub, Nat.reduceLeDiff, Nat.reduceEqDiff, Nat.reduceMul, Nat.reduceLT, Nat.reducePow, Int.reduceEq, Int.reduceLT, Int.reduceLE, Int.reduceGT, Int.reduceGE, Int.reduceAdd, Int.reduceSub, Int.reduceNeg, Int.reduceToNat])
        | with_reducible refine a_block ?_
        | with_reducible refine a_ret ?_
        | with_reducible refine a_exit ?_
        | with_reducible refine a_skip ?_
        | with_reducible exact ConfOk.mk (by kernel_rfl)
        | (with_reducible refine eqT_of (eq33 _ _ _ _ _ _) ?_; simp)
        | (with_reducible refine eqT_of (eq35 _ _ _ _ _ _ _ _) ?_; simp)
        | ((fail_if_success with_reducible show False); with_reducible apply_assumption (exfalso := false) (symm := false) only [*, rfl, trivial, congrArg])
        | with_reducible refine And.intro ?_ ?_
        | (intro h; contradiction)
        | (intro h; subst h)
        | intro h
        | simp (maxSteps := 10000000) (implicitDefEqProofs := false) only [go_sem, kd, hw, hc,  ↓reduceIte, reduceCtorEq, Nat.reduceAdd, Nat.reduceSub, Nat.reduceLeDiff, Nat.reduceEqDiff, Nat.reduceMul, Nat.reduceLT, Nat.reducePow, Int.reduceEq, Int.reduceLT, Int.reduceLE, Int.reduceGT, Int.reduceGE, Int.reduceAdd, Int.reduceSub, Int.reduceNeg, Int.reduceToNat])
    · simp at hp; exact idxF_none (by simpa using hp)
  · repeat' (first
        | (with_reducible refine a_seq_k ?_; intro K hK)
        | ((first | with_reducible refine a_region (by kernel_rfl) ?_ | (with_reducible refine a_draw mixed (by kernel_rfl) ?_; intro C hC) | (with_reducible refine a_cond_k ?_; intro X Y hX hY) | with_reducible refine RetOk.mk ?_ | with_reducible refine CallS.intro (hf _) ?_ | with_reducible refine CallD.intro (hf _) ?_); simp (maxSteps := 10000000) (implicitDefEqProofs := false) only [go_sem, kd, hw, hc,  ↓reduceIte, reduceCtorEq, Nat.reduceAdd, Nat.reduceSub, Nat.reduceLeDiff, Nat.reduceEqDiff, Nat.reduceMul, Nat.reduceLT, Nat.reducePow, Int.reduceEq, Int.reduceLT, Int.reduceLE, Int.reduceGT, Int.reduceGE, Int.reduceAdd, Int.reduceSub, Int.reduceNeg, Int.reduceToNat])
        | with_reducible refine a_block ?_
        | with_reducible refine a_ret ?_
        | with_reducible refine a_exit ?_
        | with_reducible refine a_skip ?_
        | with_reducible exact ConfOk.mk (by kernel_rfl)
        | (with_reducible refine eqT_of (eq33 _ _ _ _ _ _) ?_; simp)
        | (with_reducible refine eqT_of (eq35 _ _ _ _ _ _ _ _) ?_; simp)
        | ((fail_if_success with_reducible show False); with_reducible apply_assumption (exfalso := false) (symm := false) only [*, rfl, trivial, congrArg])
        | with_reducible refine And.intro ?_ ?_
        | (intro h; contradiction)
        | (intro h; subst h)
        | intro h
        | simp (maxSteps := 10000000) (implicitDefEqProofs := false) only [go_sem, kd, hw, hc,  ↓reduceIte, reduceCtorEq, Nat.reduceAdd, Nat.reduceSub, Nat.reduceLeDiff, Nat.reduceEqDiff, Nat.reduceMul, Nat.reduceLT, Nat.reducePow, Int.reduceEq, Int.reduceLT, Int.reduceLE, Int.reduceGT, Int.reduceGE, Int.reduceAdd, Int.reduceSub, Int.reduceNeg, Int.reduceToNat])
    · exact idxF_hit (by assumption) (by assumption)
    · exact ⟨⟨rest.length, by simp, 0, pre ++ [x], rest, (), by simp, rfl, by simp [*], ⟨rfl, rfl, by simp [kd, Outv.enc, Val.enc], by simp [kd, Outv.enc, Val.enc]⟩⟩⟩
theorem sl_ContainsFunc (ks : List Int) (fn : FuncId) (cap : List AV) (p : Int → Bool) (hc : ∀ σ n, closeL (closeV σ (n + 1)) cap = some (cap, [])) (hf : ∀ x, ACalls Tryz.prog fn (.int .u8 x :: cap) (.bool (p x))) (hl : ks.length < 2 ^ 62) : ACalls Tryz.prog 113 [kinds ks, .func (.func fn) cap] (.bool (ks.any p)) := by
  refine acalls_k Tryz.func113 rfl (by kernel_rfl) (congrArg Array.toList Tryz.results113) Tryz.ntmps113 ?_
  intro R hR
  simp only [st0, List.length_cons, List.length_nil, Nat.reduceAdd, Nat.reduceSub, List.replicate_succ, List.replicate_zero, List.cons_append, List.nil_append]
  repeat' (first
      | (with_reducible refine a_seq_k ?_; intro K hK)
      | ((first | with_reducible refine a_region (by kernel_rfl) ?_ | (with_reducible refine a_draw mixed (by kernel_rfl) ?_; intro C hC) | (with_reducible refine a_cond_k ?_; intro X Y hX hY) | with_reducible refine RetOk.mk ?_ | with_reducible refine CallS.intro (sl_IndexFunc _ _ _ _ hc hf hl) ?_ | with_reducible refine CallD.intro (sl_IndexFunc _ _ _ _ hc hf hl) ?_); simp (maxSteps := 10000000) (implicitDefEqProofs := false) only [go_sem, kd, hc,  ↓reduceIte, reduceCtorEq, Nat.reduceAdd, Nat.reduceSub, Nat.reduceLeDiff, Nat.reduceEqDiff, Nat.reduceMul, Nat.reduceLT, Nat.reducePow, Int.reduceEq, Int.reduceLT, Int.reduceLE, Int.reduceGT, Int.reduceGE, Int.reduceAdd, Int.reduceSub, Int.reduceNeg, Int.reduceToNat])
      | with_reducible refine a_block ?_
      | with_reducible refine a_ret ?_
      | with_reducible refine a_exit ?_
      | with_reducible refine a_skip ?_
      | with_reducible exact ConfOk.mk (by kernel_rfl)
      | (with_reducible refine eqT_of (eq33 _ _ _ _ _ _) ?_; simp)
      | (with_reducible refine eqT_of (eq35 _ _ _ _ _ _ _ _) ?_; simp)
      | ((fail_if_success with_reducible show False); with_reducible apply_assumption (exfalso := false) (symm := false) only [*, rfl, trivial, congrArg])
      | with_reducible refine And.intro ?_ ?_
      | (intro h; contradiction)
      | (intro h; subst h)
      | intro h
      | simp (maxSteps := 10000000) (implicitDefEqProofs := false) only [go_sem, kd, hc,  ↓reduceIte, reduceCtorEq, Nat.reduceAdd, Nat.reduceSub, Nat.reduceLeDiff, Nat.reduceEqDiff, Nat.reduceMul, Nat.reduceLT, Nat.reducePow, Int.reduceEq, Int.reduceLT, Int.reduceLE, Int.reduceGT, Int.reduceGE, Int.reduceAdd, Int.reduceSub, Int.reduceNeg, Int.reduceToNat])
  all_goals simp [idxF_ge]
@[reducible] def mx (k x : Int) : Int := if k < x then x else k
def maxOf (ks : List Int) : Int := ks.foldl mx 0
def commonC (ks : List Int) : Int × Bool := (maxOf ks, !ks.any fun l => !agree l (maxOf ks))
theorem calc_common (ks : List Int) (hl : ks.length < 2 ^ 62) : ACalls Tryz.prog 116 [kinds ks] (.tuple [.int .u8 (commonC ks).1, .bool (commonC ks).2]) := by
  refine acalls_k Tryz.func116 rfl (by kernel_rfl) (congrArg Array.toList Tryz.results116) Tryz.ntmps116 ?_
  intro R hR
  simp only [st0, List.length_cons, List.length_nil, Nat.reduceAdd, Nat.reduceSub, List.replicate_succ, List.replicate_zero, List.cons_append, List.nil_append]
  repeat' (first
      | (with_reducible refine a_seq_k ?_; intro K hK)
      | ((first | with_reducible refine a_region (by kernel_rfl) ?_ | (with_reducible refine a_draw mixed (by kernel_rfl) ?_; intro C hC) | (with_reducible refine a_cond_k ?_; intro X Y hX hY) | with_reducible refine RetOk.mk ?_); simp (maxSteps := 10000000) (implicitDefEqProofs := false) only [go_sem,  ↓reduceIte, reduceCtorEq, Nat.reduceAdd, Nat.reduceSub, Nat.reduceLeDiff, Nat.reduceEqDiff, Nat.reduceMul, Nat.reduceLT, Nat.reducePow, Int.reduceEq, Int.reduceLT, Int.reduceLE, Int.reduceGT, Int.reduceGE, Int.reduceAdd, Int.reduceSub, Int.reduceNeg, Int.reduceToNat])
      | with_reducible refine a_block ?_
      | with_reducible refine a_ret ?_
      | with_reducible refine a_exit ?_
      | with_reducible refine a_skip ?_
      | with_reducible exact ConfOk.mk (by kernel_rfl)
      | (with_reducible refine eqT_of (eq33 _ _ _ _ _ _) ?_; simp)
      | (with_reducible refine eqT_of (eq35 _ _ _ _ _ _ _ _) ?_; simp)
      | ((fail_if_success with_reducible show False); with_reducible apply_assumption (exfalso := false) (symm := false) only [*, rfl, trivial, congrArg])
      | with_reducible refine And.intro ?_ ?_
      | (intro h; contradiction)
      | (intro h; subst h)
      | intro h
      | simp (maxSteps := 10000000) (implicitDefEqProofs := false) only [go_sem,  ↓reduceIte, reduceCtorEq, Nat.reduceAdd, Nat.reduceSub, Nat.reduceLeDiff, Nat.reduceEqDiff, Nat.reduceMul, Nat.reduceLT, Nat.reducePow, Int.reduceEq, Int.reduceLT, Int.reduceLE, Int.reduceGT, Int.reduceGE, Int.reduceAdd, Int.reduceSub, Int.reduceNeg, Int.reduceToNat])
  refine a_loop_k (fun n st => ∃ (g : Nat) (pre rest : List _) (k : Int), ks = pre ++ rest ∧ n = rest.length ∧ (rest.foldl mx k = maxOf ks) ∧ Has st 21 [(0, .slice (ks.map kd)), (2, .ptr 2 g 0), (3, .bool false), (6, .slice (ks.map kd)), (7, .int .i64 ks.length), (8, .int .i64 pre.length)] [(2, .box g [.int .u8 k])]) (ks).length ⟨0, [], ks, 0, rfl, rfl, rfl, ⟨rfl, rfl, by simp [kd, Outv.enc, Val.enc], by simp [kd, Outv.enc, Val.enc]⟩⟩ ?_
  rintro n st ⟨g, pre, rest, k, he, rfl, hp, hs⟩ K hK
  have hw := wrap_nat pre.length (by have := congrArg List.length he; simp at this; omega)
  subst he
  refine a_has hs fun τ σ γ => ?_
  rcases rest with _ | ⟨x, rest⟩
  · repeat' (first
        | (with_reducible refine a_seq_k ?_; intro K hK)
        | ((first | with_reducible refine a_region (by kernel_rfl) ?_ | (with_reducible refine a_draw mixed (by kernel_rfl) ?_; intro C hC) | (with_reducible refine a_cond_k ?_; intro X Y hX hY) | with_reducible refine RetOk.mk ?_ | with_reducible refine CallS.intro (sl_ContainsFunc pre _ _ _ (fun _ _ => rfl) (fun x => calc_common1 x _) (by simpa using hl)) ?_ | with_reducible refine CallD.intro (sl_ContainsFunc pre _ _ _ (fun _ _ => rfl) (fun x => calc_common1 x _) (by simpa using hl)) ?_); simp (maxSteps := 10000000) (implicitDefEqProofs := false) only [go_sem, kd, hw,  ↓reduceIte, reduceCtorEq, Nat.reduceAdd, Nat.reduceSub, Nat.reduceLeDiff, Nat.reduceEqDiff, Nat.reduceMul, Nat.reduceLT, Nat.reducePow, Int.reduceEq, Int.reduceLT, Int.reduceLE, Int.reduceGT, Int.reduceGE, Int.reduceAdd, Int.reduceSub, Int.reduceNeg, Int.reduceToNat])
        | with_reducible refine a_block ?_
        | with_reducible refine a_ret ?_
        | with_reducible refine a_exit ?_
        | with_reducible refine a_skip ?_
        | with_reducible exact ConfOk.mk (by kernel_rfl)
        | (with_reducible refine eqT_of (eq33 _ _ _ _ _ _) ?_; simp)
        | (with_reducible refine eqT_of (eq35 _ _ _ _ _ _ _ _) ?_; simp)
        | ((fail_if_success with_reducible show False); with_reducible apply_assumption (exfalso := false) (symm := false) only [*, rfl, trivial, congrArg])
        | with_reducible refine And.intro ?_ ?_
        | (intro h; contradiction)
        | (intro h; subst h)
        | intro h
        | simp (maxSteps := 10000000) (implicitDefEqProofs := false) only [go_sem, kd, hw,  ↓reduceIte, reduceCtorEq, Nat.reduceAdd, Nat.reduceSub, Nat.reduceLeDiff, Nat.reduceEqDiff, Nat.reduceMul, Nat.reduceLT, Nat.reducePow, Int.reduceEq, Int.reduceLT, Int.reduceLE, Int.reduceGT, Int.reduceGE, Int.reduceAdd, Int.reduceSub, Int.reduceNeg, Int.reduceToNat])
    · simp only [List.append_nil, List.foldl_nil] at hp; simp [commonC, ← hp]
  · repeat' (first
        | (with_reducible refine a_seq_k ?_; intro K hK)
        | ((first | with_reducible refine a_region (by kernel_rfl) ?_ | (with_reducible refine a_draw mixed (by kernel_rfl) ?_; intro C hC) | (with_reducible refine a_cond_k ?_; intro X Y hX hY) | with_reducible refine RetOk.mk ?_); simp (maxSteps := 10000000) (implicitDefEqProofs := false) only [go_sem, kd, hw,  ↓reduceIte, reduceCtorEq, Nat.reduceAdd, Nat.reduceSub, Nat.reduceLeDiff, Nat.reduceEqDiff, Nat.reduceMul, Nat.reduceLT, Nat.reducePow, Int.reduceEq, Int.reduceLT, Int.reduceLE, Int.reduceGT, Int.reduceGE, Int.reduceAdd, Int.reduceSub, Int.reduceNeg, Int.reduceToNat])
        | with_reducible refine a_block ?_
        | with_reducible refine a_ret ?_
        | with_reducible refine a_exit ?_
        | with_reducible refine a_skip ?_
        | with_reducible exact ConfOk.mk (by kernel_rfl)
        | (with_reducible refine eqT_of (eq33 _ _ _ _ _ _) ?_; simp)
        | (with_reducible refine eqT_of (eq35 _ _ _ _ _ _ _ _) ?_; simp)
        | ((fail_if_success with_reducible show False); with_reducible apply_assumption (exfalso := false) (symm := false) only [*, rfl, trivial, congrArg])
        | with_reducible refine And.intro ?_ ?_
        | (intro h; contradiction)
        | (intro h; subst h)
        | intro h
        | simp (maxSteps := 10000000) (implicitDefEqProofs := false) only [go_sem, kd, hw,  ↓reduceIte, reduceCtorEq, Nat.reduceAdd, Nat.reduceSub, Nat.reduceLeDiff, Nat.reduceEqDiff, Nat.reduceMul, Nat.reduceLT, Nat.reducePow, Int.reduceEq, Int.reduceLT, Int.reduceLE, Int.reduceGT, Int.reduceGE, Int.reduceAdd, Int.reduceSub, Int.reduceNeg, Int.reduceToNat])
    · exact ⟨⟨rest.length, by simp, g, pre ++ [x], rest, mx k x, by simp, rfl, hp, ⟨rfl, rfl, by simp [kd, Outv.enc, Val.enc], by simp [kd, Outv.enc, Val.enc]⟩⟩⟩
end Go.Proofs.YtleadljchhkiiaaGreatDoor
end

section
namespace Go.Proofs.YtleadljchhkiiaaGreatDoor
open Go Go.Ab
attribute [local go_sem ↓] parts_tt parts_ff parts_tf parts_ft
attribute [local go_sem] parts_eq learnT aops_nil aops_cons aopsD_nil aopsD_cons stepS stepD gval St.learn skipR St.after putτ applyUpd List.foldl_cons List.foldl_nil pureOp memOp callOf litA closeO closeK List.flatMap_cons List.flatMap_nil Option.map_none decide_false opnd ofConst leaf binA unA lenA indexA indexAddrA fieldAddrA fieldA sliceA convertA pickV fillA placeS cellsA setA partA loadM storeM appendM srcEls lookBox lookRow lookMap closeL closeV scalarB scalarL killed buildEls lookupA leafEq eqAll resA resL tupA retA thenA blockA isInt loA hiA foldA maxA minA okSize leafB closedB Res.foot List.getD_cons_zero List.getD_cons_succ List.set_cons_zero List.set_cons_succ List.map_cons List.map_nil List.append_nil List.nil_append List.cons_append List.length_cons List.length_nil List.take_succ_cons List.take_zero List.drop_succ_cons List.drop_zero List.take_nil List.drop_nil List.all_cons List.all_nil List.getElem?_toArray List.getElem?_cons_zero List.getElem?_cons_succ Option.bind_some Option.map_some true_and and_true true_implies ne_eq not_true_eq_false not_false_eq_true Bool.true_eq_false Bool.false_eq_true Bool.not_true Bool.not_false decide_eq_true_eq decide_eq_false_iff_not false_implies implies_true and_self ite_true ite_false cond_true cond_false Option.some.injEq List.reverse_cons List.reverse_nil Bool.and_self Bool.true_and Bool.and_true Bool.false_and Bool.and_false Bool.or_true Bool.true_or Bool.or_false Bool.false_or Bool.not_eq_eq_eq_not Bool.not_not Bool.or_self beq_self_eq_true and_false false_and or_true true_or or_false false_or not_true not_false_iff Decidable.not_not lookT lookR tabT tabR Int.toNat_natCast List.length_map List.map_append List.length_append decide_true decide_false tmod2 List.mem_singleton forall_eq elOk1 elOk3 elOk4 castn0 castn1 castn2 castn3 getD_mid getD_mid_map at_lt at_end mid_lt mid_lt' nat_ge List.size_toArray Array.size_empty Nat.add_zero Nat.zero_add
attribute [local irreducible] ASpec ACalls retA ti EqT
set_option linter.unusedSimpArgs false
set_option maxHeartbeats 4000000
set_option maxRecDepth 100000
set_option linter.unusedVariables false
attribute [local go_sem] ti2 ti3 ti4 ti5 ti9 ti21 ti22 ti24 ti26 ti34 ti42 ti55 ti71 ti72 ti81 ti103 ti134 ti146 ti153 ti161 ti165 ti176 ti205 ti221 ti222 ti247
def sortOf (op : Int) : Int × Int :=
  if op = 4 then (1, 1) else if op = 5 ∨ op = 6 ∨ op = 7 ∨ op = 8 ∨ op = 9 then (1, 2) else if op = 10 then (2, 2) else if op = 11 then (3, 1)
  else if op = 12 ∨ op = 13 ∨ op = 14 ∨ op = 15 ∨ op = 16 ∨ op = 17 ∨ op = 18 then (4, 2) else if op = 19 then (5, 2) else if op = 20 then (6, 1)
  else if op = 21 ∨ op = 22 then (7, 1) else if op = 23 ∨ op = 24 then (8, -1) else if op = 25 then (9, -1) else if op = 26 then (10, -1) else (0, 0)
theorem ref_sortOf (op : Int) : ACalls Tryz.prog 142 [.int .u8 op] (.tuple [.int .i64 (sortOf op).1, .int .i64 (sortOf op).2]) := by
  refine acalls_k Tryz.func142 rfl (by kernel_rfl) (congrArg Array.toList Tryz.results142) Tryz.ntmps142 ?_
  intro R hR
  simp only [st0, List.length_cons, List.length_nil, Nat.reduceAdd, Nat.reduceSub, List.replicate_succ, List.replicate_zero, List.cons_append, List.nil_append]
  repeat' (first
      | (with_reducible refine a_seq_k ?_; intro K hK)
      | ((first | with_reducible refine a_region (by kernel_rfl) ?_ | (with_reducible refine a_draw mixed (by kernel_rfl) ?_; intro C hC) | (with_reducible refine a_cond_k ?_; intro X Y hX hY) | with_reducible refine RetOk.mk ?_); simp (maxSteps := 10000000) (implicitDefEqProofs := false) only [go_sem,  ↓reduceIte, reduceCtorEq, Nat.reduceAdd, Nat.reduceSub, Nat.reduceLeDiff, Nat.reduceEqDiff, Nat.reduceMul, Nat.reduceLT, Nat.reducePow, Int.reduceEq, Int.reduceLT, Int.reduceLE, Int.reduceGT, Int.reduceGE, Int.reduceAdd, Int.reduceSub, Int.reduceNeg, Int.reduceToNat])
      | with_reducible refine a_block ?_
      | with_reducible refine a_ret ?_
      | with_reducible refine a_exit ?_
      | with_reducible refine a_skip ?_
      | with_reducible exact ConfOk.mk (by kernel_rfl)
      | (with_reducible refine eqT_of (eq33 _ _ _ _ _ _) ?_; simp)
      | (with_reducible refine eqT_of (eq35 _ _ _ _ _ _ _ _) ?_; simp)
      | ((fail_if_success with_reducible show False); with_reducible apply_assumption (exfalso := false) (symm := false) only [*, rfl, trivial, congrArg])
      | with_reducible refine And.intro ?_ ?_
      | (intro h; contradiction)
      | (intro h; subst h)
      | intro h
      | simp (maxSteps := 10000000) (implicitDefEqProofs := false) only [go_sem,  ↓reduceIte, reduceCtorEq, Nat.reduceAdd, Nat.reduceSub, Nat.reduceLeDiff, Nat.reduceEqDiff, Nat.reduceMul, Nat.reduceLT, Nat.reducePow, Int.reduceEq, Int.reduceLT, Int.reduceLE, Int.reduceGT, Int.reduceGE, Int.reduceAdd, Int.reduceSub, Int.reduceNeg, Int.reduceToNat])
  all_goals simp [sortOf, *]
structure Sig where
  least : Int
  most : Int
  takes : Int
  gives : Int
def Sig.enc (s : Sig) : List AV := [.int .i64 s.least, .int .i64 s.most, .int .u8 s.takes, .int .u8 s.gives]
def sigOf (op : Int) : Sig × Bool :=
  if op = 4 then (⟨1, 1, 1, 1⟩, true) else if op = 5 ∨ op = 6 ∨ op = 7 ∨ op = 8 ∨ op = 9 then (⟨2, 2, 1, 1⟩, true) else if op = 10 then (⟨2, 2, 2, 2⟩, true) else if op = 11 then (⟨1, 1, 2, 1⟩, true)
  else if op = 19 then (⟨2, 2, 2, 3⟩, true) else if op = 12 ∨ op = 13 ∨ op = 14 ∨ op = 15 ∨ op = 16 ∨ op = 17 ∨ op = 18 then (⟨2, 2, 0, 3⟩, true) else if op = 20 then (⟨1, 1, 0, 3⟩, true)
  else if op = 21 ∨ op = 22 then (⟨1, 1, 3, 3⟩, true) else if op = 23 ∨ op = 24 then (⟨0, 2 ^ 62, 3, 3⟩, true) else if op = 26 then (⟨1, 2 ^ 62, 0, 0⟩, true) else (⟨0, 0, 0, 0⟩, false)
theorem calc_signatures (op : Int) : ACalls Tryz.prog 112 [.int .u8 op] (.tuple [.agg (sigOf op).1.enc, .bool (sigOf op).2]) := by
  refine acalls_k Tryz.func112 rfl (by kernel_rfl) (congrArg Array.toList Tryz.results112) Tryz.ntmps112 ?_
  intro R hR
  simp only [st0, List.length_cons, List.length_nil, Nat.reduceAdd, Nat.reduceSub, List.replicate_succ, List.replicate_zero, List.cons_append, List.nil_append]
  repeat' (first
      | (with_reducible refine a_seq_k ?_; intro K hK)
      | ((first | with_reducible refine a_region (by kernel_rfl) ?_ | (with_reducible refine a_draw mixed (by kernel_rfl) ?_; intro C hC) | (with_reducible refine a_cond_k ?_; intro X Y hX hY) | with_reducible refine RetOk.mk ?_); simp (maxSteps := 10000000) (implicitDefEqProofs := false) only [go_sem,  ↓reduceIte, reduceCtorEq, Nat.reduceAdd, Nat.reduceSub, Nat.reduceLeDiff, Nat.reduceEqDiff, Nat.reduceMul, Nat.reduceLT, Nat.reducePow, Int.reduceEq, Int.reduceLT, Int.reduceLE, Int.reduceGT, Int.reduceGE, Int.reduceAdd, Int.reduceSub, Int.reduceNeg, Int.reduceToNat])
      | with_reducible refine a_block ?_
      | with_reducible refine a_ret ?_
      | with_reducible refine a_exit ?_
      | with_reducible refine a_skip ?_
      | with_reducible exact ConfOk.mk (by kernel_rfl)
      | (with_reducible refine eqT_of (eq33 _ _ _ _ _ _) ?_; simp)
      | (with_reducible refine eqT_of (eq35 _ _ _ _ _ _ _ _) ?_; simp)
      | ((fail_if_success with_reducible show False); with_reducible apply_assumption (exfalso := false) (symm := false) only [*, rfl, trivial, congrArg])
      | with_reducible refine And.intro ?_ ?_
      | (intro h; contradiction)
      | (intro h; subst h)
      | intro h
      | simp (maxSteps := 10000000) (implicitDefEqProofs := false) only [go_sem,  ↓reduceIte, reduceCtorEq, Nat.reduceAdd, Nat.reduceSub, Nat.reduceLeDiff, Nat.reduceEqDiff, Nat.reduceMul, Nat.reduceLT, Nat.reducePow, Int.reduceEq, Int.reduceLT, Int.reduceLE, Int.reduceGT, Int.reduceGE, Int.reduceAdd, Int.reduceSub, Int.reduceNeg, Int.reduceToNat])
  all_goals simp [sigOf, Sig.enc, *]
end Go.Proofs.YtleadljchhkiiaaGreatDoor
end
end

section
namespace Go.Proofs.YtleadljchhkiiaaGreatDoor
open Go Go.Ab
attribute [local go_sem ↓] parts_tt parts_ff parts_tf parts_ft
attribute [local go_sem] parts_eq learnT aops_nil aops_cons aopsD_nil aopsD_cons stepS stepD gval St.learn skipR St.after putτ applyUpd List.foldl_cons List.foldl_nil pureOp memOp callOf litA closeO closeK List.flatMap_cons List.flatMap_nil Option.map_none decide_false opnd ofConst leaf binA unA lenA indexA indexAddrA fieldAddrA fieldA sliceA convertA pickV fillA placeS cellsA setA partA loadM storeM appendM srcEls lookBox lookRow lookMap closeL closeV scalarB scalarL killed buildEls lookupA leafEq eqAll resA resL tupA retA thenA blockA isInt loA hiA foldA maxA minA okSize leafB closedB Res.foot List.getD_cons_zero List.getD_cons_succ List.set_cons_zero List.set_cons_succ List.map_cons List.map_nil List.append_nil List.nil_append List.cons_append List.length_cons List.length_nil List.take_succ_cons List.take_zero List.drop_succ_cons List.drop_zero List.take_nil List.drop_nil List.all_cons List.all_nil List.getElem?_toArray List.getElem?_cons_zero List.getElem?_cons_succ Option.bind_some Option.map_some true_and and_true true_implies ne_eq not_true_eq_false not_false_eq_true Bool.true_eq_false Bool.false_eq_true Bool.not_true Bool.not_false decide_eq_true_eq decide_eq_false_iff_not false_implies implies_true and_self ite_true ite_false cond_true cond_false Option.some.injEq List.reverse_cons List.reverse_nil Bool.and_self Bool.true_and Bool.and_true Bool.false_and Bool.and_false Bool.or_true Bool.true_or Bool.or_false Bool.false_or Bool.not_eq_eq_eq_not Bool.not_not Bool.or_self beq_self_eq_true and_false false_and or_true true_or or_false false_or not_true not_false_iff Decidable.not_not lookT lookR tabT tabR Int.toNat_natCast List.length_map List.map_append List.length_append decide_true decide_false tmod2 List.mem_singleton forall_eq elOk1 elOk3 elOk4 castn0 castn1 castn2 castn3 getD_mid getD_mid_map at_lt at_end mid_lt mid_lt' nat_ge List.size_toArray Array.size_empty Nat.add_zero Nat.zero_add
attribute [local irreducible] ASpec ACalls retA ti EqT
set_option linter.unusedSimpArgs false
set_option maxHeartbeats 4000000
set_option maxRecDepth 100000
set_option linter.unusedVariables false
attribute [local go_sem] ti2 ti3 ti4 ti5 ti9 ti21 ti22 ti24 ti26 ti34 ti42 ti55 ti71 ti72 ti81 ti103 ti134 ti146 ti153 ti161 ti165 ti176 ti205 ti221 ti222 ti247
def caseGo (even : Bool) : List Int → List Int × List Int
  | [] => ([], [])
  | x :: r => if even = true ∧ r ≠ [] then (x :: (caseGo (!even) r).1, (caseGo (!even) r).2) else ((caseGo (!even) r).1, x :: (caseGo (!even) r).2)
theorem caseGo_step {n : Nat} {x : Int} {rest c o C O : List Int} (hp : c ++ (caseGo (decide (n % 2 = 0)) (x :: rest)).1 = C ∧ o ++ (caseGo (decide (n % 2 = 0)) (x :: rest)).2 = O) :
    (n % 2 = 0 ∧ rest ≠ [] → (c ++ [x]) ++ (caseGo (decide ((n + 1) % 2 = 0)) rest).1 = C ∧ o ++ (caseGo (decide ((n + 1) % 2 = 0)) rest).2 = O) ∧
    (¬ (n % 2 = 0 ∧ rest ≠ []) → c ++ (caseGo (decide ((n + 1) % 2 = 0)) rest).1 = C ∧ (o ++ [x]) ++ (caseGo (decide ((n + 1) % 2 = 0)) rest).2 = O) := by
  have e : decide ((n + 1) % 2 = 0) = !decide (n % 2 = 0) := by
    by_cases h : n % 2 = 0 <;> simp [h] <;> omega
  refine ⟨fun h => ?_, fun h => ?_⟩
  · rw [caseGo, if_pos (by simpa using h)] at hp; rw [e]; simpa using hp
  · rw [caseGo, if_neg (by simpa using h)] at hp; rw [e]; simpa using hp
theorem ref_caseKinds (ks : List Int) (hl : ks.length < 2 ^ 45) : ACalls Tryz.prog 229 [kinds ks] (.tuple [kinds (caseGo true ks).1, kinds (caseGo true ks).2]) := by
  refine acalls_k Tryz.func229 rfl (by kernel_rfl) (congrArg Array.toList Tryz.results229) Tryz.ntmps229 ?_
  intro R hR
  simp only [st0, List.length_cons, List.length_nil, Nat.reduceAdd, Nat.reduceSub, List.replicate_succ, List.replicate_zero, List.cons_append, List.nil_append]
  repeat' (first
      | (with_reducible refine a_seq_reg ?_; intro K hK)
      | ((first | with_reducible refine a_region (by kernel_rfl) ?_ | (with_reducible refine a_draw mixed (by kernel_rfl) ?_; intro C hC) | (with_reducible refine a_cond_k ?_; intro X Y hX hY) | with_reducible refine RetOk.mk ?_); simp (maxSteps := 10000000) (implicitDefEqProofs := false) only [go_sem,  ↓reduceIte, reduceCtorEq, Nat.reduceAdd, Nat.reduceSub, Nat.reduceLeDiff, Nat.reduceEqDiff, Nat.reduceMul, Nat.reduceLT, Nat.reducePow, Int.reduceEq, Int.reduceLT, Int.reduceLE, Int.reduceGT, Int.reduceGE, Int.reduceAdd, Int.reduceSub, Int.reduceNeg, Int.reduceToNat])
      | with_reducible refine a_block ?_
      | with_reducible refine a_ret ?_
      | with_reducible refine a_exit ?_
      | with_reducible refine a_skip ?_
      | with_reducible exact ConfOk.mk (by kernel_rfl)
      | (with_reducible refine eqT_of (eq33 _ _ _ _ _ _) ?_; simp)
      | (with_reducible refine eqT_of (eq35 _ _ _ _ _ _ _ _) ?_; simp)
      | ((fail_if_success with_reducible show False); with_reducible apply_assumption (exfalso := false) (symm := false) only [*, rfl, trivial, congrArg])
      | with_reducible refine And.intro ?_ ?_
      | (intro h; contradiction)
      | (intro h; subst h)
      | intro h
      | simp (maxSteps := 10000000) (implicitDefEqProofs := false) only [go_sem,  ↓reduceIte, reduceCtorEq, Nat.reduceAdd, Nat.reduceSub, Nat.reduceLeDiff, Nat.reduceEqDiff, Nat.reduceMul, Nat.reduceLT, Nat.reducePow, Int.reduceEq, Int.reduceLT, Int.reduceLE, Int.reduceGT, Int.reduceGE, Int.reduceAdd, Int.reduceSub, Int.reduceNeg, Int.reduceToNat])
  refine a_cut (fun st => ∃ g g', Has st 39 [(4, .view 29 g), (5, .view 36 g')] [(29, .row g 1 ((caseGo true ks).1.map kd)), (36, .row g' 1 ((caseGo true ks).2.map kd))]) (fun K hK => ?_) ?_
  · repeat' (first
        | (with_reducible refine a_seq_reg ?_; intro K hK)
        | ((first | with_reducible refine a_region (by kernel_rfl) ?_ | (with_reducible refine a_draw mixed (by kernel_rfl) ?_; intro C hC) | (with_reducible refine a_cond_k ?_; intro X Y hX hY) | with_reducible refine RetOk.mk ?_); simp (maxSteps := 10000000) (implicitDefEqProofs := false) only [go_sem,  ↓reduceIte, reduceCtorEq, Nat.reduceAdd, Nat.reduceSub, Nat.reduceLeDiff, Nat.reduceEqDiff, Nat.reduceMul, Nat.reduceLT, Nat.reducePow, Int.reduceEq, Int.reduceLT, Int.reduceLE, Int.reduceGT, Int.reduceGE, Int.reduceAdd, Int.reduceSub, Int.reduceNeg, Int.reduceToNat])
        | with_reducible refine a_block ?_
        | with_reducible refine a_ret ?_
        | with_reducible refine a_exit ?_
        | with_reducible refine a_skip ?_
        | with_reducible exact ConfOk.mk (by kernel_rfl)
        | (with_reducible refine eqT_of (eq33 _ _ _ _ _ _) ?_; simp)
        | (with_reducible refine eqT_of (eq35 _ _ _ _ _ _ _ _) ?_; simp)
        | ((fail_if_success with_reducible show False); with_reducible apply_assumption (exfalso := false) (symm := false) only [*, rfl, trivial, congrArg])
        | with_reducible refine And.intro ?_ ?_
        | (intro h; contradiction)
        | (intro h; subst h)
        | intro h
        | simp (maxSteps := 10000000) (implicitDefEqProofs := false) only [go_sem,  ↓reduceIte, reduceCtorEq, Nat.reduceAdd, Nat.reduceSub, Nat.reduceLeDiff, Nat.reduceEqDiff, Nat.reduceMul, Nat.reduceLT, Nat.reducePow, Int.reduceEq, Int.reduceLT, Int.reduceLE, Int.reduceGT, Int.reduceGE, Int.reduceAdd, Int.reduceSub, Int.reduceNeg, Int.reduceToNat])
    refine a_nilrow [4] 29 1 (by simp) ?_
    refine a_nilrow [5] 36 1 (by simp [putAll]) ?_
    simp only [putAll, List.set_cons_zero, List.set_cons_succ]
    refine a_loop_k (fun n st => ∃ (g g' : Nat) (pre rest : List _) (c o : List Int), ks = pre ++ rest ∧ n = rest.length ∧ (c.length + o.length = pre.length ∧ (c ++ (caseGo (decide (pre.length % 2 = 0)) rest).1 = (caseGo true ks).1 ∧ o ++ (caseGo (decide (pre.length % 2 = 0)) rest).2 = (caseGo true ks).2)) ∧ Has st 39 [(0, .slice (ks.map kd)), (4, .view 29 g), (5, .view 36 g'), (6, .int .i64 pre.length)] [(29, .row g 1 (c.map kd)), (36, .row g' 1 (o.map kd))]) (ks).length ⟨3, 4, [], ks, [], [], rfl, rfl, by simp, ⟨rfl, rfl, by simp [kd, Outv.enc, Val.enc], by simp [kd, Outv.enc, Val.enc]⟩⟩ ?_
    rintro n st ⟨g, g', pre, rest, c, o, he, rfl, hp, hs⟩ K hK
    have hw := wrap_nat pre.length (by have := congrArg List.length he; simp at this; omega)
    subst he
    refine a_has hs fun τ σ γ => ?_
    rcases rest with _ | ⟨x, rest⟩
    · repeat' (first
          | (with_reducible refine a_seq_k ?_; intro K hK)
          | ((first | with_reducible refine a_region (by kernel_rfl) ?_ | (with_reducible refine a_draw mixed (by kernel_rfl) ?_; intro C hC) | (with_reducible refine a_cond_k ?_; intro X Y hX hY) | with_reducible refine RetOk.mk ?_); simp (maxSteps := 10000000) (implicitDefEqProofs := false) only [go_sem, kd, hw,  ↓reduceIte, reduceCtorEq, Nat.reduceAdd, Nat.reduceSub, Nat.reduceLeDiff, Nat.reduceEqDiff, Nat.reduceMul, Nat.reduceLT, Nat.reducePow, Int.reduceEq, Int.reduceLT, Int.reduceLE, Int.reduceGT, Int.reduceGE, Int.reduceAdd, Int.reduceSub, Int.reduceNeg, Int.reduceToNat])
          | with_reducible refine a_block ?_
          | with_reducible refine a_ret ?_
          | with_reducible refine a_exit ?_
          | with_reducible refine a_skip ?_
          | with_reducible exact ConfOk.mk (by kernel_rfl)
          | (with_reducible refine eqT_of (eq33 _ _ _ _ _ _) ?_; simp)
          | (with_reducible refine eqT_of (eq35 _ _ _ _ _ _ _ _) ?_; simp)
          | ((fail_if_success with_reducible show False); with_reducible apply_assumption (exfalso := false) (symm := false) only [*, rfl, trivial, congrArg])
          | with_reducible refine And.intro ?_ ?_
          | (intro h; contradiction)
          | (intro h; subst h)
          | intro h
          | simp (maxSteps := 10000000) (implicitDefEqProofs := false) only [go_sem, kd, hw,  ↓reduceIte, reduceCtorEq, Nat.reduceAdd, Nat.reduceSub, Nat.reduceLeDiff, Nat.reduceEqDiff, Nat.reduceMul, Nat.reduceLT, Nat.reducePow, Int.reduceEq, Int.reduceLT, Int.reduceLE, Int.reduceGT, Int.reduceGE, Int.reduceAdd, Int.reduceSub, Int.reduceNeg, Int.reduceToNat])
      · simp only [caseGo, List.append_nil] at hp; exact ⟨⟨g, g', ⟨rfl, rfl, by simp, by simp [← hp.2.1, ← hp.2.2]⟩⟩⟩
    · have hl' : pre.length + (rest.length + 1) < 2 ^ 45 := by simpa using hl
      repeat' (first
          | (with_reducible refine a_seq_k ?_; intro K hK)
          | ((first | with_reducible refine a_region (by kernel_rfl) ?_ | (with_reducible refine a_draw mixed (by kernel_rfl) ?_; intro C hC) | (with_reducible refine a_cond_k ?_; intro X Y hX hY) | with_reducible refine RetOk.mk ?_); simp (maxSteps := 10000000) (implicitDefEqProofs := false) only [go_sem, kd, hw,  ↓reduceIte, reduceCtorEq, Nat.reduceAdd, Nat.reduceSub, Nat.reduceLeDiff, Nat.reduceEqDiff, Nat.reduceMul, Nat.reduceLT, Nat.reducePow, Int.reduceEq, Int.reduceLT, Int.reduceLE, Int.reduceGT, Int.reduceGE, Int.reduceAdd, Int.reduceSub, Int.reduceNeg, Int.reduceToNat])
          | with_reducible refine a_block ?_
          | with_reducible refine a_ret ?_
          | with_reducible refine a_exit ?_
          | with_reducible refine a_skip ?_
          | with_reducible exact ConfOk.mk (by kernel_rfl)
          | (with_reducible refine eqT_of (eq33 _ _ _ _ _ _) ?_; simp)
          | (with_reducible refine eqT_of (eq35 _ _ _ _ _ _ _ _) ?_; simp)
          | ((fail_if_success with_reducible show False); with_reducible apply_assumption (exfalso := false) (symm := false) only [*, rfl, trivial, congrArg])
          | with_reducible refine And.intro ?_ ?_
          | (intro h; contradiction)
          | (intro h; subst h)
          | intro h
          | simp (maxSteps := 10000000) (implicitDefEqProofs := false) only [go_sem, kd, hw,  ↓reduceIte, reduceCtorEq, Nat.reduceAdd, Nat.reduceSub, Nat.reduceLeDiff, Nat.reduceEqDiff, Nat.reduceMul, Nat.reduceLT, Nat.reducePow, Int.reduceEq, Int.reduceLT, Int.reduceLE, Int.reduceGT, Int.reduceGE, Int.reduceAdd, Int.reduceSub, Int.reduceNeg, Int.reduceToNat])
      · omega
      · omega
      · have hq := (caseGo_step hp.2).1 ⟨by omega, by rintro rfl; simp at h⟩
        exact ⟨⟨rest.length, by simp, γ + 1 + 1, g', pre ++ [x], rest, c ++ [x], o, by simp, rfl, ⟨by simp; omega, by simpa using hq⟩, ⟨rfl, rfl, by simp [kd], by simp [kd]⟩⟩⟩
      · omega
      · omega
      · have hq := (caseGo_step hp.2).2 (by rintro ⟨_, h2⟩; cases rest <;> simp at h h2; omega)
        exact ⟨⟨rest.length, by simp, g, γ + 1 + 1, pre ++ [x], rest, c, o ++ [x], by simp, rfl, ⟨by simp; omega, by simpa using hq⟩, ⟨rfl, rfl, by simp [kd], by simp [kd]⟩⟩⟩
      · omega
      · omega
      · have hq := (caseGo_step hp.2).2 (by rintro ⟨h1, _⟩; omega)
        exact ⟨⟨rest.length, by simp, g, γ + 1 + 1, pre ++ [x], rest, c, o ++ [x], by simp, rfl, ⟨by simp; omega, by simpa using hq⟩, ⟨rfl, rfl, by simp [kd], by simp [kd]⟩⟩⟩
  · rintro st ⟨g, g', hs⟩
    refine a_has hs fun τ σ γ => ?_
    repeat' (first
        | (with_reducible refine a_seq_k ?_; intro K hK)
        | ((first | with_reducible refine a_region (by kernel_rfl) ?_ | (with_reducible refine a_draw mixed (by kernel_rfl) ?_; intro C hC) | (with_reducible refine a_cond_k ?_; intro X Y hX hY) | with_reducible refine RetOk.mk ?_); simp (maxSteps := 10000000) (implicitDefEqProofs := false) only [go_sem, kd,  ↓reduceIte, reduceCtorEq, Nat.reduceAdd, Nat.reduceSub, Nat.reduceLeDiff, Nat.reduceEqDiff, Nat.reduceMul, Nat.reduceLT, Nat.reducePow, Int.reduceEq, Int.reduceLT, Int.reduceLE, Int.reduceGT, Int.reduceGE, Int.reduceAdd, Int.reduceSub, Int.reduceNeg, Int.reduceToNat])
        | with_reducible refine a_block ?_
        | with_reducible refine a_ret ?_
        | with_reducible refine a_exit ?_
        | with_reducible refine a_skip ?_
        | with_reducible exact ConfOk.mk (by kernel_rfl)
        | (with_reducible refine eqT_of (eq33 _ _ _ _ _ _) ?_; simp)
        | (with_reducible refine eqT_of (eq35 _ _ _ _ _ _ _ _) ?_; simp)
        | ((fail_if_success with_reducible show False); with_reducible apply_assumption (exfalso := false) (symm := false) only [*, rfl, trivial, congrArg])
        | with_reducible refine And.intro ?_ ?_
        | (intro h; contradiction)
        | (intro h; subst h)
        | intro h
        | simp (maxSteps := 10000000) (implicitDefEqProofs := false) only [go_sem, kd,  ↓reduceIte, reduceCtorEq, Nat.reduceAdd, Nat.reduceSub, Nat.reduceLeDiff, Nat.reduceEqDiff, Nat.reduceMul, Nat.reduceLT, Nat.reducePow, Int.reduceEq, Int.reduceLT, Int.reduceLE, Int.reduceGT, Int.reduceGE, Int.reduceAdd, Int.reduceSub, Int.reduceNeg, Int.reduceToNat])
theorem caseGo_len (b : Bool) (ks : List Int) : (caseGo b ks).1.length ≤ ks.length ∧ (caseGo b ks).2.length ≤ ks.length := by
  induction ks generalizing b with
  | nil => simp [caseGo]
  | cons x r ih => have := ih (!b); rw [caseGo]; split <;> simp <;> omega
def kindOf (s : Int) (ks : List Int) : Int × Bool :=
  if s = 1 then (1, ks.all fun x => agree x 1) else if s = 2 then (2, ks.all fun x => agree x 2) else if s = 3 then (1, ks.all fun x => agree x 2) else if s = 4 then (3, agree (ks.getD 0 0) (ks.getD 1 0))
  else if s = 5 then (3, ks.all fun x => agree x 2) else if s = 6 then (3, true) else if s = 7 ∨ s = 8 then (3, ks.all fun x => agree x 3)
  else if s = 9 then ((commonGo 0 (caseGo true ks).2).1, (commonGo 0 (caseGo true ks).2).2 && (caseGo true ks).1.all fun x => agree x 3) else commonGo 0 ks
theorem ref_kindOf (s : Int) (ks : List Int) (hl : ks.length < 2 ^ 45) (h4 : s = 4 → ks.length = 2) : ACalls Tryz.prog 143 [.int .i64 s, kinds ks] (.tuple [.int .u8 (kindOf s ks).1, .bool (kindOf s ks).2]) := by
  have hl' : ks.length < 2 ^ 62 := by omega
  have hl1 : (caseGo true ks).1.length < 2 ^ 62 := by have := caseGo_len true ks; omega
  have hl2 : (caseGo true ks).2.length < 2 ^ 62 := by have := caseGo_len true ks; omega
  by_cases hs : s = 4
  · have h5 := h4 hs
    obtain ⟨a, b, rfl⟩ : ∃ a b, ks = [a, b] := by
      match ks, h5 with
      | [a, b], _ => exact ⟨a, b, rfl⟩
    subst hs
    refine acalls_k Tryz.func143 rfl (by kernel_rfl) (congrArg Array.toList Tryz.results143) Tryz.ntmps143 ?_
    intro R hR
    simp only [st0, List.length_cons, List.length_nil, Nat.reduceAdd, Nat.reduceSub, List.replicate_succ, List.replicate_zero, List.cons_append, List.nil_append]
    repeat' (first
        | (with_reducible refine a_seq_k ?_; intro K hK)
        | ((first | with_reducible refine a_region (by kernel_rfl) ?_ | (with_reducible refine a_draw mixed (by kernel_rfl) ?_; intro C hC) | (with_reducible refine a_cond_k ?_; intro X Y hX hY) | with_reducible refine RetOk.mk ?_ | with_reducible refine CallS.intro (ref_Agree _ _) ?_ | with_reducible refine CallD.intro (ref_Agree _ _) ?_); simp (maxSteps := 10000000) (implicitDefEqProofs := false) only [go_sem, kd,  ↓reduceIte, reduceCtorEq, Nat.reduceAdd, Nat.reduceSub, Nat.reduceLeDiff, Nat.reduceEqDiff, Nat.reduceMul, Nat.reduceLT, Nat.reducePow, Int.reduceEq, Int.reduceLT, Int.reduceLE, Int.reduceGT, Int.reduceGE, Int.reduceAdd, Int.reduceSub, Int.reduceNeg, Int.reduceToNat])
        | with_reducible refine a_block ?_
        | with_reducible refine a_ret ?_
        | with_reducible refine a_exit ?_
        | with_reducible refine a_skip ?_
        | with_reducible exact ConfOk.mk (by kernel_rfl)
        | (with_reducible refine eqT_of (eq33 _ _ _ _ _ _) ?_; simp)
        | (with_reducible refine eqT_of (eq35 _ _ _ _ _ _ _ _) ?_; simp)
        | ((fail_if_success with_reducible show False); with_reducible apply_assumption (exfalso := false) (symm := false) only [*, rfl, trivial, congrArg])
        | with_reducible refine And.intro ?_ ?_
        | (intro h; contradiction)
        | (intro h; subst h)
        | intro h
        | simp (maxSteps := 10000000) (implicitDefEqProofs := false) only [go_sem, kd,  ↓reduceIte, reduceCtorEq, Nat.reduceAdd, Nat.reduceSub, Nat.reduceLeDiff, Nat.reduceEqDiff, Nat.reduceMul, Nat.reduceLT, Nat.reducePow, Int.reduceEq, Int.reduceLT, Int.reduceLE, Int.reduceGT, Int.reduceGE, Int.reduceAdd, Int.reduceSub, Int.reduceNeg, Int.reduceToNat])
    all_goals simp [kindOf]
  · refine acalls_k Tryz.func143 rfl (by kernel_rfl) (congrArg Array.toList Tryz.results143) Tryz.ntmps143 ?_
    intro R hR
    simp only [st0, List.length_cons, List.length_nil, Nat.reduceAdd, Nat.reduceSub, List.replicate_succ, List.replicate_zero, List.cons_append, List.nil_append]
    repeat' (first
        | (with_reducible refine a_seq_k ?_; intro K hK)
        | ((first | with_reducible refine a_region (by kernel_rfl) ?_ | (with_reducible refine a_draw mixed (by kernel_rfl) ?_; intro C hC) | (with_reducible refine a_cond_k ?_; intro X Y hX hY) | with_reducible refine RetOk.mk ?_ | with_reducible refine CallS.intro (ref_allAgree ks _ hl') ?_ | with_reducible refine CallD.intro (ref_allAgree ks _ hl') ?_ | with_reducible refine CallS.intro (ref_Agree _ _) ?_ | with_reducible refine CallD.intro (ref_Agree _ _) ?_ | with_reducible refine CallS.intro (ref_caseKinds ks hl) ?_ | with_reducible refine CallD.intro (ref_caseKinds ks hl) ?_ | with_reducible refine CallS.intro (ref_Common ks hl') ?_ | with_reducible refine CallD.intro (ref_Common ks hl') ?_ | with_reducible refine CallS.intro (ref_Common _ hl2) ?_ | with_reducible refine CallD.intro (ref_Common _ hl2) ?_ | with_reducible refine CallS.intro (ref_allAgree _ _ hl1) ?_ | with_reducible refine CallD.intro (ref_allAgree _ _ hl1) ?_); simp (maxSteps := 10000000) (implicitDefEqProofs := false) only [go_sem, kd, hs,  ↓reduceIte, reduceCtorEq, Nat.reduceAdd, Nat.reduceSub, Nat.reduceLeDiff, Nat.reduceEqDiff, Nat.reduceMul, Nat.reduceLT, Nat.reducePow, Int.reduceEq, Int.reduceLT, Int.reduceLE, Int.reduceGT, Int.reduceGE, Int.reduceAdd, Int.reduceSub, Int.reduceNeg, Int.reduceToNat])
        | with_reducible refine a_block ?_
        | with_reducible refine a_ret ?_
        | with_reducible refine a_exit ?_
        | with_reducible refine a_skip ?_
        | with_reducible exact ConfOk.mk (by kernel_rfl)
        | (with_reducible refine eqT_of (eq33 _ _ _ _ _ _) ?_; simp)
        | (with_reducible refine eqT_of (eq35 _ _ _ _ _ _ _ _) ?_; simp)
        | ((fail_if_success with_reducible show False); with_reducible apply_assumption (exfalso := false) (symm := false) only [*, rfl, trivial, congrArg])
        | with_reducible refine And.intro ?_ ?_
        | (intro h; contradiction)
        | (intro h; subst h)
        | intro h
        | simp (maxSteps := 10000000) (implicitDefEqProofs := false) only [go_sem, kd, hs,  ↓reduceIte, reduceCtorEq, Nat.reduceAdd, Nat.reduceSub, Nat.reduceLeDiff, Nat.reduceEqDiff, Nat.reduceMul, Nat.reduceLT, Nat.reducePow, Int.reduceEq, Int.reduceLT, Int.reduceLE, Int.reduceGT, Int.reduceGE, Int.reduceAdd, Int.reduceSub, Int.reduceNeg, Int.reduceToNat])
    all_goals simp [kindOf, *]
end Go.Proofs.YtleadljchhkiiaaGreatDoor
end

section
namespace Go.Proofs.YtleadljchhkiiaaGreatDoor
open Go Go.Ab
attribute [local go_sem ↓] parts_tt parts_ff parts_tf parts_ft
attribute [local go_sem] parts_eq learnT aops_nil aops_cons aopsD_nil aopsD_cons stepS stepD gval St.learn skipR St.after putτ applyUpd List.foldl_cons List.foldl_nil pureOp memOp callOf litA closeO closeK List.flatMap_cons List.flatMap_nil Option.map_none decide_false opnd ofConst leaf binA unA lenA indexA indexAddrA fieldAddrA fieldA sliceA convertA pickV fillA placeS cellsA setA partA loadM storeM appendM srcEls lookBox lookRow lookMap closeL closeV scalarB scalarL killed buildEls lookupA leafEq eqAll resA resL tupA retA thenA blockA isInt loA hiA foldA maxA minA okSize leafB closedB Res.foot List.getD_cons_zero List.getD_cons_succ List.set_cons_zero List.set_cons_succ List.map_cons List.map_nil List.append_nil List.nil_append List.cons_append List.length_cons List.length_nil List.take_succ_cons List.take_zero List.drop_succ_cons List.drop_zero List.take_nil List.drop_nil List.all_cons List.all_nil List.getElem?_toArray List.getElem?_cons_zero List.getElem?_cons_succ Option.bind_some Option.map_some true_and and_true true_implies ne_eq not_true_eq_false not_false_eq_true Bool.true_eq_false Bool.false_eq_true Bool.not_true Bool.not_false decide_eq_true_eq decide_eq_false_iff_not false_implies implies_true and_self ite_true ite_false cond_true cond_false Option.some.injEq List.reverse_cons List.reverse_nil Bool.and_self Bool.true_and Bool.and_true Bool.false_and Bool.and_false Bool.or_true Bool.true_or Bool.or_false Bool.false_or Bool.not_eq_eq_eq_not Bool.not_not Bool.or_self beq_self_eq_true and_false false_and or_true true_or or_false false_or not_true not_false_iff Decidable.not_not lookT lookR tabT tabR Int.toNat_natCast List.length_map List.map_append List.length_append decide_true decide_false tmod2 List.mem_singleton forall_eq elOk1 elOk3 elOk4 castn0 castn1 castn2 castn3 getD_mid getD_mid_map at_lt at_end mid_lt mid_lt' nat_ge List.size_toArray Array.size_empty Nat.add_zero Nat.zero_add
attribute [local irreducible] ASpec ACalls retA ti EqT
set_option linter.unusedSimpArgs false
set_option maxHeartbeats 4000000
set_option maxRecDepth 100000
set_option linter.unusedVariables false
attribute [local go_sem] ti2 ti3 ti4 ti5 ti9 ti21 ti22 ti24 ti26 ti34 ti42 ti55 ti71 ti72 ti81 ti103 ti134 ti146 ti153 ti161 ti165 ti176 ti205 ti221 ti222 ti247
def refKind (op : Int) (ks : List Int) : Int × Int :=
  if (sortOf op).1 = 0 ∨ (0 ≤ (sortOf op).2 ∧ (ks.length : Int) ≠ (sortOf op).2) ∨ ((sortOf op).1 = 9 ∧ ks.length < 2) ∨ ((sortOf op).1 = 10 ∧ ks.length < 1) then (0, 1)
  else if (ks.any fun k => decide (3 < k)) = true then (0, 1) else if (kindOf (sortOf op).1 ks).2 = true then ((kindOf (sortOf op).1 ks).1, 0) else (0, 50)
theorem ref_Kind (op : Int) (ks : List Int) (hl : ks.length < 2 ^ 45) : ACalls Tryz.prog 72 [.int .u8 op, kinds ks] (.tuple [.int .u8 (refKind op ks).1, .int .i64 (refKind op ks).2]) := by
  have h4 : (sortOf op).1 = 4 → (sortOf op).2 = 2 := by unfold sortOf; (repeat' split) <;> simp
  refine acalls_k Tryz.func72 rfl (by kernel_rfl) (congrArg Array.toList Tryz.results72) Tryz.ntmps72 ?_
  intro R hR
  simp only [st0, List.length_cons, List.length_nil, Nat.reduceAdd, Nat.reduceSub, List.replicate_succ, List.replicate_zero, List.cons_append, List.nil_append]
  repeat' (first
      | (with_reducible refine a_seq_reg ?_; intro K hK)
      | ((first | with_reducible refine a_region (by kernel_rfl) ?_ | (with_reducible refine a_draw mixed (by kernel_rfl) ?_; intro C hC) | (with_reducible refine a_cond_k ?_; intro X Y hX hY) | with_reducible refine RetOk.mk ?_ | with_reducible refine CallS.intro (ref_sortOf _) ?_ | with_reducible refine CallD.intro (ref_sortOf _) ?_); simp (maxSteps := 10000000) (implicitDefEqProofs := false) only [go_sem,  ↓reduceIte, reduceCtorEq, Nat.reduceAdd, Nat.reduceSub, Nat.reduceLeDiff, Nat.reduceEqDiff, Nat.reduceMul, Nat.reduceLT, Nat.reducePow, Int.reduceEq, Int.reduceLT, Int.reduceLE, Int.reduceGT, Int.reduceGE, Int.reduceAdd, Int.reduceSub, Int.reduceNeg, Int.reduceToNat])
      | with_reducible refine a_block ?_
      | with_reducible refine a_ret ?_
      | with_reducible refine a_exit ?_
      | with_reducible refine a_skip ?_
      | with_reducible exact ConfOk.mk (by kernel_rfl)
      | (with_reducible refine eqT_of (eq33 _ _ _ _ _ _) ?_; simp)
      | (with_reducible refine eqT_of (eq35 _ _ _ _ _ _ _ _) ?_; simp)
      | ((fail_if_success with_reducible show False); with_reducible apply_assumption (exfalso := false) (symm := false) only [*, rfl, trivial, congrArg])
      | with_reducible refine And.intro ?_ ?_
      | (intro h; contradiction)
      | (intro h; subst h)
      | intro h
      | simp (maxSteps := 10000000) (implicitDefEqProofs := false) only [go_sem,  ↓reduceIte, reduceCtorEq, Nat.reduceAdd, Nat.reduceSub, Nat.reduceLeDiff, Nat.reduceEqDiff, Nat.reduceMul, Nat.reduceLT, Nat.reducePow, Int.reduceEq, Int.reduceLT, Int.reduceLE, Int.reduceGT, Int.reduceGE, Int.reduceAdd, Int.reduceSub, Int.reduceNeg, Int.reduceToNat])
  refine a_cut (fun st => (¬ ((sortOf op).1 = 0 ∨ (0 ≤ (sortOf op).2 ∧ (ks.length : Int) ≠ (sortOf op).2) ∨ ((sortOf op).1 = 9 ∧ ks.length < 2) ∨ ((sortOf op).1 = 10 ∧ ks.length < 1))) ∧ Has st 66 [(1, .slice (ks.map kd)), (6, .int .i64 (sortOf op).1)] []) (fun K hK => ?_) ?_
  · repeat' (first
        | (with_reducible refine a_seq_k ?_; intro K hK)
        | ((first | with_reducible refine a_region (by kernel_rfl) ?_ | (with_reducible refine a_draw mixed (by kernel_rfl) ?_; intro C hC) | (with_reducible refine a_cond_k ?_; intro X Y hX hY) | with_reducible refine RetOk.mk ?_); simp (maxSteps := 10000000) (implicitDefEqProofs := false) only [go_sem,  ↓reduceIte, reduceCtorEq, Nat.reduceAdd, Nat.reduceSub, Nat.reduceLeDiff, Nat.reduceEqDiff, Nat.reduceMul, Nat.reduceLT, Nat.reducePow, Int.reduceEq, Int.reduceLT, Int.reduceLE, Int.reduceGT, Int.reduceGE, Int.reduceAdd, Int.reduceSub, Int.reduceNeg, Int.reduceToNat])
        | with_reducible refine a_block ?_
        | with_reducible refine a_ret ?_
        | with_reducible refine a_exit ?_
        | with_reducible refine a_skip ?_
        | with_reducible exact ConfOk.mk (by kernel_rfl)
        | (with_reducible refine eqT_of (eq33 _ _ _ _ _ _) ?_; simp)
        | (with_reducible refine eqT_of (eq35 _ _ _ _ _ _ _ _) ?_; simp)
        | ((fail_if_success with_reducible show False); with_reducible apply_assumption (exfalso := false) (symm := false) only [*, rfl, trivial, congrArg])
        | with_reducible refine And.intro ?_ ?_
        | (intro h; contradiction)
        | (intro h; subst h)
        | intro h
        | simp (maxSteps := 10000000) (implicitDefEqProofs := false) only [go_sem,  ↓reduceIte, reduceCtorEq, Nat.reduceAdd, Nat.reduceSub, Nat.reduceLeDiff, Nat.reduceEqDiff, Nat.reduceMul, Nat.reduceLT, Nat.reducePow, Int.reduceEq, Int.reduceLT, Int.reduceLE, Int.reduceGT, Int.reduceGE, Int.reduceAdd, Int.reduceSub, Int.reduceNeg, Int.reduceToNat])
    all_goals first
      | exact ⟨⟨by omega, ⟨rfl, rfl, by simp, by simp⟩⟩⟩
      | rw [refKind, if_pos (by omega)]
  · rintro st ⟨hm, hs⟩
    refine a_has hs fun τ σ γ => ?_
    refine a_cut (fun st => ((ks.any fun k => decide (3 < k)) = false) ∧ Has st 66 [(1, .slice (ks.map kd)), (6, .int .i64 (sortOf op).1)] []) (fun K hK => ?_) ?_
    · repeat' (first
          | (with_reducible refine a_seq_reg ?_; intro K hK)
          | ((first | with_reducible refine a_region (by kernel_rfl) ?_ | (with_reducible refine a_draw mixed (by kernel_rfl) ?_; intro C hC) | (with_reducible refine a_cond_k ?_; intro X Y hX hY) | with_reducible refine RetOk.mk ?_); simp (maxSteps := 10000000) (implicitDefEqProofs := false) only [go_sem,  ↓reduceIte, reduceCtorEq, Nat.reduceAdd, Nat.reduceSub, Nat.reduceLeDiff, Nat.reduceEqDiff, Nat.reduceMul, Nat.reduceLT, Nat.reducePow, Int.reduceEq, Int.reduceLT, Int.reduceLE, Int.reduceGT, Int.reduceGE, Int.reduceAdd, Int.reduceSub, Int.reduceNeg, Int.reduceToNat])
          | with_reducible refine a_block ?_
          | with_reducible refine a_ret ?_
          | with_reducible refine a_exit ?_
          | with_reducible refine a_skip ?_
          | with_reducible exact ConfOk.mk (by kernel_rfl)
          | (with_reducible refine eqT_of (eq33 _ _ _ _ _ _) ?_; simp)
          | (with_reducible refine eqT_of (eq35 _ _ _ _ _ _ _ _) ?_; simp)
          | ((fail_if_success with_reducible show False); with_reducible apply_assumption (exfalso := false) (symm := false) only [*, rfl, trivial, congrArg])
          | with_reducible refine And.intro ?_ ?_
          | (intro h; contradiction)
          | (intro h; subst h)
          | intro h
          | simp (maxSteps := 10000000) (implicitDefEqProofs := false) only [go_sem,  ↓reduceIte, reduceCtorEq, Nat.reduceAdd, Nat.reduceSub, Nat.reduceLeDiff, Nat.reduceEqDiff, Nat.reduceMul, Nat.reduceLT, Nat.reducePow, Int.reduceEq, Int.reduceLT, Int.reduceLE, Int.reduceGT, Int.reduceGE, Int.reduceAdd, Int.reduceSub, Int.reduceNeg, Int.reduceToNat])
      refine a_loop_k (fun n st => ∃ (g : Nat) (pre rest : List _) (u : Unit), ks = pre ++ rest ∧ n = rest.length ∧ ((pre.any fun k => decide (3 < k)) = false) ∧ Has st 66 [(1, .slice (ks.map kd)), (6, .int .i64 (sortOf op).1), (8, .int .i64 pre.length)] []) (ks).length ⟨0, [], ks, (), rfl, rfl, rfl, ⟨rfl, rfl, by simp [kd, Outv.enc, Val.enc], by simp [kd, Outv.enc, Val.enc]⟩⟩ ?_
      rintro n st ⟨g, pre, rest, u, he, rfl, hp, hs⟩ K hK
      have hw := wrap_nat pre.length (by have := congrArg List.length he; simp at this; omega)
      subst he
      refine a_has hs fun τ σ γ => ?_
      rcases rest with _ | ⟨x, rest⟩
      · repeat' (first
            | (with_reducible refine a_seq_k ?_; intro K hK)
            | ((first | with_reducible refine a_region (by kernel_rfl) ?_ | (with_reducible refine a_draw mixed (by kernel_rfl) ?_; intro C hC) | (with_reducible refine a_cond_k ?_; intro X Y hX hY) | with_reducible refine RetOk.mk ?_); simp (maxSteps := 10000000) (implicitDefEqProofs := false) only [go_sem, kd, hw,  ↓reduceIte, reduceCtorEq, Nat.reduceAdd, Nat.reduceSub, Nat.reduceLeDiff, Nat.reduceEqDiff, Nat.reduceMul, Nat.reduceLT, Nat.reducePow, Int.reduceEq, Int.reduceLT, Int.reduceLE, Int.reduceGT, Int.reduceGE, Int.reduceAdd, Int.reduceSub, Int.reduceNeg, Int.reduceToNat])
            | with_reducible refine a_block ?_
            | with_reducible refine a_ret ?_
            | with_reducible refine a_exit ?_
            | with_reducible refine a_skip ?_
            | with_reducible exact ConfOk.mk (by kernel_rfl)
            | (with_reducible refine eqT_of (eq33 _ _ _ _ _ _) ?_; simp)
            | (with_reducible refine eqT_of (eq35 _ _ _ _ _ _ _ _) ?_; simp)
            | ((fail_if_success with_reducible show False); with_reducible apply_assumption (exfalso := false) (symm := false) only [*, rfl, trivial, congrArg])
            | with_reducible refine And.intro ?_ ?_
            | (intro h; contradiction)
            | (intro h; subst h)
            | intro h
            | simp (maxSteps := 10000000) (implicitDefEqProofs := false) only [go_sem, kd, hw,  ↓reduceIte, reduceCtorEq, Nat.reduceAdd, Nat.reduceSub, Nat.reduceLeDiff, Nat.reduceEqDiff, Nat.reduceMul, Nat.reduceLT, Nat.reducePow, Int.reduceEq, Int.reduceLT, Int.reduceLE, Int.reduceGT, Int.reduceGE, Int.reduceAdd, Int.reduceSub, Int.reduceNeg, Int.reduceToNat])
        · exact ⟨⟨by simpa using hp, ⟨rfl, rfl, by simp, by simp⟩⟩⟩
      · repeat' (first
            | (with_reducible refine a_seq_k ?_; intro K hK)
            | ((first | with_reducible refine a_region (by kernel_rfl) ?_ | (with_reducible refine a_draw mixed (by kernel_rfl) ?_; intro C hC) | (with_reducible refine a_cond_k ?_; intro X Y hX hY) | with_reducible refine RetOk.mk ?_); simp (maxSteps := 10000000) (implicitDefEqProofs := false) only [go_sem, kd, hw,  ↓reduceIte, reduceCtorEq, Nat.reduceAdd, Nat.reduceSub, Nat.reduceLeDiff, Nat.reduceEqDiff, Nat.reduceMul, Nat.reduceLT, Nat.reducePow, Int.reduceEq, Int.reduceLT, Int.reduceLE, Int.reduceGT, Int.reduceGE, Int.reduceAdd, Int.reduceSub, Int.reduceNeg, Int.reduceToNat])
            | with_reducible refine a_block ?_
            | with_reducible refine a_ret ?_
            | with_reducible refine a_exit ?_
            | with_reducible refine a_skip ?_
            | with_reducible exact ConfOk.mk (by kernel_rfl)
            | (with_reducible refine eqT_of (eq33 _ _ _ _ _ _) ?_; simp)
            | (with_reducible refine eqT_of (eq35 _ _ _ _ _ _ _ _) ?_; simp)
            | ((fail_if_success with_reducible show False); with_reducible apply_assumption (exfalso := false) (symm := false) only [*, rfl, trivial, congrArg])
            | with_reducible refine And.intro ?_ ?_
            | (intro h; contradiction)
            | (intro h; subst h)
            | intro h
            | simp (maxSteps := 10000000) (implicitDefEqProofs := false) only [go_sem, kd, hw,  ↓reduceIte, reduceCtorEq, Nat.reduceAdd, Nat.reduceSub, Nat.reduceLeDiff, Nat.reduceEqDiff, Nat.reduceMul, Nat.reduceLT, Nat.reducePow, Int.reduceEq, Int.reduceLT, Int.reduceLE, Int.reduceGT, Int.reduceGE, Int.reduceAdd, Int.reduceSub, Int.reduceNeg, Int.reduceToNat])
        · rw [refKind, if_neg hm, if_pos (by simp; omega)]
        · exact ⟨⟨rest.length, by simp, 0, pre ++ [x], rest, (), by simp, rfl, by rw [List.any_append, hp]; simp; omega, ⟨rfl, rfl, by simp [kd, Outv.enc, Val.enc], by simp [kd, Outv.enc, Val.enc]⟩⟩⟩
    · rintro st ⟨hm, hs⟩
      refine a_has hs fun τ σ γ => ?_
      repeat' (first
          | (with_reducible refine a_seq_k ?_; intro K hK)
          | ((first | with_reducible refine a_region (by kernel_rfl) ?_ | (with_reducible refine a_draw mixed (by kernel_rfl) ?_; intro C hC) | (with_reducible refine a_cond_k ?_; intro X Y hX hY) | with_reducible refine RetOk.mk ?_ | with_reducible refine CallS.intro (ref_kindOf _ ks hl (by omega)) ?_ | with_reducible refine CallD.intro (ref_kindOf _ ks hl (by omega)) ?_); simp (maxSteps := 10000000) (implicitDefEqProofs := false) only [go_sem,  ↓reduceIte, reduceCtorEq, Nat.reduceAdd, Nat.reduceSub, Nat.reduceLeDiff, Nat.reduceEqDiff, Nat.reduceMul, Nat.reduceLT, Nat.reducePow, Int.reduceEq, Int.reduceLT, Int.reduceLE, Int.reduceGT, Int.reduceGE, Int.reduceAdd, Int.reduceSub, Int.reduceNeg, Int.reduceToNat])
          | with_reducible refine a_block ?_
          | with_reducible refine a_ret ?_
          | with_reducible refine a_exit ?_
          | with_reducible refine a_skip ?_
          | with_reducible exact ConfOk.mk (by kernel_rfl)
          | (with_reducible refine eqT_of (eq33 _ _ _ _ _ _) ?_; simp)
          | (with_reducible refine eqT_of (eq35 _ _ _ _ _ _ _ _) ?_; simp)
          | ((fail_if_success with_reducible show False); with_reducible apply_assumption (exfalso := false) (symm := false) only [*, rfl, trivial, congrArg])
          | with_reducible refine And.intro ?_ ?_
          | (intro h; contradiction)
          | (intro h; subst h)
          | intro h
          | simp (maxSteps := 10000000) (implicitDefEqProofs := false) only [go_sem,  ↓reduceIte, reduceCtorEq, Nat.reduceAdd, Nat.reduceSub, Nat.reduceLeDiff, Nat.reduceEqDiff, Nat.reduceMul, Nat.reduceLT, Nat.reducePow, Int.reduceEq, Int.reduceLT, Int.reduceLE, Int.reduceGT, Int.reduceGE, Int.reduceAdd, Int.reduceSub, Int.reduceNeg, Int.reduceToNat])
      · rw [refKind, if_neg (by assumption), if_neg (by rw [hm]; simp), if_neg (by rw [h]; simp)]
      · rw [refKind, if_neg (by assumption), if_neg (by rw [hm]; simp), if_pos h]
end Go.Proofs.YtleadljchhkiiaaGreatDoor
end
