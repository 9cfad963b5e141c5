/- Outcomes: validOutcome, In. -/
import Derived.Test.YtmlaogjndaeihaaGreatDoorT7
namespace Go.Proofs.YtmlaogjndaeihaaGreatDoor
open Go Go.Ab
attribute [local go_sem ↓] parts_tt parts_ff parts_tf parts_ft
attribute [local go_sem] parts_eq learnT aops_nil aops_cons aopsD_nil aopsD_cons stepS stepD gval St.learn skipR St.after putτ applyUpd List.foldl_cons List.foldl_nil pureOp memOp callOf litA closeO closeK List.flatMap_cons List.flatMap_nil Option.map_none decide_false opnd ofConst leaf binA unA lenA indexA indexAddrA fieldAddrA fieldA sliceA convertA pickV fillA placeS cellsA setA partA loadM storeM appendM srcEls lookBox lookRow lookMap closeL closeV scalarB scalarL killed buildEls lookupA leafEq eqAll resA resL tupA retA thenA blockA isInt loA hiA foldA maxA minA okSize leafB closedB Res.foot List.getD_cons_zero List.getD_cons_succ List.set_cons_zero List.set_cons_succ List.map_cons List.map_nil List.append_nil List.nil_append List.cons_append List.length_cons List.length_nil List.take_succ_cons List.take_zero List.drop_succ_cons List.drop_zero List.take_nil List.drop_nil List.all_cons List.all_nil List.getElem?_toArray List.getElem?_cons_zero List.getElem?_cons_succ Option.bind_some Option.map_some true_and and_true true_implies ne_eq not_true_eq_false not_false_eq_true Bool.true_eq_false Bool.false_eq_true Bool.not_true Bool.not_false decide_eq_true_eq decide_eq_false_iff_not false_implies implies_true and_self ite_true ite_false cond_true cond_false Option.some.injEq List.reverse_cons List.reverse_nil Bool.and_self Bool.true_and Bool.and_true Bool.false_and Bool.and_false Bool.or_true Bool.true_or Bool.or_false Bool.false_or Bool.not_eq_eq_eq_not Bool.not_not Bool.or_self beq_self_eq_true and_false false_and or_true true_or or_false false_or not_true not_false_iff Decidable.not_not lookT lookR tabT tabR Int.toNat_natCast List.length_map List.map_append List.length_append decide_true decide_false tmod2 List.mem_singleton forall_eq elOk1 elOk3 elOk4 castn0 castn1 castn2 castn3 getD_mid getD_mid_map at_lt at_end mid_lt mid_lt' nat_ge List.size_toArray Array.size_empty Nat.add_zero Nat.zero_add
attribute [local irreducible] ASpec ACalls retA ti EqT
set_option linter.unusedSimpArgs false
set_option maxHeartbeats 4000000
set_option maxRecDepth 100000
set_option linter.unusedVariables false
attribute [local go_sem] ti2 ti3 ti4 ti5 ti9 ti21 ti22 ti23 ti24 ti26 ti27 ti29 ti41 ti47 ti49 ti56 ti59 ti63 ti67 ti71 ti75 ti78 ti79 ti80 ti86 ti90 ti110
@[reducible] def rowE (r : List Val) : List AV := [.slice (r.map Val.enc)]
@[reducible] def ocA (rs : List (List Val)) (e : Int) : AV := .agg [.slice (rs.map rowE), .int .i64 e]
theorem calc_validOutcome1 (k n : Int) (s : ByteArray) : ACalls Tryz.prog 80 [vA k n s] (.bool (!vOkC k n s)) := by
  refine acalls_k Tryz.func80 rfl (by kernel_rfl) (congrArg Array.toList Tryz.results80) Tryz.ntmps80 ?_
  intro R hR
  simp only [st0, List.length_cons, List.length_nil, Nat.reduceAdd, Nat.reduceSub, List.replicate_succ, List.replicate_zero, List.cons_append, List.nil_append]
  repeat' (first
      | (with_reducible refine a_seq_k ?_; intro K hK)
      | ((first | with_reducible refine a_region (by kernel_rfl) ?_ | (with_reducible refine a_draw mixed (by kernel_rfl) ?_; intro C hC) | (with_reducible refine a_cond_k ?_; intro X Y hX hY) | with_reducible refine RetOk.mk ?_ | with_reducible refine CallS.intro (value_Valid _ _ _) ?_ | with_reducible refine CallD.intro (value_Valid _ _ _) ?_); simp (maxSteps := 10000000) (implicitDefEqProofs := false) only [go_sem,  ↓reduceIte, reduceCtorEq, Nat.reduceAdd, Nat.reduceSub, Nat.reduceLeDiff, Nat.reduceEqDiff, Nat.reduceMul, Nat.reduceLT, Nat.reducePow, Int.reduceEq, Int.reduceLT, Int.reduceLE, Int.reduceGT, Int.reduceGE, Int.reduceAdd, Int.reduceSub, Int.reduceNeg, Int.reduceToNat])
      | with_reducible refine a_block ?_
      | with_reducible refine a_ret ?_
      | with_reducible refine a_exit ?_
      | with_reducible refine a_skip ?_
      | with_reducible exact ConfOk.mk (by kernel_rfl)
      | (with_reducible refine eqT_of (eq33 _ _ _ _ _ _) ?_; simp)
      | (with_reducible refine eqT_of (eq35 _ _ _ _ _ _ _ _) ?_; simp)
      | ((fail_if_success with_reducible show False); with_reducible apply_assumption (exfalso := false) (symm := false) only [*, rfl, trivial, congrArg])
      | with_reducible refine And.intro ?_ ?_
      | (intro h; contradiction)
      | (intro h; subst h)
      | intro h
      | simp (maxSteps := 10000000) (implicitDefEqProofs := false) only [go_sem,  ↓reduceIte, reduceCtorEq, Nat.reduceAdd, Nat.reduceSub, Nat.reduceLeDiff, Nat.reduceEqDiff, Nat.reduceMul, Nat.reduceLT, Nat.reducePow, Int.reduceEq, Int.reduceLT, Int.reduceLE, Int.reduceGT, Int.reduceGE, Int.reduceAdd, Int.reduceSub, Int.reduceNeg, Int.reduceToNat])
theorem sl_IndexFuncV (vs : List Val) (fn : FuncId) (cap : List AV) (p : Val → Bool) (hc : ∀ σ n, closeL (closeV σ (n + 1)) cap = some (cap, [])) (hf : ∀ x : Val, ACalls Tryz.prog fn (vA x.kind x.int x.text :: cap) (.bool (p x))) (hl : vs.length < 2 ^ 62) : ACalls Tryz.prog 99 [.slice (vs.map Val.enc), .func (.func fn) cap] (.int .i64 (idxF p vs)) := by
  refine acalls_k Tryz.func99 rfl (by kernel_rfl) (congrArg Array.toList Tryz.results99) Tryz.ntmps99 ?_
  intro R hR
  simp only [st0, List.length_cons, List.length_nil, Nat.reduceAdd, Nat.reduceSub, List.replicate_succ, List.replicate_zero, List.cons_append, List.nil_append]
  repeat' (first
      | (with_reducible refine a_seq_k ?_; intro K hK)
      | ((first | with_reducible refine a_region (by kernel_rfl) ?_ | (with_reducible refine a_draw mixed (by kernel_rfl) ?_; intro C hC) | (with_reducible refine a_cond_k ?_; intro X Y hX hY) | with_reducible refine RetOk.mk ?_); simp (maxSteps := 10000000) (implicitDefEqProofs := false) only [go_sem,  ↓reduceIte, reduceCtorEq, Nat.reduceAdd, Nat.reduceSub, Nat.reduceLeDiff, Nat.reduceEqDiff, Nat.reduceMul, Nat.reduceLT, Nat.reducePow, Int.reduceEq, Int.reduceLT, Int.reduceLE, Int.reduceGT, Int.reduceGE, Int.reduceAdd, Int.reduceSub, Int.reduceNeg, Int.reduceToNat])
      | with_reducible refine a_block ?_
      | with_reducible refine a_ret ?_
      | with_reducible refine a_exit ?_
      | with_reducible refine a_skip ?_
      | with_reducible exact ConfOk.mk (by kernel_rfl)
      | (with_reducible refine eqT_of (eq33 _ _ _ _ _ _) ?_; simp)
      | (with_reducible refine eqT_of (eq35 _ _ _ _ _ _ _ _) ?_; simp)
      | ((fail_if_success with_reducible show False); with_reducible apply_assumption (exfalso := false) (symm := false) only [*, rfl, trivial, congrArg])
      | with_reducible refine And.intro ?_ ?_
      | (intro h; contradiction)
      | (intro h; subst h)
      | intro h
      | simp (maxSteps := 10000000) (implicitDefEqProofs := false) only [go_sem,  ↓reduceIte, reduceCtorEq, Nat.reduceAdd, Nat.reduceSub, Nat.reduceLeDiff, Nat.reduceEqDiff, Nat.reduceMul, Nat.reduceLT, Nat.reducePow, Int.reduceEq, Int.reduceLT, Int.reduceLE, Int.reduceGT, Int.reduceGE, Int.reduceAdd, Int.reduceSub, Int.reduceNeg, Int.reduceToNat])
  refine a_loop_k (fun n st => ∃ (g : Nat) (pre rest : List _) (acc : Unit), vs = pre ++ rest ∧ n = rest.length ∧ ((pre.any p) = false) ∧ Has st 19 [(0, .slice (vs.map Val.enc)), (1, .func (.func fn) cap), (7, .int .i64 vs.length), (8, .int .i64 pre.length)] []) (vs).length ⟨0, [], vs, (), rfl, rfl, rfl, ⟨rfl, rfl, by simp [kd, Outv.enc, Val.enc], by simp [kd, Outv.enc, Val.enc]⟩⟩ ?_
  rintro n st ⟨g, pre, rest, acc, he, rfl, hp, hs⟩ K hK
  have hw := wrap_nat pre.length (by have := congrArg List.length he; simp at this; omega)
  subst he
  refine a_has hs fun τ σ γ => ?_
  rcases rest with _ | ⟨x, rest⟩
  · repeat' (first
        | (with_reducible refine a_seq_k ?_; intro K hK)
        | ((first | with_reducible refine a_region (by kernel_rfl) ?_ | (with_reducible refine a_draw mixed (by kernel_rfl) ?_; intro C hC) | (with_reducible refine a_cond_k ?_; intro X Y hX hY) | with_reducible refine RetOk.mk ?_); simp (maxSteps := 10000000) (implicitDefEqProofs := false) only [go_sem, Val.enc, hw, hc,  ↓reduceIte, reduceCtorEq, Nat.reduceAdd, Nat.reduceSub, Nat.reduceLeDiff, Nat.reduceEqDiff, Nat.reduceMul, Nat.reduceLT, Nat.reducePow, Int.reduceEq, Int.reduceLT, Int.reduceLE, Int.reduceGT, Int.reduceGE, Int.reduceAdd, Int.reduceSub, Int.reduceNeg, Int.reduceToNat])
        | with_reducible refine a_block ?_
        | with_reducible refine a_ret ?_
        | with_reducible refine a_exit ?_
        | with_reducible refine a_skip ?_
        | with_reducible exact ConfOk.mk (by kernel_rfl)
        | (with_reducible refine eqT_of (eq33 _ _ _ _ _ _) ?_; simp)
        | (with_reducible refine eqT_of (eq35 _ _ _ _ _ _ _ _) ?_; simp)
        | ((fail_if_success with_reducible show False); with_reducible apply_assumption (exfalso := false) (symm := false) only [*, rfl, trivial, congrArg])
        | with_reducible refine And.intro ?_ ?_
        | (intro h; contradiction)
        | (intro h; subst h)
        | intro h
        | simp (maxSteps := 10000000) (implicitDefEqProofs := false) only [go_sem, Val.enc, hw, hc,  ↓reduceIte, reduceCtorEq, Nat.reduceAdd, Nat.reduceSub, Nat.reduceLeDiff, Nat.reduceEqDiff, Nat.reduceMul, Nat.reduceLT, Nat.reducePow, Int.reduceEq, Int.reduceLT, Int.reduceLE, Int.reduceGT, Int.reduceGE, Int.reduceAdd, Int.reduceSub, Int.reduceNeg, Int.reduceToNat])
    · simp at hp; exact idxF_none (by simpa using hp)
  · repeat' (first
        | (with_reducible refine a_seq_k ?_; intro K hK)
        | ((first | with_reducible refine a_region (by kernel_rfl) ?_ | (with_reducible refine a_draw mixed (by kernel_rfl) ?_; intro C hC) | (with_reducible refine a_cond_k ?_; intro X Y hX hY) | with_reducible refine RetOk.mk ?_ | with_reducible refine CallS.intro (hf x) ?_ | with_reducible refine CallD.intro (hf x) ?_); simp (maxSteps := 10000000) (implicitDefEqProofs := false) only [go_sem, Val.enc, hw, hc,  ↓reduceIte, reduceCtorEq, Nat.reduceAdd, Nat.reduceSub, Nat.reduceLeDiff, Nat.reduceEqDiff, Nat.reduceMul, Nat.reduceLT, Nat.reducePow, Int.reduceEq, Int.reduceLT, Int.reduceLE, Int.reduceGT, Int.reduceGE, Int.reduceAdd, Int.reduceSub, Int.reduceNeg, Int.reduceToNat])
        | with_reducible refine a_block ?_
        | with_reducible refine a_ret ?_
        | with_reducible refine a_exit ?_
        | with_reducible refine a_skip ?_
        | with_reducible exact ConfOk.mk (by kernel_rfl)
        | (with_reducible refine eqT_of (eq33 _ _ _ _ _ _) ?_; simp)
        | (with_reducible refine eqT_of (eq35 _ _ _ _ _ _ _ _) ?_; simp)
        | ((fail_if_success with_reducible show False); with_reducible apply_assumption (exfalso := false) (symm := false) only [*, rfl, trivial, congrArg])
        | with_reducible refine And.intro ?_ ?_
        | (intro h; contradiction)
        | (intro h; subst h)
        | intro h
        | simp (maxSteps := 10000000) (implicitDefEqProofs := false) only [go_sem, Val.enc, hw, hc,  ↓reduceIte, reduceCtorEq, Nat.reduceAdd, Nat.reduceSub, Nat.reduceLeDiff, Nat.reduceEqDiff, Nat.reduceMul, Nat.reduceLT, Nat.reducePow, Int.reduceEq, Int.reduceLT, Int.reduceLE, Int.reduceGT, Int.reduceGE, Int.reduceAdd, Int.reduceSub, Int.reduceNeg, Int.reduceToNat])
    · exact idxF_hit (by assumption) (by assumption)
    · exact ⟨⟨rest.length, by simp, 0, pre ++ [x], rest, (), by simp, rfl, by simp [*], ⟨rfl, rfl, by simp [kd, Outv.enc, Val.enc], by simp [kd, Outv.enc, Val.enc]⟩⟩⟩
theorem sl_ContainsFuncV (vs : List Val) (fn : FuncId) (cap : List AV) (p : Val → Bool) (hc : ∀ σ n, closeL (closeV σ (n + 1)) cap = some (cap, [])) (hf : ∀ x : Val, ACalls Tryz.prog fn (vA x.kind x.int x.text :: cap) (.bool (p x))) (hl : vs.length < 2 ^ 62) : ACalls Tryz.prog 79 [.slice (vs.map Val.enc), .func (.func fn) cap] (.bool (vs.any p)) := by
  refine acalls_k Tryz.func79 rfl (by kernel_rfl) (congrArg Array.toList Tryz.results79) Tryz.ntmps79 ?_
  intro R hR
  simp only [st0, List.length_cons, List.length_nil, Nat.reduceAdd, Nat.reduceSub, List.replicate_succ, List.replicate_zero, List.cons_append, List.nil_append]
  repeat' (first
      | (with_reducible refine a_seq_k ?_; intro K hK)
      | ((first | with_reducible refine a_region (by kernel_rfl) ?_ | (with_reducible refine a_draw mixed (by kernel_rfl) ?_; intro C hC) | (with_reducible refine a_cond_k ?_; intro X Y hX hY) | with_reducible refine RetOk.mk ?_ | with_reducible refine CallS.intro (sl_IndexFuncV vs _ _ _ hc hf hl) ?_ | with_reducible refine CallD.intro (sl_IndexFuncV vs _ _ _ hc hf hl) ?_); simp (maxSteps := 10000000) (implicitDefEqProofs := false) only [go_sem, hc,  ↓reduceIte, reduceCtorEq, Nat.reduceAdd, Nat.reduceSub, Nat.reduceLeDiff, Nat.reduceEqDiff, Nat.reduceMul, Nat.reduceLT, Nat.reducePow, Int.reduceEq, Int.reduceLT, Int.reduceLE, Int.reduceGT, Int.reduceGE, Int.reduceAdd, Int.reduceSub, Int.reduceNeg, Int.reduceToNat])
      | with_reducible refine a_block ?_
      | with_reducible refine a_ret ?_
      | with_reducible refine a_exit ?_
      | with_reducible refine a_skip ?_
      | with_reducible exact ConfOk.mk (by kernel_rfl)
      | (with_reducible refine eqT_of (eq33 _ _ _ _ _ _) ?_; simp)
      | (with_reducible refine eqT_of (eq35 _ _ _ _ _ _ _ _) ?_; simp)
      | ((fail_if_success with_reducible show False); with_reducible apply_assumption (exfalso := false) (symm := false) only [*, rfl, trivial, congrArg])
      | with_reducible refine And.intro ?_ ?_
      | (intro h; contradiction)
      | (intro h; subst h)
      | intro h
      | simp (maxSteps := 10000000) (implicitDefEqProofs := false) only [go_sem, hc,  ↓reduceIte, reduceCtorEq, Nat.reduceAdd, Nat.reduceSub, Nat.reduceLeDiff, Nat.reduceEqDiff, Nat.reduceMul, Nat.reduceLT, Nat.reducePow, Int.reduceEq, Int.reduceLT, Int.reduceLE, Int.reduceGT, Int.reduceGE, Int.reduceAdd, Int.reduceSub, Int.reduceNeg, Int.reduceToNat])
  all_goals simp [idxF_ge]
/-- validOutcome of the program. -/
def rowOkC (width : Int) (r : List Val) : Bool := !((decide (0 ≤ width) && decide ((r.length : Int) ≠ width)) || r.any fun v => !vOkC v.kind v.int v.text)
def ocOkC (rs : List (List Val)) (e width : Int) : Bool := if e ≠ 0 then isErr e && decide (rs.length = 0) else rs.all (rowOkC width)
theorem ocOkC_bad {pre rest : List (List Val)} {x : List Val} {e width : Int} (hm : e = 0) (hx : rowOkC width x = false) : false = ocOkC (pre ++ x :: rest) e width := by
  rw [ocOkC, if_neg (by omega)]; simp [hx]
theorem calc_validOutcome (rs : List (List Val)) (e width : Int) (hl : rs.length < 2 ^ 62) (hr : ∀ r ∈ rs, r.length < 2 ^ 62) : ACalls Tryz.prog 56 [ocA rs e, .int .i64 width] (.bool (ocOkC rs e width)) := by
  refine acalls_k Tryz.func56 rfl (by kernel_rfl) (congrArg Array.toList Tryz.results56) Tryz.ntmps56 ?_
  intro R hR
  simp only [st0, List.length_cons, List.length_nil, Nat.reduceAdd, Nat.reduceSub, List.replicate_succ, List.replicate_zero, List.cons_append, List.nil_append]
  repeat' (first
      | (with_reducible refine a_seq_reg ?_; intro K hK)
      | ((first | with_reducible refine a_region (by kernel_rfl) ?_ | (with_reducible refine a_draw mixed (by kernel_rfl) ?_; intro C hC) | (with_reducible refine a_cond_k ?_; intro X Y hX hY) | with_reducible refine RetOk.mk ?_ | with_reducible refine CallS.intro (calc_isError _) ?_ | with_reducible refine CallD.intro (calc_isError _) ?_); simp (maxSteps := 10000000) (implicitDefEqProofs := false) only [go_sem,  ↓reduceIte, reduceCtorEq, Nat.reduceAdd, Nat.reduceSub, Nat.reduceLeDiff, Nat.reduceEqDiff, Nat.reduceMul, Nat.reduceLT, Nat.reducePow, Int.reduceEq, Int.reduceLT, Int.reduceLE, Int.reduceGT, Int.reduceGE, Int.reduceAdd, Int.reduceSub, Int.reduceNeg, Int.reduceToNat])
      | with_reducible refine a_block ?_
      | with_reducible refine a_ret ?_
      | with_reducible refine a_exit ?_
      | with_reducible refine a_skip ?_
      | with_reducible exact ConfOk.mk (by kernel_rfl)
      | (with_reducible refine eqT_of (eq33 _ _ _ _ _ _) ?_; simp)
      | (with_reducible refine eqT_of (eq35 _ _ _ _ _ _ _ _) ?_; simp)
      | ((fail_if_success with_reducible show False); with_reducible apply_assumption (exfalso := false) (symm := false) only [*, rfl, trivial, congrArg])
      | with_reducible refine And.intro ?_ ?_
      | (intro h; contradiction)
      | (intro h; subst h)
      | intro h
      | simp (maxSteps := 10000000) (implicitDefEqProofs := false) only [go_sem,  ↓reduceIte, reduceCtorEq, Nat.reduceAdd, Nat.reduceSub, Nat.reduceLeDiff, Nat.reduceEqDiff, Nat.reduceMul, Nat.reduceLT, Nat.reducePow, Int.reduceEq, Int.reduceLT, Int.reduceLE, Int.reduceGT, Int.reduceGE, Int.reduceAdd, Int.reduceSub, Int.reduceNeg, Int.reduceToNat])
  refine a_cut (fun st => (e = 0) ∧ Has st 39 [(1, .int .i64 width), (2, .ptr 2 0 0)] [(2, .box 0 [.slice (rs.map rowE), .int .i64 e])]) (fun K hK => ?_) ?_
  · repeat' (first
        | (with_reducible refine a_seq_k ?_; intro K hK)
        | ((first | with_reducible refine a_region (by kernel_rfl) ?_ | (with_reducible refine a_draw mixed (by kernel_rfl) ?_; intro C hC) | (with_reducible refine a_cond_k ?_; intro X Y hX hY) | with_reducible refine RetOk.mk ?_ | with_reducible refine CallS.intro (calc_isError _) ?_ | with_reducible refine CallD.intro (calc_isError _) ?_); simp (maxSteps := 10000000) (implicitDefEqProofs := false) only [go_sem,  ↓reduceIte, reduceCtorEq, Nat.reduceAdd, Nat.reduceSub, Nat.reduceLeDiff, Nat.reduceEqDiff, Nat.reduceMul, Nat.reduceLT, Nat.reducePow, Int.reduceEq, Int.reduceLT, Int.reduceLE, Int.reduceGT, Int.reduceGE, Int.reduceAdd, Int.reduceSub, Int.reduceNeg, Int.reduceToNat])
        | with_reducible refine a_block ?_
        | with_reducible refine a_ret ?_
        | with_reducible refine a_exit ?_
        | with_reducible refine a_skip ?_
        | with_reducible exact ConfOk.mk (by kernel_rfl)
        | (with_reducible refine eqT_of (eq33 _ _ _ _ _ _) ?_; simp)
        | (with_reducible refine eqT_of (eq35 _ _ _ _ _ _ _ _) ?_; simp)
        | ((fail_if_success with_reducible show False); with_reducible apply_assumption (exfalso := false) (symm := false) only [*, rfl, trivial, congrArg])
        | with_reducible refine And.intro ?_ ?_
        | (intro h; contradiction)
        | (intro h; subst h)
        | intro h
        | simp (maxSteps := 10000000) (implicitDefEqProofs := false) only [go_sem,  ↓reduceIte, reduceCtorEq, Nat.reduceAdd, Nat.reduceSub, Nat.reduceLeDiff, Nat.reduceEqDiff, Nat.reduceMul, Nat.reduceLT, Nat.reducePow, Int.reduceEq, Int.reduceLT, Int.reduceLE, Int.reduceGT, Int.reduceGE, Int.reduceAdd, Int.reduceSub, Int.reduceNeg, Int.reduceToNat])
    · simp [ocOkC, *]
    · simp [ocOkC, *]
    · exact ⟨⟨rfl, rfl, by simp, by simp⟩⟩
  · rintro st ⟨hm, hs⟩
    refine a_has hs fun τ σ γ => ?_
    repeat' (first
        | (with_reducible refine a_seq_k ?_; intro K hK)
        | ((first | with_reducible refine a_region (by kernel_rfl) ?_ | (with_reducible refine a_draw mixed (by kernel_rfl) ?_; intro C hC) | (with_reducible refine a_cond_k ?_; intro X Y hX hY) | with_reducible refine RetOk.mk ?_); simp (maxSteps := 10000000) (implicitDefEqProofs := false) only [go_sem,  ↓reduceIte, reduceCtorEq, Nat.reduceAdd, Nat.reduceSub, Nat.reduceLeDiff, Nat.reduceEqDiff, Nat.reduceMul, Nat.reduceLT, Nat.reducePow, Int.reduceEq, Int.reduceLT, Int.reduceLE, Int.reduceGT, Int.reduceGE, Int.reduceAdd, Int.reduceSub, Int.reduceNeg, Int.reduceToNat])
        | with_reducible refine a_block ?_
        | with_reducible refine a_ret ?_
        | with_reducible refine a_exit ?_
        | with_reducible refine a_skip ?_
        | with_reducible exact ConfOk.mk (by kernel_rfl)
        | (with_reducible refine eqT_of (eq33 _ _ _ _ _ _) ?_; simp)
        | (with_reducible refine eqT_of (eq35 _ _ _ _ _ _ _ _) ?_; simp)
        | ((fail_if_success with_reducible show False); with_reducible apply_assumption (exfalso := false) (symm := false) only [*, rfl, trivial, congrArg])
        | with_reducible refine And.intro ?_ ?_
        | (intro h; contradiction)
        | (intro h; subst h)
        | intro h
        | simp (maxSteps := 10000000) (implicitDefEqProofs := false) only [go_sem,  ↓reduceIte, reduceCtorEq, Nat.reduceAdd, Nat.reduceSub, Nat.reduceLeDiff, Nat.reduceEqDiff, Nat.reduceMul, Nat.reduceLT, Nat.reducePow, Int.reduceEq, Int.reduceLT, Int.reduceLE, Int.reduceGT, Int.reduceGE, Int.reduceAdd, Int.reduceSub, Int.reduceNeg, Int.reduceToNat])
    refine a_loop_k (fun n st => ∃ (g : Nat) (pre rest : List _) (acc : Unit), rs = pre ++ rest ∧ n = rest.length ∧ ((pre.all (rowOkC width)) = true) ∧ Has st 39 [(1, .int .i64 width), (20, .slice (rs.map rowE)), (21, .int .i64 rs.length), (22, .int .i64 pre.length)] []) (rs).length ⟨0, [], rs, (), rfl, rfl, rfl, ⟨rfl, rfl, by simp [kd, Outv.enc, Val.enc], by simp [kd, Outv.enc, Val.enc]⟩⟩ ?_
    rintro n st ⟨g, pre, rest, acc, he, rfl, hp, hs⟩ K hK
    have hw := wrap_nat pre.length (by have := congrArg List.length he; simp at this; omega)
    subst he
    refine a_has hs fun τ σ γ => ?_
    rcases rest with _ | ⟨x, rest⟩
    · repeat' (first
          | (with_reducible refine a_seq_k ?_; intro K hK)
          | ((first | with_reducible refine a_region (by kernel_rfl) ?_ | (with_reducible refine a_draw mixed (by kernel_rfl) ?_; intro C hC) | (with_reducible refine a_cond_k ?_; intro X Y hX hY) | with_reducible refine RetOk.mk ?_); simp (maxSteps := 10000000) (implicitDefEqProofs := false) only [go_sem, hw,  ↓reduceIte, reduceCtorEq, Nat.reduceAdd, Nat.reduceSub, Nat.reduceLeDiff, Nat.reduceEqDiff, Nat.reduceMul, Nat.reduceLT, Nat.reducePow, Int.reduceEq, Int.reduceLT, Int.reduceLE, Int.reduceGT, Int.reduceGE, Int.reduceAdd, Int.reduceSub, Int.reduceNeg, Int.reduceToNat])
          | with_reducible refine a_block ?_
          | with_reducible refine a_ret ?_
          | with_reducible refine a_exit ?_
          | with_reducible refine a_skip ?_
          | with_reducible exact ConfOk.mk (by kernel_rfl)
          | (with_reducible refine eqT_of (eq33 _ _ _ _ _ _) ?_; simp)
          | (with_reducible refine eqT_of (eq35 _ _ _ _ _ _ _ _) ?_; simp)
          | ((fail_if_success with_reducible show False); with_reducible apply_assumption (exfalso := false) (symm := false) only [*, rfl, trivial, congrArg])
          | with_reducible refine And.intro ?_ ?_
          | (intro h; contradiction)
          | (intro h; subst h)
          | intro h
          | simp (maxSteps := 10000000) (implicitDefEqProofs := false) only [go_sem, hw,  ↓reduceIte, reduceCtorEq, Nat.reduceAdd, Nat.reduceSub, Nat.reduceLeDiff, Nat.reduceEqDiff, Nat.reduceMul, Nat.reduceLT, Nat.reducePow, Int.reduceEq, Int.reduceLT, Int.reduceLE, Int.reduceGT, Int.reduceGE, Int.reduceAdd, Int.reduceSub, Int.reduceNeg, Int.reduceToNat])
      · rw [ocOkC, if_neg (by omega), hp]
    · have hx : x.length < 2 ^ 62 := hr x (by simp)
      repeat' (first
          | (with_reducible refine a_seq_k ?_; intro K hK)
          | ((first | with_reducible refine a_region (by kernel_rfl) ?_ | (with_reducible refine a_draw mixed (by kernel_rfl) ?_; intro C hC) | (with_reducible refine a_cond_k ?_; intro X Y hX hY) | with_reducible refine RetOk.mk ?_ | with_reducible refine CallS.intro (sl_ContainsFuncV x _ _ _ (fun _ _ => rfl) (fun x => calc_validOutcome1 _ _ _) hx) ?_ | with_reducible refine CallD.intro (sl_ContainsFuncV x _ _ _ (fun _ _ => rfl) (fun x => calc_validOutcome1 _ _ _) hx) ?_); simp (maxSteps := 10000000) (implicitDefEqProofs := false) only [go_sem, hw,  ↓reduceIte, reduceCtorEq, Nat.reduceAdd, Nat.reduceSub, Nat.reduceLeDiff, Nat.reduceEqDiff, Nat.reduceMul, Nat.reduceLT, Nat.reducePow, Int.reduceEq, Int.reduceLT, Int.reduceLE, Int.reduceGT, Int.reduceGE, Int.reduceAdd, Int.reduceSub, Int.reduceNeg, Int.reduceToNat])
          | with_reducible refine a_block ?_
          | with_reducible refine a_ret ?_
          | with_reducible refine a_exit ?_
          | with_reducible refine a_skip ?_
          | with_reducible exact ConfOk.mk (by kernel_rfl)
          | (with_reducible refine eqT_of (eq33 _ _ _ _ _ _) ?_; simp)
          | (with_reducible refine eqT_of (eq35 _ _ _ _ _ _ _ _) ?_; simp)
          | ((fail_if_success with_reducible show False); with_reducible apply_assumption (exfalso := false) (symm := false) only [*, rfl, trivial, congrArg])
          | with_reducible refine And.intro ?_ ?_
          | (intro h; contradiction)
          | (intro h; subst h)
          | intro h
          | simp (maxSteps := 10000000) (implicitDefEqProofs := false) only [go_sem, hw,  ↓reduceIte, reduceCtorEq, Nat.reduceAdd, Nat.reduceSub, Nat.reduceLeDiff, Nat.reduceEqDiff, Nat.reduceMul, Nat.reduceLT, Nat.reducePow, Int.reduceEq, Int.reduceLT, Int.reduceLE, Int.reduceGT, Int.reduceGE, Int.reduceAdd, Int.reduceSub, Int.reduceNeg, Int.reduceToNat])
      · exact ocOkC_bad hm (by simp [rowOkC, *])
      · exact ⟨⟨rest.length, by simp, 0, pre ++ [x], rest, (), by simp, rfl, by rw [List.all_append, hp]; simp [rowOkC, *], ⟨rfl, rfl, by simp [kd, Outv.enc, Val.enc], by simp [kd, Outv.enc, Val.enc]⟩⟩⟩
      · exact ocOkC_bad hm (by simp [rowOkC, *])
      · exact ocOkC_bad hm (by simp [rowOkC, *])
      · exact ⟨⟨rest.length, by simp, 0, pre ++ [x], rest, (), by simp, rfl, by rw [List.all_append, hp]; simp [rowOkC, *], ⟨rfl, rfl, by simp [kd, Outv.enc, Val.enc], by simp [kd, Outv.enc, Val.enc]⟩⟩⟩
end Go.Proofs.YtmlaogjndaeihaaGreatDoor
