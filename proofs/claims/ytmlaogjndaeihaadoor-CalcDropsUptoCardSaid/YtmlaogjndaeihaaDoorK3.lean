/- CalcDrops: conditions that never fail decide about the others: if one is not true, failures do not count; if all are true, they make no difference; for arguments of bulk at most 1048576. -/
import Derived.Test.YtmlaogjndaeihaaDoorC1
import Derived.Test.YtmlaogjndaeihaaDoorT16
namespace Go.Proofs.YtmlaogjndaeihaaDoor
open Go Go.Ab
section
attribute [local go_sem ↓] parts_tt parts_ff parts_tf parts_ft
attribute [local go_sem] parts_eq learnT aops_nil aops_cons aopsD_nil aopsD_cons stepS stepD gval St.learn skipR St.after putτ applyUpd List.foldl_cons List.foldl_nil pureOp memOp callOf opnd ofConst leaf binA unA lenA indexA indexAddrA fieldAddrA fieldA sliceA convertA pickV fillA placeS cellsA setA partA loadM storeM appendM srcEls lookBox lookRow lookMap closeL closeV scalarB scalarL killed buildEls lookupA leafEq eqAll resA resL tupA retA thenA blockA isInt loA hiA foldA maxA minA okSize leafB closedB Res.foot List.getD_cons_zero List.getD_cons_succ List.set_cons_zero List.set_cons_succ List.map_cons List.map_nil List.append_nil List.nil_append List.cons_append List.length_cons List.length_nil List.take_succ_cons List.take_zero List.drop_succ_cons List.drop_zero List.take_nil List.drop_nil List.all_cons List.all_nil List.getElem?_toArray List.getElem?_cons_zero List.getElem?_cons_succ Option.bind_some Option.map_some true_and and_true true_implies ne_eq not_true_eq_false not_false_eq_true Bool.true_eq_false Bool.false_eq_true Bool.not_true Bool.not_false decide_eq_true_eq decide_eq_false_iff_not false_implies implies_true and_self ite_true ite_false cond_true cond_false Option.some.injEq List.reverse_cons List.reverse_nil Bool.and_self Bool.true_and Bool.and_true Bool.false_and Bool.and_false Bool.or_true Bool.true_or Bool.or_false Bool.false_or Bool.not_eq_eq_eq_not Bool.not_not Bool.or_self beq_self_eq_true and_false false_and or_true true_or or_false false_or not_true not_false_iff Decidable.not_not lookT lookR tabT tabR Int.toNat_natCast List.length_map List.map_append List.length_append decide_true decide_false tmod2 List.mem_singleton forall_eq elOk1 elOk3 elOk4 castn0 castn1 castn2 castn3 getD_mid getD_mid_map at_lt at_end mid_lt mid_lt' nat_ge List.size_toArray Array.size_empty Nat.add_zero Nat.zero_add
attribute [local irreducible] ASpec ACalls retA ti EqT
set_option linter.unusedSimpArgs false
set_option maxHeartbeats 4000000
set_option maxRecDepth 100000
set_option linter.unusedVariables false
attribute [local go_sem] ti2 ti3 ti4 ti5 ti9 ti21 ti22 ti23 ti24 ti25 ti30 ti33 ti35 ti41 ti44 ti45 ti46 ti49 ti56 ti62 ti66 ti81 ti89 ti93 ti96 ti99 ti116
theorem law_drops (xs ys : List Outv) (hx : ∀ o ∈ xs, o.In) (hy : ∀ o ∈ ys, o.In) (nx : xs.length ≤ 1048576) (ny : ys.length ≤ 1048576) : ACalls Tryd.prog 9 [outs xs, outs ys] (.bool true) := by
  have hT := law_truths xs (by omega)
  have hU := law_truths ys (by omega)
  refine acalls_k Tryd.func9 rfl (by kernel_rfl) (congrArg Array.toList Tryd.results9) Tryd.ntmps9 ?_
  intro R hR
  simp only [st0, List.length_cons, List.length_nil, Nat.reduceAdd, Nat.reduceSub, List.replicate_succ, List.replicate_zero, List.cons_append, List.nil_append]
  repeat' (first
      | (with_reducible refine a_seq_reg ?_; intro K hK)
      | (with_reducible refine a_region (by kernel_rfl) ?_; simp (maxSteps := 10000000) (implicitDefEqProofs := false) only [go_sem,  ↓reduceIte, reduceCtorEq, Nat.reduceAdd, Nat.reduceSub, Nat.reduceLeDiff, Nat.reduceEqDiff, Nat.reduceMul, Nat.reduceLT, Nat.reducePow, Int.reduceEq, Int.reduceLT, Int.reduceLE, Int.reduceGT, Int.reduceGE, Int.reduceAdd, Int.reduceSub, Int.reduceNeg, Int.reduceToNat])
      | (with_reducible refine a_draw mixed (by kernel_rfl) ?_; intro C hC; simp (maxSteps := 10000000) (implicitDefEqProofs := false) only [go_sem,  ↓reduceIte, reduceCtorEq, Nat.reduceAdd, Nat.reduceSub, Nat.reduceLeDiff, Nat.reduceEqDiff, Nat.reduceMul, Nat.reduceLT, Nat.reducePow, Int.reduceEq, Int.reduceLT, Int.reduceLE, Int.reduceGT, Int.reduceGE, Int.reduceAdd, Int.reduceSub, Int.reduceNeg, Int.reduceToNat])
      | with_reducible refine a_block ?_
      | with_reducible refine a_ret ?_
      | with_reducible refine a_exit ?_
      | with_reducible refine a_skip ?_
      | (with_reducible refine a_cond_k ?_; intro X Y hX hY; simp (maxSteps := 10000000) (implicitDefEqProofs := false) only [go_sem,  ↓reduceIte, reduceCtorEq, Nat.reduceAdd, Nat.reduceSub, Nat.reduceLeDiff, Nat.reduceEqDiff, Nat.reduceMul, Nat.reduceLT, Nat.reducePow, Int.reduceEq, Int.reduceLT, Int.reduceLE, Int.reduceGT, Int.reduceGE, Int.reduceAdd, Int.reduceSub, Int.reduceNeg, Int.reduceToNat])
      | with_reducible exact ConfOk.mk (by kernel_rfl)
      | (with_reducible refine eqT_of (eq33 _ _ _ _ _ _) ?_; simp)
      | (with_reducible refine eqT_of (eq35 _ _ _ _ _ _ _ _) ?_; simp)
      | (with_reducible refine RetOk.mk ?_; simp (maxSteps := 10000000) (implicitDefEqProofs := false) only [go_sem,  ↓reduceIte, reduceCtorEq, Nat.reduceAdd, Nat.reduceSub, Nat.reduceLeDiff, Nat.reduceEqDiff, Nat.reduceMul, Nat.reduceLT, Nat.reducePow, Int.reduceEq, Int.reduceLT, Int.reduceLE, Int.reduceGT, Int.reduceGE, Int.reduceAdd, Int.reduceSub, Int.reduceNeg, Int.reduceToNat])
      | (with_reducible refine CallS.intro (hT) ?_; simp (maxSteps := 10000000) (implicitDefEqProofs := false) only [go_sem,  ↓reduceIte, reduceCtorEq, Nat.reduceAdd, Nat.reduceSub, Nat.reduceLeDiff, Nat.reduceEqDiff, Nat.reduceMul, Nat.reduceLT, Nat.reducePow, Int.reduceEq, Int.reduceLT, Int.reduceLE, Int.reduceGT, Int.reduceGE, Int.reduceAdd, Int.reduceSub, Int.reduceNeg, Int.reduceToNat])
      | (with_reducible refine CallD.intro (hT) ?_; simp (maxSteps := 10000000) (implicitDefEqProofs := false) only [go_sem,  ↓reduceIte, reduceCtorEq, Nat.reduceAdd, Nat.reduceSub, Nat.reduceLeDiff, Nat.reduceEqDiff, Nat.reduceMul, Nat.reduceLT, Nat.reducePow, Int.reduceEq, Int.reduceLT, Int.reduceLE, Int.reduceGT, Int.reduceGE, Int.reduceAdd, Int.reduceSub, Int.reduceNeg, Int.reduceToNat])
      | (with_reducible refine CallS.intro (hU) ?_; simp (maxSteps := 10000000) (implicitDefEqProofs := false) only [go_sem,  ↓reduceIte, reduceCtorEq, Nat.reduceAdd, Nat.reduceSub, Nat.reduceLeDiff, Nat.reduceEqDiff, Nat.reduceMul, Nat.reduceLT, Nat.reducePow, Int.reduceEq, Int.reduceLT, Int.reduceLE, Int.reduceGT, Int.reduceGE, Int.reduceAdd, Int.reduceSub, Int.reduceNeg, Int.reduceToNat])
      | (with_reducible refine CallD.intro (hU) ?_; simp (maxSteps := 10000000) (implicitDefEqProofs := false) only [go_sem,  ↓reduceIte, reduceCtorEq, Nat.reduceAdd, Nat.reduceSub, Nat.reduceLeDiff, Nat.reduceEqDiff, Nat.reduceMul, Nat.reduceLT, Nat.reducePow, Int.reduceEq, Int.reduceLT, Int.reduceLE, Int.reduceGT, Int.reduceGE, Int.reduceAdd, Int.reduceSub, Int.reduceNeg, Int.reduceToNat])
      | (with_reducible refine CallS.intro (law_awake) ?_; simp (maxSteps := 10000000) (implicitDefEqProofs := false) only [go_sem,  ↓reduceIte, reduceCtorEq, Nat.reduceAdd, Nat.reduceSub, Nat.reduceLeDiff, Nat.reduceEqDiff, Nat.reduceMul, Nat.reduceLT, Nat.reducePow, Int.reduceEq, Int.reduceLT, Int.reduceLE, Int.reduceGT, Int.reduceGE, Int.reduceAdd, Int.reduceSub, Int.reduceNeg, Int.reduceToNat])
      | (with_reducible refine CallD.intro (law_awake) ?_; simp (maxSteps := 10000000) (implicitDefEqProofs := false) only [go_sem,  ↓reduceIte, reduceCtorEq, Nat.reduceAdd, Nat.reduceSub, Nat.reduceLeDiff, Nat.reduceEqDiff, Nat.reduceMul, Nat.reduceLT, Nat.reducePow, Int.reduceEq, Int.reduceLT, Int.reduceLE, Int.reduceGT, Int.reduceGE, Int.reduceAdd, Int.reduceSub, Int.reduceNeg, Int.reduceToNat])
      | ((fail_if_success with_reducible show False); with_reducible apply_assumption (exfalso := false) (symm := false) only [*, rfl, trivial, congrArg])
      | with_reducible refine And.intro ?_ ?_
      | (intro h; contradiction)
      | (intro h; subst h)
      | intro h
      | simp (maxSteps := 10000000) (implicitDefEqProofs := false) only [go_sem,  ↓reduceIte, reduceCtorEq, Nat.reduceAdd, Nat.reduceSub, Nat.reduceLeDiff, Nat.reduceEqDiff, Nat.reduceMul, Nat.reduceLT, Nat.reducePow, Int.reduceEq, Int.reduceLT, Int.reduceLE, Int.reduceGT, Int.reduceGE, Int.reduceAdd, Int.reduceSub, Int.reduceNeg, Int.reduceToNat])
  refine a_cut (fun st => (xs.all truthO = true ∧ ys.all truthO = true) ∧ Has st 63 [(0, .slice (xs.map Outv.enc)), (1, .slice (ys.map Outv.enc))] []) (fun K hK => ?_) ?_
  · repeat' (first
        | (with_reducible refine a_seq_k ?_; intro K hK)
        | (with_reducible refine a_region (by kernel_rfl) ?_; simp (maxSteps := 10000000) (implicitDefEqProofs := false) only [go_sem,  ↓reduceIte, reduceCtorEq, Nat.reduceAdd, Nat.reduceSub, Nat.reduceLeDiff, Nat.reduceEqDiff, Nat.reduceMul, Nat.reduceLT, Nat.reducePow, Int.reduceEq, Int.reduceLT, Int.reduceLE, Int.reduceGT, Int.reduceGE, Int.reduceAdd, Int.reduceSub, Int.reduceNeg, Int.reduceToNat])
        | (with_reducible refine a_draw mixed (by kernel_rfl) ?_; intro C hC; simp (maxSteps := 10000000) (implicitDefEqProofs := false) only [go_sem,  ↓reduceIte, reduceCtorEq, Nat.reduceAdd, Nat.reduceSub, Nat.reduceLeDiff, Nat.reduceEqDiff, Nat.reduceMul, Nat.reduceLT, Nat.reducePow, Int.reduceEq, Int.reduceLT, Int.reduceLE, Int.reduceGT, Int.reduceGE, Int.reduceAdd, Int.reduceSub, Int.reduceNeg, Int.reduceToNat])
        | with_reducible refine a_block ?_
        | with_reducible refine a_ret ?_
        | with_reducible refine a_exit ?_
        | with_reducible refine a_skip ?_
        | (with_reducible refine a_cond_k ?_; intro X Y hX hY; simp (maxSteps := 10000000) (implicitDefEqProofs := false) only [go_sem,  ↓reduceIte, reduceCtorEq, Nat.reduceAdd, Nat.reduceSub, Nat.reduceLeDiff, Nat.reduceEqDiff, Nat.reduceMul, Nat.reduceLT, Nat.reducePow, Int.reduceEq, Int.reduceLT, Int.reduceLE, Int.reduceGT, Int.reduceGE, Int.reduceAdd, Int.reduceSub, Int.reduceNeg, Int.reduceToNat])
        | with_reducible exact ConfOk.mk (by kernel_rfl)
        | (with_reducible refine eqT_of (eq33 _ _ _ _ _ _) ?_; simp)
        | (with_reducible refine eqT_of (eq35 _ _ _ _ _ _ _ _) ?_; simp)
        | (with_reducible refine RetOk.mk ?_; simp (maxSteps := 10000000) (implicitDefEqProofs := false) only [go_sem,  ↓reduceIte, reduceCtorEq, Nat.reduceAdd, Nat.reduceSub, Nat.reduceLeDiff, Nat.reduceEqDiff, Nat.reduceMul, Nat.reduceLT, Nat.reducePow, Int.reduceEq, Int.reduceLT, Int.reduceLE, Int.reduceGT, Int.reduceGE, Int.reduceAdd, Int.reduceSub, Int.reduceNeg, Int.reduceToNat])
        | (with_reducible refine CallS.intro (hT) ?_; simp (maxSteps := 10000000) (implicitDefEqProofs := false) only [go_sem,  ↓reduceIte, reduceCtorEq, Nat.reduceAdd, Nat.reduceSub, Nat.reduceLeDiff, Nat.reduceEqDiff, Nat.reduceMul, Nat.reduceLT, Nat.reducePow, Int.reduceEq, Int.reduceLT, Int.reduceLE, Int.reduceGT, Int.reduceGE, Int.reduceAdd, Int.reduceSub, Int.reduceNeg, Int.reduceToNat])
        | (with_reducible refine CallD.intro (hT) ?_; simp (maxSteps := 10000000) (implicitDefEqProofs := false) only [go_sem,  ↓reduceIte, reduceCtorEq, Nat.reduceAdd, Nat.reduceSub, Nat.reduceLeDiff, Nat.reduceEqDiff, Nat.reduceMul, Nat.reduceLT, Nat.reducePow, Int.reduceEq, Int.reduceLT, Int.reduceLE, Int.reduceGT, Int.reduceGE, Int.reduceAdd, Int.reduceSub, Int.reduceNeg, Int.reduceToNat])
        | (with_reducible refine CallS.intro (hU) ?_; simp (maxSteps := 10000000) (implicitDefEqProofs := false) only [go_sem,  ↓reduceIte, reduceCtorEq, Nat.reduceAdd, Nat.reduceSub, Nat.reduceLeDiff, Nat.reduceEqDiff, Nat.reduceMul, Nat.reduceLT, Nat.reducePow, Int.reduceEq, Int.reduceLT, Int.reduceLE, Int.reduceGT, Int.reduceGE, Int.reduceAdd, Int.reduceSub, Int.reduceNeg, Int.reduceToNat])
        | (with_reducible refine CallD.intro (hU) ?_; simp (maxSteps := 10000000) (implicitDefEqProofs := false) only [go_sem,  ↓reduceIte, reduceCtorEq, Nat.reduceAdd, Nat.reduceSub, Nat.reduceLeDiff, Nat.reduceEqDiff, Nat.reduceMul, Nat.reduceLT, Nat.reducePow, Int.reduceEq, Int.reduceLT, Int.reduceLE, Int.reduceGT, Int.reduceGE, Int.reduceAdd, Int.reduceSub, Int.reduceNeg, Int.reduceToNat])
        | (with_reducible refine CallS.intro (law_awake) ?_; simp (maxSteps := 10000000) (implicitDefEqProofs := false) only [go_sem,  ↓reduceIte, reduceCtorEq, Nat.reduceAdd, Nat.reduceSub, Nat.reduceLeDiff, Nat.reduceEqDiff, Nat.reduceMul, Nat.reduceLT, Nat.reducePow, Int.reduceEq, Int.reduceLT, Int.reduceLE, Int.reduceGT, Int.reduceGE, Int.reduceAdd, Int.reduceSub, Int.reduceNeg, Int.reduceToNat])
        | (with_reducible refine CallD.intro (law_awake) ?_; simp (maxSteps := 10000000) (implicitDefEqProofs := false) only [go_sem,  ↓reduceIte, reduceCtorEq, Nat.reduceAdd, Nat.reduceSub, Nat.reduceLeDiff, Nat.reduceEqDiff, Nat.reduceMul, Nat.reduceLT, Nat.reducePow, Int.reduceEq, Int.reduceLT, Int.reduceLE, Int.reduceGT, Int.reduceGE, Int.reduceAdd, Int.reduceSub, Int.reduceNeg, Int.reduceToNat])
        | ((fail_if_success with_reducible show False); with_reducible apply_assumption (exfalso := false) (symm := false) only [*, rfl, trivial, congrArg])
        | with_reducible refine And.intro ?_ ?_
        | (intro h; contradiction)
        | (intro h; subst h)
        | intro h
        | simp (maxSteps := 10000000) (implicitDefEqProofs := false) only [go_sem,  ↓reduceIte, reduceCtorEq, Nat.reduceAdd, Nat.reduceSub, Nat.reduceLeDiff, Nat.reduceEqDiff, Nat.reduceMul, Nat.reduceLT, Nat.reducePow, Int.reduceEq, Int.reduceLT, Int.reduceLE, Int.reduceGT, Int.reduceGE, Int.reduceAdd, Int.reduceSub, Int.reduceNeg, Int.reduceToNat])
    · exact ⟨⟨⟨by assumption, by assumption⟩, ⟨rfl, rfl, by simp, by simp⟩⟩⟩
  · rintro st ⟨hm, hs⟩
    refine a_has hs fun τ σ γ => ?_
    have hxt : ∀ o ∈ xs, truthO o = true := List.all_eq_true.1 hm.1
    have hyt : ∀ o ∈ ys, truthO o = true := List.all_eq_true.1 hm.2
    refine a_cut (fun st => (∀ o ∈ xs, o.err = 0) ∧ Has st 63 [(0, .slice (xs.map Outv.enc)), (1, .slice (ys.map Outv.enc))] []) (fun K hK => ?_) ?_
    · repeat' (first
          | (with_reducible refine a_seq_reg ?_; intro K hK)
          | (with_reducible refine a_region (by kernel_rfl) ?_; simp (maxSteps := 10000000) (implicitDefEqProofs := false) only [go_sem,  ↓reduceIte, reduceCtorEq, Nat.reduceAdd, Nat.reduceSub, Nat.reduceLeDiff, Nat.reduceEqDiff, Nat.reduceMul, Nat.reduceLT, Nat.reducePow, Int.reduceEq, Int.reduceLT, Int.reduceLE, Int.reduceGT, Int.reduceGE, Int.reduceAdd, Int.reduceSub, Int.reduceNeg, Int.reduceToNat])
          | (with_reducible refine a_draw mixed (by kernel_rfl) ?_; intro C hC; simp (maxSteps := 10000000) (implicitDefEqProofs := false) only [go_sem,  ↓reduceIte, reduceCtorEq, Nat.reduceAdd, Nat.reduceSub, Nat.reduceLeDiff, Nat.reduceEqDiff, Nat.reduceMul, Nat.reduceLT, Nat.reducePow, Int.reduceEq, Int.reduceLT, Int.reduceLE, Int.reduceGT, Int.reduceGE, Int.reduceAdd, Int.reduceSub, Int.reduceNeg, Int.reduceToNat])
          | with_reducible refine a_block ?_
          | with_reducible refine a_ret ?_
          | with_reducible refine a_exit ?_
          | with_reducible refine a_skip ?_
          | (with_reducible refine a_cond_k ?_; intro X Y hX hY; simp (maxSteps := 10000000) (implicitDefEqProofs := false) only [go_sem,  ↓reduceIte, reduceCtorEq, Nat.reduceAdd, Nat.reduceSub, Nat.reduceLeDiff, Nat.reduceEqDiff, Nat.reduceMul, Nat.reduceLT, Nat.reducePow, Int.reduceEq, Int.reduceLT, Int.reduceLE, Int.reduceGT, Int.reduceGE, Int.reduceAdd, Int.reduceSub, Int.reduceNeg, Int.reduceToNat])
          | with_reducible exact ConfOk.mk (by kernel_rfl)
          | (with_reducible refine eqT_of (eq33 _ _ _ _ _ _) ?_; simp)
          | (with_reducible refine eqT_of (eq35 _ _ _ _ _ _ _ _) ?_; simp)
          | (with_reducible refine RetOk.mk ?_; simp (maxSteps := 10000000) (implicitDefEqProofs := false) only [go_sem,  ↓reduceIte, reduceCtorEq, Nat.reduceAdd, Nat.reduceSub, Nat.reduceLeDiff, Nat.reduceEqDiff, Nat.reduceMul, Nat.reduceLT, Nat.reducePow, Int.reduceEq, Int.reduceLT, Int.reduceLE, Int.reduceGT, Int.reduceGE, Int.reduceAdd, Int.reduceSub, Int.reduceNeg, Int.reduceToNat])
          | ((fail_if_success with_reducible show False); with_reducible apply_assumption (exfalso := false) (symm := false) only [*, rfl, trivial, congrArg])
          | with_reducible refine And.intro ?_ ?_
          | (intro h; contradiction)
          | (intro h; subst h)
          | intro h
          | simp (maxSteps := 10000000) (implicitDefEqProofs := false) only [go_sem,  ↓reduceIte, reduceCtorEq, Nat.reduceAdd, Nat.reduceSub, Nat.reduceLeDiff, Nat.reduceEqDiff, Nat.reduceMul, Nat.reduceLT, Nat.reducePow, Int.reduceEq, Int.reduceLT, Int.reduceLE, Int.reduceGT, Int.reduceGE, Int.reduceAdd, Int.reduceSub, Int.reduceNeg, Int.reduceToNat])
      refine a_loop_k (fun n st => ∃ (g : Nat) (pre rest : List _) (acc : Unit), xs = pre ++ rest ∧ n = rest.length ∧ (∀ o ∈ pre, o.err = 0) ∧ Has st 63 [(0, .slice (xs.map Outv.enc)), (1, .slice (ys.map Outv.enc)), (5, .int .i64 pre.length)] []) (xs).length ⟨0, [], xs, (), rfl, rfl, by simp, ⟨rfl, rfl, by simp [kd, Outv.enc, Val.enc], by simp [kd, Outv.enc, Val.enc]⟩⟩ ?_
      rintro n st ⟨g, pre, rest, acc, he, rfl, hp, hs⟩ K hK
      have hw := wrap_nat pre.length (by have := congrArg List.length he; simp at this; omega)
      subst he
      refine a_has hs fun τ σ γ => ?_
      rcases rest with _ | ⟨x, rest⟩
      · repeat' (first
            | (with_reducible refine a_seq_k ?_; intro K hK)
            | (with_reducible refine a_region (by kernel_rfl) ?_; simp (maxSteps := 10000000) (implicitDefEqProofs := false) only [go_sem, Outv.enc, hw,  ↓reduceIte, reduceCtorEq, Nat.reduceAdd, Nat.reduceSub, Nat.reduceLeDiff, Nat.reduceEqDiff, Nat.reduceMul, Nat.reduceLT, Nat.reducePow, Int.reduceEq, Int.reduceLT, Int.reduceLE, Int.reduceGT, Int.reduceGE, Int.reduceAdd, Int.reduceSub, Int.reduceNeg, Int.reduceToNat])
            | (with_reducible refine a_draw mixed (by kernel_rfl) ?_; intro C hC; simp (maxSteps := 10000000) (implicitDefEqProofs := false) only [go_sem, Outv.enc, hw,  ↓reduceIte, reduceCtorEq, Nat.reduceAdd, Nat.reduceSub, Nat.reduceLeDiff, Nat.reduceEqDiff, Nat.reduceMul, Nat.reduceLT, Nat.reducePow, Int.reduceEq, Int.reduceLT, Int.reduceLE, Int.reduceGT, Int.reduceGE, Int.reduceAdd, Int.reduceSub, Int.reduceNeg, Int.reduceToNat])
            | with_reducible refine a_block ?_
            | with_reducible refine a_ret ?_
            | with_reducible refine a_exit ?_
            | with_reducible refine a_skip ?_
            | (with_reducible refine a_cond_k ?_; intro X Y hX hY; simp (maxSteps := 10000000) (implicitDefEqProofs := false) only [go_sem, Outv.enc, hw,  ↓reduceIte, reduceCtorEq, Nat.reduceAdd, Nat.reduceSub, Nat.reduceLeDiff, Nat.reduceEqDiff, Nat.reduceMul, Nat.reduceLT, Nat.reducePow, Int.reduceEq, Int.reduceLT, Int.reduceLE, Int.reduceGT, Int.reduceGE, Int.reduceAdd, Int.reduceSub, Int.reduceNeg, Int.reduceToNat])
            | with_reducible exact ConfOk.mk (by kernel_rfl)
            | (with_reducible refine eqT_of (eq33 _ _ _ _ _ _) ?_; simp)
            | (with_reducible refine eqT_of (eq35 _ _ _ _ _ _ _ _) ?_; simp)
            | (with_reducible refine RetOk.mk ?_; simp (maxSteps := 10000000) (implicitDefEqProofs := false) only [go_sem, Outv.enc, hw,  ↓reduceIte, reduceCtorEq, Nat.reduceAdd, Nat.reduceSub, Nat.reduceLeDiff, Nat.reduceEqDiff, Nat.reduceMul, Nat.reduceLT, Nat.reducePow, Int.reduceEq, Int.reduceLT, Int.reduceLE, Int.reduceGT, Int.reduceGE, Int.reduceAdd, Int.reduceSub, Int.reduceNeg, Int.reduceToNat])
            | ((fail_if_success with_reducible show False); with_reducible apply_assumption (exfalso := false) (symm := false) only [*, rfl, trivial, congrArg])
            | with_reducible refine And.intro ?_ ?_
            | (intro h; contradiction)
            | (intro h; subst h)
            | intro h
            | simp (maxSteps := 10000000) (implicitDefEqProofs := false) only [go_sem, Outv.enc, hw,  ↓reduceIte, reduceCtorEq, Nat.reduceAdd, Nat.reduceSub, Nat.reduceLeDiff, Nat.reduceEqDiff, Nat.reduceMul, Nat.reduceLT, Nat.reducePow, Int.reduceEq, Int.reduceLT, Int.reduceLE, Int.reduceGT, Int.reduceGE, Int.reduceAdd, Int.reduceSub, Int.reduceNeg, Int.reduceToNat])
        · exact ⟨⟨hp, ⟨rfl, rfl, by simp, by simp⟩⟩⟩
      · repeat' (first
            | (with_reducible refine a_seq_k ?_; intro K hK)
            | (with_reducible refine a_region (by kernel_rfl) ?_; simp (maxSteps := 10000000) (implicitDefEqProofs := false) only [go_sem, Outv.enc, hw,  ↓reduceIte, reduceCtorEq, Nat.reduceAdd, Nat.reduceSub, Nat.reduceLeDiff, Nat.reduceEqDiff, Nat.reduceMul, Nat.reduceLT, Nat.reducePow, Int.reduceEq, Int.reduceLT, Int.reduceLE, Int.reduceGT, Int.reduceGE, Int.reduceAdd, Int.reduceSub, Int.reduceNeg, Int.reduceToNat])
            | (with_reducible refine a_draw mixed (by kernel_rfl) ?_; intro C hC; simp (maxSteps := 10000000) (implicitDefEqProofs := false) only [go_sem, Outv.enc, hw,  ↓reduceIte, reduceCtorEq, Nat.reduceAdd, Nat.reduceSub, Nat.reduceLeDiff, Nat.reduceEqDiff, Nat.reduceMul, Nat.reduceLT, Nat.reducePow, Int.reduceEq, Int.reduceLT, Int.reduceLE, Int.reduceGT, Int.reduceGE, Int.reduceAdd, Int.reduceSub, Int.reduceNeg, Int.reduceToNat])
            | with_reducible refine a_block ?_
            | with_reducible refine a_ret ?_
            | with_reducible refine a_exit ?_
            | with_reducible refine a_skip ?_
            | (with_reducible refine a_cond_k ?_; intro X Y hX hY; simp (maxSteps := 10000000) (implicitDefEqProofs := false) only [go_sem, Outv.enc, hw,  ↓reduceIte, reduceCtorEq, Nat.reduceAdd, Nat.reduceSub, Nat.reduceLeDiff, Nat.reduceEqDiff, Nat.reduceMul, Nat.reduceLT, Nat.reducePow, Int.reduceEq, Int.reduceLT, Int.reduceLE, Int.reduceGT, Int.reduceGE, Int.reduceAdd, Int.reduceSub, Int.reduceNeg, Int.reduceToNat])
            | with_reducible exact ConfOk.mk (by kernel_rfl)
            | (with_reducible refine eqT_of (eq33 _ _ _ _ _ _) ?_; simp)
            | (with_reducible refine eqT_of (eq35 _ _ _ _ _ _ _ _) ?_; simp)
            | (with_reducible refine RetOk.mk ?_; simp (maxSteps := 10000000) (implicitDefEqProofs := false) only [go_sem, Outv.enc, hw,  ↓reduceIte, reduceCtorEq, Nat.reduceAdd, Nat.reduceSub, Nat.reduceLeDiff, Nat.reduceEqDiff, Nat.reduceMul, Nat.reduceLT, Nat.reducePow, Int.reduceEq, Int.reduceLT, Int.reduceLE, Int.reduceGT, Int.reduceGE, Int.reduceAdd, Int.reduceSub, Int.reduceNeg, Int.reduceToNat])
            | (with_reducible refine CallS.intro (law_awake) ?_; simp (maxSteps := 10000000) (implicitDefEqProofs := false) only [go_sem, Outv.enc, hw,  ↓reduceIte, reduceCtorEq, Nat.reduceAdd, Nat.reduceSub, Nat.reduceLeDiff, Nat.reduceEqDiff, Nat.reduceMul, Nat.reduceLT, Nat.reducePow, Int.reduceEq, Int.reduceLT, Int.reduceLE, Int.reduceGT, Int.reduceGE, Int.reduceAdd, Int.reduceSub, Int.reduceNeg, Int.reduceToNat])
            | (with_reducible refine CallD.intro (law_awake) ?_; simp (maxSteps := 10000000) (implicitDefEqProofs := false) only [go_sem, Outv.enc, hw,  ↓reduceIte, reduceCtorEq, Nat.reduceAdd, Nat.reduceSub, Nat.reduceLeDiff, Nat.reduceEqDiff, Nat.reduceMul, Nat.reduceLT, Nat.reducePow, Int.reduceEq, Int.reduceLT, Int.reduceLE, Int.reduceGT, Int.reduceGE, Int.reduceAdd, Int.reduceSub, Int.reduceNeg, Int.reduceToNat])
            | ((fail_if_success with_reducible show False); with_reducible apply_assumption (exfalso := false) (symm := false) only [*, rfl, trivial, congrArg])
            | with_reducible refine And.intro ?_ ?_
            | (intro h; contradiction)
            | (intro h; subst h)
            | intro h
            | simp (maxSteps := 10000000) (implicitDefEqProofs := false) only [go_sem, Outv.enc, hw,  ↓reduceIte, reduceCtorEq, Nat.reduceAdd, Nat.reduceSub, Nat.reduceLeDiff, Nat.reduceEqDiff, Nat.reduceMul, Nat.reduceLT, Nat.reducePow, Int.reduceEq, Int.reduceLT, Int.reduceLE, Int.reduceGT, Int.reduceGE, Int.reduceAdd, Int.reduceSub, Int.reduceNeg, Int.reduceToNat])
        · have hq : ∀ o ∈ pre ++ [x], o.err = 0 := by
            intro o ho
            rcases List.mem_append.1 ho with ho | ho
            · exact hp o ho
            · rw [List.mem_singleton.1 ho]; assumption
          exact ⟨⟨rest.length, by simp, 0, pre ++ [x], rest, (), by simp, rfl, hq, ⟨rfl, rfl, by simp [kd, Outv.enc, Val.enc], by simp [kd, Outv.enc, Val.enc]⟩⟩⟩
    · rintro st ⟨hm, hs⟩
      refine a_has hs fun τ σ γ => ?_
      have c1 := calc_Conds xs (by omega)
      have c2 := calc_Conds (xs ++ ys) (by simp; omega)
      have c3 := calc_Conds ys (by omega)
      rw [cond_and hxt hx (by omega)] at c1
      rw [cond_and hyt hy (by omega)] at c3
      rw [cond_and (by intro o ho; rcases List.mem_append.1 ho with h | h; exact hxt o h; exact hyt o h) (by intro o ho; rcases List.mem_append.1 ho with h | h; exact hx o h; exact hy o h) (by simp; omega)] at c2
      have hd1 := fun ha => drops_true (xs := xs) (ys := ys) ha
      have hd2 := fun ha => drops_low (xs := xs) (ys := ys) ha hm
      generalize andO (xs ++ ys) = b at c2 hd1 hd2
      generalize andO xs = a at c1 hd1 hd2
      generalize andO ys = c at c3 hd1
      simp only [outs, List.map_append] at c2
      repeat' (first
          | (with_reducible refine a_seq_reg ?_; intro K hK)
          | (with_reducible refine a_region (by kernel_rfl) ?_; simp (maxSteps := 10000000) (implicitDefEqProofs := false) only [go_sem, Outv.enc, all_outs,  ↓reduceIte, reduceCtorEq, Nat.reduceAdd, Nat.reduceSub, Nat.reduceLeDiff, Nat.reduceEqDiff, Nat.reduceMul, Nat.reduceLT, Nat.reducePow, Int.reduceEq, Int.reduceLT, Int.reduceLE, Int.reduceGT, Int.reduceGE, Int.reduceAdd, Int.reduceSub, Int.reduceNeg, Int.reduceToNat])
          | (with_reducible refine a_draw mixed (by kernel_rfl) ?_; intro C hC; simp (maxSteps := 10000000) (implicitDefEqProofs := false) only [go_sem, Outv.enc, all_outs,  ↓reduceIte, reduceCtorEq, Nat.reduceAdd, Nat.reduceSub, Nat.reduceLeDiff, Nat.reduceEqDiff, Nat.reduceMul, Nat.reduceLT, Nat.reducePow, Int.reduceEq, Int.reduceLT, Int.reduceLE, Int.reduceGT, Int.reduceGE, Int.reduceAdd, Int.reduceSub, Int.reduceNeg, Int.reduceToNat])
          | with_reducible refine a_block ?_
          | with_reducible refine a_ret ?_
          | with_reducible refine a_exit ?_
          | with_reducible refine a_skip ?_
          | (with_reducible refine a_cond_k ?_; intro X Y hX hY; simp (maxSteps := 10000000) (implicitDefEqProofs := false) only [go_sem, Outv.enc, all_outs,  ↓reduceIte, reduceCtorEq, Nat.reduceAdd, Nat.reduceSub, Nat.reduceLeDiff, Nat.reduceEqDiff, Nat.reduceMul, Nat.reduceLT, Nat.reducePow, Int.reduceEq, Int.reduceLT, Int.reduceLE, Int.reduceGT, Int.reduceGE, Int.reduceAdd, Int.reduceSub, Int.reduceNeg, Int.reduceToNat])
          | with_reducible exact ConfOk.mk (by kernel_rfl)
          | (with_reducible refine eqT_of (eq33 _ _ _ _ _ _) ?_; simp)
          | (with_reducible refine eqT_of (eq35 _ _ _ _ _ _ _ _) ?_; simp)
          | (with_reducible refine RetOk.mk ?_; simp (maxSteps := 10000000) (implicitDefEqProofs := false) only [go_sem, Outv.enc, all_outs,  ↓reduceIte, reduceCtorEq, Nat.reduceAdd, Nat.reduceSub, Nat.reduceLeDiff, Nat.reduceEqDiff, Nat.reduceMul, Nat.reduceLT, Nat.reducePow, Int.reduceEq, Int.reduceLT, Int.reduceLE, Int.reduceGT, Int.reduceGE, Int.reduceAdd, Int.reduceSub, Int.reduceNeg, Int.reduceToNat])
          | (with_reducible refine CallS.intro (c1) ?_; simp (maxSteps := 10000000) (implicitDefEqProofs := false) only [go_sem, Outv.enc, all_outs,  ↓reduceIte, reduceCtorEq, Nat.reduceAdd, Nat.reduceSub, Nat.reduceLeDiff, Nat.reduceEqDiff, Nat.reduceMul, Nat.reduceLT, Nat.reducePow, Int.reduceEq, Int.reduceLT, Int.reduceLE, Int.reduceGT, Int.reduceGE, Int.reduceAdd, Int.reduceSub, Int.reduceNeg, Int.reduceToNat])
          | (with_reducible refine CallD.intro (c1) ?_; simp (maxSteps := 10000000) (implicitDefEqProofs := false) only [go_sem, Outv.enc, all_outs,  ↓reduceIte, reduceCtorEq, Nat.reduceAdd, Nat.reduceSub, Nat.reduceLeDiff, Nat.reduceEqDiff, Nat.reduceMul, Nat.reduceLT, Nat.reducePow, Int.reduceEq, Int.reduceLT, Int.reduceLE, Int.reduceGT, Int.reduceGE, Int.reduceAdd, Int.reduceSub, Int.reduceNeg, Int.reduceToNat])
          | (with_reducible refine CallS.intro (c2) ?_; simp (maxSteps := 10000000) (implicitDefEqProofs := false) only [go_sem, Outv.enc, all_outs,  ↓reduceIte, reduceCtorEq, Nat.reduceAdd, Nat.reduceSub, Nat.reduceLeDiff, Nat.reduceEqDiff, Nat.reduceMul, Nat.reduceLT, Nat.reducePow, Int.reduceEq, Int.reduceLT, Int.reduceLE, Int.reduceGT, Int.reduceGE, Int.reduceAdd, Int.reduceSub, Int.reduceNeg, Int.reduceToNat])
          | (with_reducible refine CallD.intro (c2) ?_; simp (maxSteps := 10000000) (implicitDefEqProofs := false) only [go_sem, Outv.enc, all_outs,  ↓reduceIte, reduceCtorEq, Nat.reduceAdd, Nat.reduceSub, Nat.reduceLeDiff, Nat.reduceEqDiff, Nat.reduceMul, Nat.reduceLT, Nat.reducePow, Int.reduceEq, Int.reduceLT, Int.reduceLE, Int.reduceGT, Int.reduceGE, Int.reduceAdd, Int.reduceSub, Int.reduceNeg, Int.reduceToNat])
          | ((fail_if_success with_reducible show False); with_reducible apply_assumption (exfalso := false) (symm := false) only [*, rfl, trivial, congrArg])
          | with_reducible refine And.intro ?_ ?_
          | (intro h; contradiction)
          | (intro h; subst h)
          | intro h
          | simp (maxSteps := 10000000) (implicitDefEqProofs := false) only [go_sem, Outv.enc, all_outs,  ↓reduceIte, reduceCtorEq, Nat.reduceAdd, Nat.reduceSub, Nat.reduceLeDiff, Nat.reduceEqDiff, Nat.reduceMul, Nat.reduceLT, Nat.reducePow, Int.reduceEq, Int.reduceLT, Int.reduceLE, Int.reduceGT, Int.reduceGE, Int.reduceAdd, Int.reduceSub, Int.reduceNeg, Int.reduceToNat])
      · omega
      · omega
      · omega
      · omega
      clear c1 c2 hT hU hx hy hxt hyt hm
      have hf : ∀ o : Outv, o ≠ trueO → (decide (o.err = 0) && (decide (o.v.kind = 3) && (decide (o.v.int = 1) && decide (o.v.text = emp)))) = false := by
        rintro ⟨⟨k, n, s⟩, e⟩ h
        rw [Bool.eq_false_iff]
        simp only [ne_eq, Bool.and_eq_true, decide_eq_true_eq]
        rintro ⟨rfl, rfl, rfl, rfl⟩
        exact h rfl
      by_cases ha : a = trueO
      · subst ha
        obtain rfl := hd1 rfl
        clear hd1 hd2
        repeat' (first
            | (with_reducible refine a_seq_k ?_; intro K hK)
            | (with_reducible refine a_region (by kernel_rfl) ?_; simp (maxSteps := 10000000) (implicitDefEqProofs := false) only [go_sem, Outv.enc,  ↓reduceIte, reduceCtorEq, Nat.reduceAdd, Nat.reduceSub, Nat.reduceLeDiff, Nat.reduceEqDiff, Nat.reduceMul, Nat.reduceLT, Nat.reducePow, Int.reduceEq, Int.reduceLT, Int.reduceLE, Int.reduceGT, Int.reduceGE, Int.reduceAdd, Int.reduceSub, Int.reduceNeg, Int.reduceToNat])
            | (with_reducible refine a_draw mixed (by kernel_rfl) ?_; intro C hC; simp (maxSteps := 10000000) (implicitDefEqProofs := false) only [go_sem, Outv.enc,  ↓reduceIte, reduceCtorEq, Nat.reduceAdd, Nat.reduceSub, Nat.reduceLeDiff, Nat.reduceEqDiff, Nat.reduceMul, Nat.reduceLT, Nat.reducePow, Int.reduceEq, Int.reduceLT, Int.reduceLE, Int.reduceGT, Int.reduceGE, Int.reduceAdd, Int.reduceSub, Int.reduceNeg, Int.reduceToNat])
            | with_reducible refine a_block ?_
            | with_reducible refine a_ret ?_
            | with_reducible refine a_exit ?_
            | with_reducible refine a_skip ?_
            | (with_reducible refine a_cond_k ?_; intro X Y hX hY; simp (maxSteps := 10000000) (implicitDefEqProofs := false) only [go_sem, Outv.enc,  ↓reduceIte, reduceCtorEq, Nat.reduceAdd, Nat.reduceSub, Nat.reduceLeDiff, Nat.reduceEqDiff, Nat.reduceMul, Nat.reduceLT, Nat.reducePow, Int.reduceEq, Int.reduceLT, Int.reduceLE, Int.reduceGT, Int.reduceGE, Int.reduceAdd, Int.reduceSub, Int.reduceNeg, Int.reduceToNat])
            | with_reducible exact ConfOk.mk (by kernel_rfl)
            | (with_reducible refine eqT_of (eq33 _ _ _ _ _ _) ?_; simp)
            | (with_reducible refine eqT_of (eq35 _ _ _ _ _ _ _ _) ?_; simp)
            | (with_reducible refine RetOk.mk ?_; simp (maxSteps := 10000000) (implicitDefEqProofs := false) only [go_sem, Outv.enc,  ↓reduceIte, reduceCtorEq, Nat.reduceAdd, Nat.reduceSub, Nat.reduceLeDiff, Nat.reduceEqDiff, Nat.reduceMul, Nat.reduceLT, Nat.reducePow, Int.reduceEq, Int.reduceLT, Int.reduceLE, Int.reduceGT, Int.reduceGE, Int.reduceAdd, Int.reduceSub, Int.reduceNeg, Int.reduceToNat])
            | (with_reducible refine CallS.intro (c3) ?_; simp (maxSteps := 10000000) (implicitDefEqProofs := false) only [go_sem, Outv.enc,  ↓reduceIte, reduceCtorEq, Nat.reduceAdd, Nat.reduceSub, Nat.reduceLeDiff, Nat.reduceEqDiff, Nat.reduceMul, Nat.reduceLT, Nat.reducePow, Int.reduceEq, Int.reduceLT, Int.reduceLE, Int.reduceGT, Int.reduceGE, Int.reduceAdd, Int.reduceSub, Int.reduceNeg, Int.reduceToNat])
            | (with_reducible refine CallD.intro (c3) ?_; simp (maxSteps := 10000000) (implicitDefEqProofs := false) only [go_sem, Outv.enc,  ↓reduceIte, reduceCtorEq, Nat.reduceAdd, Nat.reduceSub, Nat.reduceLeDiff, Nat.reduceEqDiff, Nat.reduceMul, Nat.reduceLT, Nat.reducePow, Int.reduceEq, Int.reduceLT, Int.reduceLE, Int.reduceGT, Int.reduceGE, Int.reduceAdd, Int.reduceSub, Int.reduceNeg, Int.reduceToNat])
            | (with_reducible refine CallS.intro (ref_oBool _) ?_; simp (maxSteps := 10000000) (implicitDefEqProofs := false) only [go_sem, Outv.enc,  ↓reduceIte, reduceCtorEq, Nat.reduceAdd, Nat.reduceSub, Nat.reduceLeDiff, Nat.reduceEqDiff, Nat.reduceMul, Nat.reduceLT, Nat.reducePow, Int.reduceEq, Int.reduceLT, Int.reduceLE, Int.reduceGT, Int.reduceGE, Int.reduceAdd, Int.reduceSub, Int.reduceNeg, Int.reduceToNat])
            | (with_reducible refine CallD.intro (ref_oBool _) ?_; simp (maxSteps := 10000000) (implicitDefEqProofs := false) only [go_sem, Outv.enc,  ↓reduceIte, reduceCtorEq, Nat.reduceAdd, Nat.reduceSub, Nat.reduceLeDiff, Nat.reduceEqDiff, Nat.reduceMul, Nat.reduceLT, Nat.reducePow, Int.reduceEq, Int.reduceLT, Int.reduceLE, Int.reduceGT, Int.reduceGE, Int.reduceAdd, Int.reduceSub, Int.reduceNeg, Int.reduceToNat])
            | (with_reducible refine CallS.intro (ref_oSame _ _ _ _ _ _ _ _) ?_; simp (maxSteps := 10000000) (implicitDefEqProofs := false) only [go_sem, Outv.enc,  ↓reduceIte, reduceCtorEq, Nat.reduceAdd, Nat.reduceSub, Nat.reduceLeDiff, Nat.reduceEqDiff, Nat.reduceMul, Nat.reduceLT, Nat.reducePow, Int.reduceEq, Int.reduceLT, Int.reduceLE, Int.reduceGT, Int.reduceGE, Int.reduceAdd, Int.reduceSub, Int.reduceNeg, Int.reduceToNat])
            | (with_reducible refine CallD.intro (ref_oSame _ _ _ _ _ _ _ _) ?_; simp (maxSteps := 10000000) (implicitDefEqProofs := false) only [go_sem, Outv.enc,  ↓reduceIte, reduceCtorEq, Nat.reduceAdd, Nat.reduceSub, Nat.reduceLeDiff, Nat.reduceEqDiff, Nat.reduceMul, Nat.reduceLT, Nat.reducePow, Int.reduceEq, Int.reduceLT, Int.reduceLE, Int.reduceGT, Int.reduceGE, Int.reduceAdd, Int.reduceSub, Int.reduceNeg, Int.reduceToNat])
            | (with_reducible refine CallS.intro (law_awake) ?_; simp (maxSteps := 10000000) (implicitDefEqProofs := false) only [go_sem, Outv.enc,  ↓reduceIte, reduceCtorEq, Nat.reduceAdd, Nat.reduceSub, Nat.reduceLeDiff, Nat.reduceEqDiff, Nat.reduceMul, Nat.reduceLT, Nat.reducePow, Int.reduceEq, Int.reduceLT, Int.reduceLE, Int.reduceGT, Int.reduceGE, Int.reduceAdd, Int.reduceSub, Int.reduceNeg, Int.reduceToNat])
            | (with_reducible refine CallD.intro (law_awake) ?_; simp (maxSteps := 10000000) (implicitDefEqProofs := false) only [go_sem, Outv.enc,  ↓reduceIte, reduceCtorEq, Nat.reduceAdd, Nat.reduceSub, Nat.reduceLeDiff, Nat.reduceEqDiff, Nat.reduceMul, Nat.reduceLT, Nat.reducePow, Int.reduceEq, Int.reduceLT, Int.reduceLE, Int.reduceGT, Int.reduceGE, Int.reduceAdd, Int.reduceSub, Int.reduceNeg, Int.reduceToNat])
            | ((fail_if_success with_reducible show False); with_reducible apply_assumption (exfalso := false) (symm := false) only [*, rfl, trivial, congrArg])
            | with_reducible refine And.intro ?_ ?_
            | (intro h; contradiction)
            | (intro h; subst h)
            | intro h
            | simp (maxSteps := 10000000) (implicitDefEqProofs := false) only [go_sem, Outv.enc,  ↓reduceIte, reduceCtorEq, Nat.reduceAdd, Nat.reduceSub, Nat.reduceLeDiff, Nat.reduceEqDiff, Nat.reduceMul, Nat.reduceLT, Nat.reducePow, Int.reduceEq, Int.reduceLT, Int.reduceLE, Int.reduceGT, Int.reduceGE, Int.reduceAdd, Int.reduceSub, Int.reduceNeg, Int.reduceToNat])
      · obtain ⟨hb, hc⟩ := hd2 ha
        have h1 := hf a ha
        have h2 := hf b hc
        clear hd1 hd2 hf hc ha
        repeat' (first
            | (with_reducible refine a_seq_k ?_; intro K hK)
            | (with_reducible refine a_region (by kernel_rfl) ?_; simp (maxSteps := 10000000) (implicitDefEqProofs := false) only [go_sem, Outv.enc, h1, hb,  ↓reduceIte, reduceCtorEq, Nat.reduceAdd, Nat.reduceSub, Nat.reduceLeDiff, Nat.reduceEqDiff, Nat.reduceMul, Nat.reduceLT, Nat.reducePow, Int.reduceEq, Int.reduceLT, Int.reduceLE, Int.reduceGT, Int.reduceGE, Int.reduceAdd, Int.reduceSub, Int.reduceNeg, Int.reduceToNat])
            | (with_reducible refine a_draw mixed (by kernel_rfl) ?_; intro C hC; simp (maxSteps := 10000000) (implicitDefEqProofs := false) only [go_sem, Outv.enc, h1, hb,  ↓reduceIte, reduceCtorEq, Nat.reduceAdd, Nat.reduceSub, Nat.reduceLeDiff, Nat.reduceEqDiff, Nat.reduceMul, Nat.reduceLT, Nat.reducePow, Int.reduceEq, Int.reduceLT, Int.reduceLE, Int.reduceGT, Int.reduceGE, Int.reduceAdd, Int.reduceSub, Int.reduceNeg, Int.reduceToNat])
            | with_reducible refine a_block ?_
            | with_reducible refine a_ret ?_
            | with_reducible refine a_exit ?_
            | with_reducible refine a_skip ?_
            | (with_reducible refine a_cond_k ?_; intro X Y hX hY; simp (maxSteps := 10000000) (implicitDefEqProofs := false) only [go_sem, Outv.enc, h1, hb,  ↓reduceIte, reduceCtorEq, Nat.reduceAdd, Nat.reduceSub, Nat.reduceLeDiff, Nat.reduceEqDiff, Nat.reduceMul, Nat.reduceLT, Nat.reducePow, Int.reduceEq, Int.reduceLT, Int.reduceLE, Int.reduceGT, Int.reduceGE, Int.reduceAdd, Int.reduceSub, Int.reduceNeg, Int.reduceToNat])
            | with_reducible exact ConfOk.mk (by kernel_rfl)
            | (with_reducible refine eqT_of (eq33 _ _ _ _ _ _) ?_; simp)
            | (with_reducible refine eqT_of (eq35 _ _ _ _ _ _ _ _) ?_; simp)
            | (with_reducible refine RetOk.mk ?_; simp (maxSteps := 10000000) (implicitDefEqProofs := false) only [go_sem, Outv.enc, h1, hb,  ↓reduceIte, reduceCtorEq, Nat.reduceAdd, Nat.reduceSub, Nat.reduceLeDiff, Nat.reduceEqDiff, Nat.reduceMul, Nat.reduceLT, Nat.reducePow, Int.reduceEq, Int.reduceLT, Int.reduceLE, Int.reduceGT, Int.reduceGE, Int.reduceAdd, Int.reduceSub, Int.reduceNeg, Int.reduceToNat])
            | (with_reducible refine CallS.intro (ref_oBool _) ?_; simp (maxSteps := 10000000) (implicitDefEqProofs := false) only [go_sem, Outv.enc, h1, hb,  ↓reduceIte, reduceCtorEq, Nat.reduceAdd, Nat.reduceSub, Nat.reduceLeDiff, Nat.reduceEqDiff, Nat.reduceMul, Nat.reduceLT, Nat.reducePow, Int.reduceEq, Int.reduceLT, Int.reduceLE, Int.reduceGT, Int.reduceGE, Int.reduceAdd, Int.reduceSub, Int.reduceNeg, Int.reduceToNat])
            | (with_reducible refine CallD.intro (ref_oBool _) ?_; simp (maxSteps := 10000000) (implicitDefEqProofs := false) only [go_sem, Outv.enc, h1, hb,  ↓reduceIte, reduceCtorEq, Nat.reduceAdd, Nat.reduceSub, Nat.reduceLeDiff, Nat.reduceEqDiff, Nat.reduceMul, Nat.reduceLT, Nat.reducePow, Int.reduceEq, Int.reduceLT, Int.reduceLE, Int.reduceGT, Int.reduceGE, Int.reduceAdd, Int.reduceSub, Int.reduceNeg, Int.reduceToNat])
            | (with_reducible refine CallS.intro (ref_oSame _ _ _ _ _ _ _ _) ?_; simp (maxSteps := 10000000) (implicitDefEqProofs := false) only [go_sem, Outv.enc, h1, hb,  ↓reduceIte, reduceCtorEq, Nat.reduceAdd, Nat.reduceSub, Nat.reduceLeDiff, Nat.reduceEqDiff, Nat.reduceMul, Nat.reduceLT, Nat.reducePow, Int.reduceEq, Int.reduceLT, Int.reduceLE, Int.reduceGT, Int.reduceGE, Int.reduceAdd, Int.reduceSub, Int.reduceNeg, Int.reduceToNat])
            | (with_reducible refine CallD.intro (ref_oSame _ _ _ _ _ _ _ _) ?_; simp (maxSteps := 10000000) (implicitDefEqProofs := false) only [go_sem, Outv.enc, h1, hb,  ↓reduceIte, reduceCtorEq, Nat.reduceAdd, Nat.reduceSub, Nat.reduceLeDiff, Nat.reduceEqDiff, Nat.reduceMul, Nat.reduceLT, Nat.reducePow, Int.reduceEq, Int.reduceLT, Int.reduceLE, Int.reduceGT, Int.reduceGE, Int.reduceAdd, Int.reduceSub, Int.reduceNeg, Int.reduceToNat])
            | (with_reducible refine CallS.intro (law_awake) ?_; simp (maxSteps := 10000000) (implicitDefEqProofs := false) only [go_sem, Outv.enc, h1, hb,  ↓reduceIte, reduceCtorEq, Nat.reduceAdd, Nat.reduceSub, Nat.reduceLeDiff, Nat.reduceEqDiff, Nat.reduceMul, Nat.reduceLT, Nat.reducePow, Int.reduceEq, Int.reduceLT, Int.reduceLE, Int.reduceGT, Int.reduceGE, Int.reduceAdd, Int.reduceSub, Int.reduceNeg, Int.reduceToNat])
            | (with_reducible refine CallD.intro (law_awake) ?_; simp (maxSteps := 10000000) (implicitDefEqProofs := false) only [go_sem, Outv.enc, h1, hb,  ↓reduceIte, reduceCtorEq, Nat.reduceAdd, Nat.reduceSub, Nat.reduceLeDiff, Nat.reduceEqDiff, Nat.reduceMul, Nat.reduceLT, Nat.reducePow, Int.reduceEq, Int.reduceLT, Int.reduceLE, Int.reduceGT, Int.reduceGE, Int.reduceAdd, Int.reduceSub, Int.reduceNeg, Int.reduceToNat])
            | ((fail_if_success with_reducible show False); with_reducible apply_assumption (exfalso := false) (symm := false) only [*, rfl, trivial, congrArg])
            | with_reducible refine And.intro ?_ ?_
            | (intro h; contradiction)
            | (intro h; subst h)
            | intro h
            | simp (maxSteps := 10000000) (implicitDefEqProofs := false) only [go_sem, Outv.enc, h1, hb,  ↓reduceIte, reduceCtorEq, Nat.reduceAdd, Nat.reduceSub, Nat.reduceLeDiff, Nat.reduceEqDiff, Nat.reduceMul, Nat.reduceLT, Nat.reducePow, Int.reduceEq, Int.reduceLT, Int.reduceLE, Int.reduceGT, Int.reduceGE, Int.reduceAdd, Int.reduceSub, Int.reduceNeg, Int.reduceToNat])
        · rw [hb] at h2
          simp_all
end
set_option maxRecDepth 100000 in
theorem calcDropsUpto_returns (os : Os) (started : os.Started) (H : Type) (enc : TypeId × Value → H) (F : Stop.Interp) :
    ReturnsInHanded {} Tryd.checked os 9 .any (Rows.calcDropsUptoRow.pre enc Tryd.prog Tryd.f9 (Rows.OpenSpec.upto Rows.calcDropsSpec)) (((Rows.OpenSpec.upto Rows.calcDropsSpec).at F).post enc Tryd.prog Tryd.f9 false true false false) := by
  refine law_returns (C := Tryd.checked) (fn := Tryd.f9) (s := (Rows.OpenSpec.upto Rows.calcDropsSpec)) (c := Rows.calcDropsUptoRow) (F := F) (tb := 4) (K := fun ds gs => Rows.uptoSmall H (ds ++ gs) = true ∧ (DataW.weightsEach Tryd.prog (Tryd.f9.params.toList ++ (Rows.OpenSpec.upto Rows.calcDropsSpec).bare.plain.varTypes Tryd.prog) (ds ++ gs)).all (· ≤ reachBytes) = true) (fun w args h => upto_pre rfl h) seatOwn started (by kernel_rfl) Tryd.func9 seatLaidOut (by kernel_rfl) (by kernel_rfl) (by kernel_rfl) rfl ?_ ?_
  · exact law_witness (P := Tryd.prog) rfl rfl rfl #[.slice none 0 0, .slice none 0 0] 8 (y := ([.nil, .nil], [], [])) (World.shaped_of_ZipB (by kernel_rfl) (by kernel_rfl)) (by kernel_rfl) (by kernel_rfl) (fun k hk => by cases hk; rfl) (by kernel_rfl)
      (by rw [MakeChecks.laidMetH_plain _ _ _ (by kernel_rfl)]; exact laidMet_laidAll _ (by kernel_rfl) (by kernel_rfl))
  · intro W base args ds gs before hval0 hW hK
    have hval : ∀ (j : Nat) t v, Tryd.f9.params[j]? = some t → args[j]? = some v → Value.okWide Tryd.prog W .any base t v := hval0
    obtain ⟨p, q, hA0, hV, rfl, _, _⟩ := hW
    have hA : DataW.TrodAll enc Tryd.prog W 0 (fun _ => true) true Tryd.f9.params.toList args.toList ds p := hA0
    rw [Tryd.params9] at hA hval
    have hw := hK.2
    rw [Tryd.params9] at hw
    obtain ⟨v0, v1, d0, d1, p0, p1, rfl, rfl, rfl, h0, h1⟩ := ChangeShapes.trodAll_two hA
    obtain ⟨rfl, rfl⟩ := ChangeShapes.trodVars_none hV
    obtain ⟨w0, w1⟩ := weights_two hw
    obtain ⟨xs0, ty0, r0⟩ := open_arg (n := 9) (T := .slice 4 ttO) (by kernel_rfl) (hval 0 30 v0 rfl rfl) h0 w0
    obtain ⟨xs1, ty1, r1⟩ := open_arg (n := 9) (T := .slice 4 ttO) (by kernel_rfl) (hval 1 30 v1 rfl rfl) h1 w1
    obtain ⟨x, rfl, hx, lx⟩ := ty_list Outv.enc Outv.In (fun d e h => ty_out d e h) ty0
    obtain ⟨y, rfl, hy, ly⟩ := ty_list Outv.enc Outv.In (fun d e h => ty_out d e h) ty1
    have nx : x.length ≤ 1048576 := by
      have h2 := (uptoSmall_two hK.1).1
      have h3 := uptoBulk_slice ty0
      simp only [List.length_map] at h3
      omega
    have ny : y.length ≤ 1048576 := by
      have h2 := (uptoSmall_two hK.1).2
      have h3 := uptoBulk_slice ty1
      simp only [List.length_map] at h3
      omega
    exact ⟨rfl, calls_of_acalls (law_drops x y hx hy nx ny) (.cons r0 (.cons r1 .nil))⟩
theorem calcDropsUpto_holds : Rows.CalcDropsUptoSaid :=
  OpenClaim.holds_of_cond 9 Tryd.f9 rfl rfl rfl rfl rfl rfl rfl ⟨rfl, rfl, rfl, rfl, rfl⟩ rfl rfl rfl rfl rfl (by kernel_rfl) Tryd.func9 (by kernel_rfl)
    (of_decide_eq_true (by kernel_rfl)) (by unfold Func.isWrapper; first | (rw [if_pos (by decide +kernel)]; kernel_rfl) | (rw [if_neg (by decide +kernel)]; exact ⟨rfl, rfl⟩))
    (fun os started H enc _ F => calcDropsUpto_returns os started H enc F)
theorem calcDrops_card : Rows.CalcDropsUptoCardSaid :=
  Claim7.holds_tied_plain_at .later [] [.data, .pinned] true (true, "bd67f24882592499edb56b6875a22e02bd77f63e18e8888de302a9fcdb1261f8") false
    calcDropsUpto_holds (fun _ h => by cases h) (by kernel_rfl) (fun _ h => by cases h) calcDropsUpto_row_tie rfl ⟨rfl, rfl⟩ (by kernel_rfl) rfl
    (fun f fn hf hfn => by
      obtain rfl : f = 9 := Option.some.inj ((show Tryd.prog.funcNamed "jointer/jointerlaw05.CalcDrops" = some 9 by kernel_rfl).symm.trans hf) |>.symm
      obtain rfl : fn = Tryd.f9 := (Option.some.inj (Tryd.func9.symm.trans hfn)).symm
      refine ⟨by kernel_rfl, fun j t ht => ?_⟩
      rw [Tryd.params9] at ht
      match j, ht with
      | 0, ht => cases ht; exact (show Tryd.prog.wantsStandIn 30 = false by kernel_rfl)
      | 1, ht => cases ht; exact (show Tryd.prog.wantsStandIn 30 = false by kernel_rfl)
      | n + 2, ht => simp at ht)
    (by kernel_rfl)
#print axioms calcDrops_card
end Go.Proofs.YtmlaogjndaeihaaDoor

