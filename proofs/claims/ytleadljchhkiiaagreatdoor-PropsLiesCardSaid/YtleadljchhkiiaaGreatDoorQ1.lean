/- PropsLies: the law's call answers true. -/
import Derived.Test.YtleadljchhkiiaaGreatDoorQ0
set_option linter.unusedSimpArgs false
set_option linter.unusedVariables false
section
namespace Go.Proofs.YtleadljchhkiiaaGreatDoor
open Go Go.Ab
theorem wrap_u64_le (n : Int) (h : InI n) : decide (IntKind.wrap .u64 n ≤ 1) = (decide (n = 0) || decide (n = 1)) := by
  obtain ⟨h1, h2⟩ := h
  have e : IntKind.wrap .u64 n = n % 18446744073709551616 := rfl
  rw [e, Bool.eq_iff_iff]
  simp only [Bool.or_eq_true, decide_eq_true_eq]
  omega
theorem vOkC_eq (k n : Int) (s : ByteArray) (h : InI n) : vOkC k n s = vOk k n s := by
  unfold vOkC vOk
  rw [wrap_u64_le n h, Bool.and_comm (decide (s = emp)) (decide (n = 0) || decide (n = 1))]
theorem oOkC_eq (k n : Int) (s : ByteArray) (e : Int) (h : InI n) : oOkC k n s e = oOk k n s e := by
  unfold oOkC oOk
  rw [vOkC_eq k n s h]
  by_cases he : e = 0
  · simp [he, isErr]
  · simp [he]
theorem lies_alike (o : Outv) (d : Dom) (ho : InI o.v.int) (hd : 0 ≤ d.kind) : liesC o d = liesD o d := by
  unfold liesC liesD
  rw [show okC o = oOk o.v.kind o.v.int o.v.text o.err from oOkC_eq _ _ _ _ ho, okD_eq d hd]
  by_cases h : o.v.kind = 0
  · simp [single, h]
  · simp [single, h]
attribute [local go_sem ↓] parts_tt parts_ff parts_tf parts_ft
attribute [local go_sem] parts_eq learnT aops_nil aops_cons aopsD_nil aopsD_cons stepS stepD gval St.learn skipR St.after putτ applyUpd List.foldl_cons List.foldl_nil pureOp memOp callOf litA closeO closeK List.flatMap_cons List.flatMap_nil Option.map_none decide_false opnd ofConst leaf binA unA lenA indexA indexAddrA fieldAddrA fieldA sliceA convertA pickV fillA placeS cellsA setA partA loadM storeM appendM srcEls lookBox lookRow lookMap closeL closeV scalarB scalarL killed buildEls lookupA leafEq eqAll resA resL tupA retA thenA blockA isInt loA hiA foldA maxA minA okSize leafB closedB Res.foot List.getD_cons_zero List.getD_cons_succ List.set_cons_zero List.set_cons_succ List.map_cons List.map_nil List.append_nil List.nil_append List.cons_append List.length_cons List.length_nil List.take_succ_cons List.take_zero List.drop_succ_cons List.drop_zero List.take_nil List.drop_nil List.all_cons List.all_nil List.getElem?_toArray List.getElem?_cons_zero List.getElem?_cons_succ Option.bind_some Option.map_some true_and and_true true_implies ne_eq not_true_eq_false not_false_eq_true Bool.true_eq_false Bool.false_eq_true Bool.not_true Bool.not_false decide_eq_true_eq decide_eq_false_iff_not false_implies implies_true and_self ite_true ite_false cond_true cond_false Option.some.injEq List.reverse_cons List.reverse_nil Bool.and_self Bool.true_and Bool.and_true Bool.false_and Bool.and_false Bool.or_true Bool.true_or Bool.or_false Bool.false_or Bool.not_eq_eq_eq_not Bool.not_not Bool.or_self beq_self_eq_true and_false false_and or_true true_or or_false false_or not_true not_false_iff Decidable.not_not lookT lookR tabT tabR Int.toNat_natCast List.length_map List.map_append List.length_append decide_true decide_false tmod2 List.mem_singleton forall_eq elOk1 elOk3 elOk4 castn0 castn1 castn2 castn3 getD_mid getD_mid_map at_lt at_end mid_lt mid_lt' nat_ge List.size_toArray Array.size_empty Nat.add_zero Nat.zero_add
attribute [local irreducible] ASpec ACalls retA ti EqT
set_option linter.unusedSimpArgs false
set_option maxHeartbeats 4000000
set_option maxRecDepth 100000
set_option linter.unusedVariables false
attribute [local go_sem] ti2 ti3 ti4 ti5 ti9 ti21 ti22 ti23 ti24 ti26 ti33 ti34 ti42 ti55 ti71 ti72 ti81 ti103 ti134 ti146 ti153 ti161 ti165 ti176 ti205 ti221 ti222 ti247
theorem law_lies (o : Outv) (d : Dom) (ho : InI o.v.int) (hd : 0 ≤ d.kind) : ACalls Tryz.prog 4 [.agg o.enc, dA d] (.bool true) := by
  have h1 := ref_Lies o d
  have h2 := props_Lies o d
  rw [lies_alike o d ho hd] at h2
  simp only [dA, Dom.enc, Outv.enc] at h1 h2
  clear ho hd
  refine acalls_k Tryz.func4 rfl (by kernel_rfl) (congrArg Array.toList Tryz.results4) Tryz.ntmps4 ?_
  intro R hR
  simp only [st0, List.length_cons, List.length_nil, Nat.reduceAdd, Nat.reduceSub, List.replicate_succ, List.replicate_zero, List.cons_append, List.nil_append]
  repeat' (first
      | (with_reducible refine a_seq_k ?_; intro K hK)
      | ((first | with_reducible refine a_region (by kernel_rfl) ?_ | (with_reducible refine a_draw mixed (by kernel_rfl) ?_; intro C hC) | (with_reducible refine a_cond_k ?_; intro X Y hX hY) | with_reducible refine RetOk.mk ?_ | with_reducible refine CallS.intro (h1) ?_ | with_reducible refine CallD.intro (h1) ?_ | with_reducible refine CallS.intro (h2) ?_ | with_reducible refine CallD.intro (h2) ?_ | with_reducible refine CallS.intro (law_awake) ?_ | with_reducible refine CallD.intro (law_awake) ?_); simp (maxSteps := 10000000) (implicitDefEqProofs := false) only [go_sem, Outv.enc, Dom.enc,  ↓reduceIte, reduceCtorEq, Nat.reduceAdd, Nat.reduceSub, Nat.reduceLeDiff, Nat.reduceEqDiff, Nat.reduceMul, Nat.reduceLT, Nat.reducePow, Int.reduceEq, Int.reduceLT, Int.reduceLE, Int.reduceGT, Int.reduceGE, Int.reduceAdd, Int.reduceSub, Int.reduceNeg, Int.reduceToNat])
      | with_reducible refine a_block ?_
      | with_reducible refine a_ret ?_
      | with_reducible refine a_exit ?_
      | with_reducible refine a_skip ?_
      | with_reducible exact ConfOk.mk (by kernel_rfl)
      | (with_reducible refine eqT_of (eq33 _ _ _ _ _ _) ?_; simp)
      | (with_reducible refine eqT_of (eq35 _ _ _ _ _ _ _ _) ?_; simp)
      | ((fail_if_success with_reducible show False); with_reducible apply_assumption (exfalso := false) (symm := false) only [*, rfl, trivial, congrArg])
      | with_reducible refine And.intro ?_ ?_
      | (intro h; contradiction)
      | (intro h; subst h)
      | intro h
      | simp (maxSteps := 10000000) (implicitDefEqProofs := false) only [go_sem, Outv.enc, Dom.enc,  ↓reduceIte, reduceCtorEq, Nat.reduceAdd, Nat.reduceSub, Nat.reduceLeDiff, Nat.reduceEqDiff, Nat.reduceMul, Nat.reduceLT, Nat.reducePow, Int.reduceEq, Int.reduceLT, Int.reduceLE, Int.reduceGT, Int.reduceGE, Int.reduceAdd, Int.reduceSub, Int.reduceNeg, Int.reduceToNat])
end Go.Proofs.YtleadljchhkiiaaGreatDoor
end
