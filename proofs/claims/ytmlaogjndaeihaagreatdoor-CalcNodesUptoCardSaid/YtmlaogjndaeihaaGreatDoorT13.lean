/- The document's examples. -/
import Derived.Test.YtmlaogjndaeihaaGreatDoorT12
namespace Go.Proofs.YtmlaogjndaeihaaGreatDoor
open Go Go.Ab
/-- A nil slice is as good as an empty one. -/
theorem acalls_nils {P : Program} {f : FuncId} {x e r : AV} (h : ACalls P f [x, .agg [.slice [], e]] r) : ACalls P f [x, .agg [.nils, e]] r := by
  refine ⟨h.1, fun w own vs ho hr => h.2 w own vs ho ?_⟩
  obtain _ | ⟨h1, h2⟩ := hr
  obtain _ | ⟨h3, h4⟩ := h2
  obtain _ | _ := h4
  obtain _ | _ | _ | @⟨_, us, h5⟩ := h3
  obtain _ | ⟨h6, h7⟩ := h5
  cases h6
  exact .cons h1 (.cons (.agg (.cons .slice0 h7)) .nil)
attribute [local go_sem ↓] parts_tt parts_ff parts_tf parts_ft
attribute [local go_sem] parts_eq learnT aops_nil aops_cons aopsD_nil aopsD_cons stepS stepD gval St.learn skipR St.after putτ applyUpd List.foldl_cons List.foldl_nil pureOp memOp callOf litA closeO closeK List.flatMap_cons List.flatMap_nil Option.map_none decide_false opnd ofConst leaf binA unA lenA indexA indexAddrA fieldAddrA fieldA sliceA convertA pickV fillA placeS cellsA setA partA loadM storeM appendM srcEls lookBox lookRow lookMap closeL closeV scalarB scalarL killed buildEls lookupA leafEq eqAll resA resL tupA retA thenA blockA isInt loA hiA foldA maxA minA okSize leafB closedB Res.foot List.getD_cons_zero List.getD_cons_succ List.set_cons_zero List.set_cons_succ List.map_cons List.map_nil List.append_nil List.nil_append List.cons_append List.length_cons List.length_nil List.take_succ_cons List.take_zero List.drop_succ_cons List.drop_zero List.take_nil List.drop_nil List.all_cons List.all_nil List.getElem?_toArray List.getElem?_cons_zero List.getElem?_cons_succ Option.bind_some Option.map_some true_and and_true true_implies ne_eq not_true_eq_false not_false_eq_true Bool.true_eq_false Bool.false_eq_true Bool.not_true Bool.not_false decide_eq_true_eq decide_eq_false_iff_not false_implies implies_true and_self ite_true ite_false cond_true cond_false Option.some.injEq List.reverse_cons List.reverse_nil Bool.and_self Bool.true_and Bool.and_true Bool.false_and Bool.and_false Bool.or_true Bool.true_or Bool.or_false Bool.false_or Bool.not_eq_eq_eq_not Bool.not_not Bool.or_self beq_self_eq_true and_false false_and or_true true_or or_false false_or not_true not_false_iff Decidable.not_not lookT lookR tabT tabR Int.toNat_natCast List.length_map List.map_append List.length_append decide_true decide_false tmod2 List.mem_singleton forall_eq elOk1 elOk3 elOk4 castn0 castn1 castn2 castn3 getD_mid getD_mid_map at_lt at_end mid_lt mid_lt' nat_ge List.size_toArray Array.size_empty Nat.add_zero Nat.zero_add
attribute [local irreducible] ASpec ACalls retA ti EqT
set_option linter.unusedSimpArgs false
set_option maxHeartbeats 4000000
set_option maxRecDepth 100000
set_option linter.unusedVariables false
attribute [local go_sem] ti2 ti3 ti4 ti5 ti9 ti21 ti22 ti23 ti24 ti26 ti27 ti29 ti41 ti47 ti49 ti56 ti59 ti63 ti67 ti71 ti75 ti78 ti79 ti80 ti86 ti90 ti110
theorem node_and (os : List Outv) (hl : os.length < 2 ^ 40) (r : Outv) (h : nodeC 23 os nullO = r) : ACalls Tryz.prog 6 [.int .u8 23, outs os] (.agg r.enc) :=
  h ▸ calc_Node 23 os nullO hl (fun hs => absurd rfl hs.2.2.1)
theorem node_or (os : List Outv) (hl : os.length < 2 ^ 40) (r : Outv) (h : nodeC 24 os nullO = r) : ACalls Tryz.prog 6 [.int .u8 24, outs os] (.agg r.enc) :=
  h ▸ calc_Node 24 os nullO hl (fun hs => absurd rfl hs.2.2.2.1)
theorem law_awake : ACalls Tryz.prog 9 [] (.bool true) := by
  have h1 := node_and [boolO true, errO 3] (by decide) (errO 3) (by rfl)
  have h2 := node_and [errO 3, nullO] (by decide) nullO (by rfl)
  have h3 := node_or [errO 3, boolO true] (by decide) (boolO true) (by rfl)
  have h4 := acalls_nils (calc_In nullO [] 0 (by decide) (by simp))
  have h5 := calc_Kind 25 [3, 0, 2] (by decide)
  simp only [outs, kinds, List.map_cons, List.map_nil, Outv.enc, kd, if_true] at h1 h2 h3 h4 h5
  refine acalls_k Tryz.func9 rfl (by kernel_rfl) (congrArg Array.toList Tryz.results9) Tryz.ntmps9 ?_
  intro R hR
  simp only [st0, List.length_cons, List.length_nil, Nat.reduceAdd, Nat.reduceSub, List.replicate_succ, List.replicate_zero, List.cons_append, List.nil_append]
  repeat' (first
      | (with_reducible refine a_seq_k ?_; intro K hK)
      | ((first | with_reducible refine a_region (by kernel_rfl) ?_ | (with_reducible refine a_draw mixed (by kernel_rfl) ?_; intro C hC) | (with_reducible refine a_cond_k ?_; intro X Y hX hY) | with_reducible refine RetOk.mk ?_ | with_reducible refine CallS.intro (ref_oBool _) ?_ | with_reducible refine CallD.intro (ref_oBool _) ?_ | with_reducible refine CallS.intro (h1) ?_ | with_reducible refine CallD.intro (h1) ?_ | with_reducible refine CallS.intro (h2) ?_ | with_reducible refine CallD.intro (h2) ?_ | with_reducible refine CallS.intro (h3) ?_ | with_reducible refine CallD.intro (h3) ?_ | with_reducible refine CallS.intro (h4) ?_ | with_reducible refine CallD.intro (h4) ?_ | with_reducible refine CallS.intro (h5) ?_ | with_reducible refine CallD.intro (h5) ?_ | with_reducible refine CallS.intro (ref_oSame _ _ _ _ _ _ _ _) ?_ | with_reducible refine CallD.intro (ref_oSame _ _ _ _ _ _ _ _) ?_); simp (maxSteps := 10000000) (implicitDefEqProofs := false) only [go_sem, oA,  ↓reduceIte, reduceCtorEq, Nat.reduceAdd, Nat.reduceSub, Nat.reduceLeDiff, Nat.reduceEqDiff, Nat.reduceMul, Nat.reduceLT, Nat.reducePow, Int.reduceEq, Int.reduceLT, Int.reduceLE, Int.reduceGT, Int.reduceGE, Int.reduceAdd, Int.reduceSub, Int.reduceNeg, Int.reduceToNat])
      | with_reducible refine a_block ?_
      | with_reducible refine a_ret ?_
      | with_reducible refine a_exit ?_
      | with_reducible refine a_skip ?_
      | with_reducible exact ConfOk.mk (by kernel_rfl)
      | (with_reducible refine eqT_of (eq33 _ _ _ _ _ _) ?_; simp)
      | (with_reducible refine eqT_of (eq35 _ _ _ _ _ _ _ _) ?_; simp)
      | ((fail_if_success with_reducible show False); with_reducible apply_assumption (exfalso := false) (symm := false) only [*, rfl, trivial, congrArg])
      | with_reducible refine And.intro ?_ ?_
      | (intro h; contradiction)
      | (intro h; subst h)
      | intro h
      | simp (maxSteps := 10000000) (implicitDefEqProofs := false) only [go_sem, oA,  ↓reduceIte, reduceCtorEq, Nat.reduceAdd, Nat.reduceSub, Nat.reduceLeDiff, Nat.reduceEqDiff, Nat.reduceMul, Nat.reduceLT, Nat.reducePow, Int.reduceEq, Int.reduceLT, Int.reduceLE, Int.reduceGT, Int.reduceGE, Int.reduceAdd, Int.reduceSub, Int.reduceNeg, Int.reduceToNat])
end Go.Proofs.YtmlaogjndaeihaaGreatDoor
