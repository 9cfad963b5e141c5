/- CalcNodes: what any node, and any list of conditions, comes to is what the document says; for arguments of bulk at most 1048576. -/
import Derived.Test.YtmlaogjndaeihaaGreatDoorC1
import Derived.Test.YtmlaogjndaeihaaGreatDoorT13
import Derived.Test.YtmlaogjndaeihaaGreatDoorT16
import Derived.Test.YtmlaogjndaeihaaGreatDoorR7
namespace Go.Proofs.YtmlaogjndaeihaaGreatDoor
open Go Go.Ab
section
attribute [local go_sem ↓] parts_tt parts_ff parts_tf parts_ft
attribute [local go_sem] parts_eq learnT aops_nil aops_cons aopsD_nil aopsD_cons stepS stepD gval St.learn skipR St.after putτ applyUpd List.foldl_cons List.foldl_nil pureOp memOp callOf litA closeO closeK List.flatMap_cons List.flatMap_nil Option.map_none decide_false opnd ofConst leaf binA unA lenA indexA indexAddrA fieldAddrA fieldA sliceA convertA pickV fillA placeS cellsA setA partA loadM storeM appendM srcEls lookBox lookRow lookMap closeL closeV scalarB scalarL killed buildEls lookupA leafEq eqAll resA resL tupA retA thenA blockA isInt loA hiA foldA maxA minA okSize leafB closedB Res.foot List.getD_cons_zero List.getD_cons_succ List.set_cons_zero List.set_cons_succ List.map_cons List.map_nil List.append_nil List.nil_append List.cons_append List.length_cons List.length_nil List.take_succ_cons List.take_zero List.drop_succ_cons List.drop_zero List.take_nil List.drop_nil List.all_cons List.all_nil List.getElem?_toArray List.getElem?_cons_zero List.getElem?_cons_succ Option.bind_some Option.map_some true_and and_true true_implies ne_eq not_true_eq_false not_false_eq_true Bool.true_eq_false Bool.false_eq_true Bool.not_true Bool.not_false decide_eq_true_eq decide_eq_false_iff_not false_implies implies_true and_self ite_true ite_false cond_true cond_false Option.some.injEq List.reverse_cons List.reverse_nil Bool.and_self Bool.true_and Bool.and_true Bool.false_and Bool.and_false Bool.or_true Bool.true_or Bool.or_false Bool.false_or Bool.not_eq_eq_eq_not Bool.not_not Bool.or_self beq_self_eq_true and_false false_and or_true true_or or_false false_or not_true not_false_iff Decidable.not_not lookT lookR tabT tabR Int.toNat_natCast List.length_map List.map_append List.length_append decide_true decide_false tmod2 List.mem_singleton forall_eq elOk1 elOk3 elOk4 castn0 castn1 castn2 castn3 getD_mid getD_mid_map at_lt at_end mid_lt mid_lt' nat_ge List.size_toArray Array.size_empty Nat.add_zero Nat.zero_add
attribute [local irreducible] ASpec ACalls retA ti EqT
set_option linter.unusedSimpArgs false
set_option maxHeartbeats 4000000
set_option maxRecDepth 100000
set_option linter.unusedVariables false
attribute [local go_sem] ti2 ti3 ti4 ti5 ti9 ti21 ti22 ti23 ti24 ti26 ti27 ti29 ti41 ti47 ti49 ti56 ti59 ti63 ti67 ti71 ti75 ti78 ti79 ti80 ti86 ti90 ti110
theorem law_nodes (op : Int) (os : List Outv) (hi : ∀ o ∈ os, o.In) (hl : os.length ≤ 1048576) : ACalls Tryz.prog 3 [.int .u8 op, outs os] (.bool true) := by
  have h1 := ref_Node op os hi (by omega)
  have h2 := ref_Conds os hi (by omega)
  have h3 := node_all op os hi (by omega)
  have h4 := calc_Conds os (by omega)
  rw [show condO os = nodeS 23 os from rfl] at h4
  generalize nodeS op os = r at h1 h3
  generalize nodeS 23 os = q at h2 h4
  simp only [Outv.enc] at h1 h2 h3 h4
  refine acalls_k Tryz.func3 rfl (by kernel_rfl) (congrArg Array.toList Tryz.results3) Tryz.ntmps3 ?_
  intro R hR
  simp only [st0, List.length_cons, List.length_nil, Nat.reduceAdd, Nat.reduceSub, List.replicate_succ, List.replicate_zero, List.cons_append, List.nil_append]
  repeat' (first
      | (with_reducible refine a_seq_k ?_; intro K hK)
      | ((first | with_reducible refine a_region (by kernel_rfl) ?_ | (with_reducible refine a_draw mixed (by kernel_rfl) ?_; intro C hC) | (with_reducible refine a_cond_k ?_; intro X Y hX hY) | with_reducible refine RetOk.mk ?_ | with_reducible refine CallS.intro (h1) ?_ | with_reducible refine CallD.intro (h1) ?_ | with_reducible refine CallS.intro (h2) ?_ | with_reducible refine CallD.intro (h2) ?_ | with_reducible refine CallS.intro (h3) ?_ | with_reducible refine CallD.intro (h3) ?_ | with_reducible refine CallS.intro (h4) ?_ | with_reducible refine CallD.intro (h4) ?_ | with_reducible refine CallS.intro (ref_oSame _ _ _ _ _ _ _ _) ?_ | with_reducible refine CallD.intro (ref_oSame _ _ _ _ _ _ _ _) ?_ | with_reducible refine CallS.intro (law_awake) ?_ | with_reducible refine CallD.intro (law_awake) ?_); simp (maxSteps := 10000000) (implicitDefEqProofs := false) only [go_sem, Outv.enc,  ↓reduceIte, reduceCtorEq, Nat.reduceAdd, Nat.reduceSub, Nat.reduceLeDiff, Nat.reduceEqDiff, Nat.reduceMul, Nat.reduceLT, Nat.reducePow, Int.reduceEq, Int.reduceLT, Int.reduceLE, Int.reduceGT, Int.reduceGE, Int.reduceAdd, Int.reduceSub, Int.reduceNeg, Int.reduceToNat])
      | with_reducible refine a_block ?_
      | with_reducible refine a_ret ?_
      | with_reducible refine a_exit ?_
      | with_reducible refine a_skip ?_
      | with_reducible exact ConfOk.mk (by kernel_rfl)
      | (with_reducible refine eqT_of (eq33 _ _ _ _ _ _) ?_; simp)
      | (with_reducible refine eqT_of (eq35 _ _ _ _ _ _ _ _) ?_; simp)
      | ((fail_if_success with_reducible show False); with_reducible apply_assumption (exfalso := false) (symm := false) only [*, rfl, trivial, congrArg])
      | with_reducible refine And.intro ?_ ?_
      | (intro h; contradiction)
      | (intro h; subst h)
      | intro h
      | simp (maxSteps := 10000000) (implicitDefEqProofs := false) only [go_sem, Outv.enc,  ↓reduceIte, reduceCtorEq, Nat.reduceAdd, Nat.reduceSub, Nat.reduceLeDiff, Nat.reduceEqDiff, Nat.reduceMul, Nat.reduceLT, Nat.reducePow, Int.reduceEq, Int.reduceLT, Int.reduceLE, Int.reduceGT, Int.reduceGE, Int.reduceAdd, Int.reduceSub, Int.reduceNeg, Int.reduceToNat])
  all_goals simp_all
end
set_option maxRecDepth 100000 in
theorem calcNodesUpto_returns (os : Os) (started : os.Started) (H : Type) (enc : TypeId × Value → H) (F : Stop.Interp) :
    ReturnsInHanded {} Tryz.checked os 3 .any (Rows.calcNodesUptoRow.pre enc Tryz.prog Tryz.f3 (Rows.OpenSpec.upto Rows.calcNodesSpec)) (((Rows.OpenSpec.upto Rows.calcNodesSpec).at F).post enc Tryz.prog Tryz.f3 false true false false) := by
  refine law_returns (C := Tryz.checked) (fn := Tryz.f3) (s := (Rows.OpenSpec.upto Rows.calcNodesSpec)) (c := Rows.calcNodesUptoRow) (F := F) (tb := 4) (K := fun ds gs => Rows.uptoSmall H (ds ++ gs) = true ∧ (DataW.weightsEach Tryz.prog (Tryz.f3.params.toList ++ (Rows.OpenSpec.upto Rows.calcNodesSpec).bare.plain.varTypes Tryz.prog) (ds ++ gs)).all (· ≤ reachBytes) = true) (fun w args h => upto_pre rfl h) seatOwn started (by kernel_rfl) Tryz.func3 seatLaidOut (by kernel_rfl) (by kernel_rfl) (by kernel_rfl) rfl ?_ ?_
  · exact law_witness (P := Tryz.prog) rfl rfl rfl #[.int .u8 0, .slice none 0 0] 8 (y := ([.lit (.int .u8 0), .nil], [], [])) (World.shaped_of_ZipB (by kernel_rfl) (by kernel_rfl)) (by kernel_rfl) (by kernel_rfl) (fun k hk => by cases hk; rfl) (by kernel_rfl)
      (by rw [MakeChecks.laidMetH_plain _ _ _ (by kernel_rfl)]; exact laidMet_laidAll _ (by kernel_rfl) (by kernel_rfl))
  · intro W base args ds gs before hval0 hW hK
    have hval : ∀ (j : Nat) t v, Tryz.f3.params[j]? = some t → args[j]? = some v → Value.okWide Tryz.prog W .any base t v := hval0
    obtain ⟨p, q, hA0, hV, rfl, _, _⟩ := hW
    have hA : DataW.TrodAll enc Tryz.prog W 0 (fun _ => true) true Tryz.f3.params.toList args.toList ds p := hA0
    rw [Tryz.params3] at hA hval
    have hw := hK.2
    rw [Tryz.params3] at hw
    obtain ⟨v0, v1, d0, d1, p0, p1, rfl, rfl, rfl, h0, h1⟩ := ChangeShapes.trodAll_two hA
    obtain ⟨rfl, rfl⟩ := ChangeShapes.trodVars_none hV
    obtain ⟨w0, w1⟩ := weights_two hw
    obtain ⟨xs0, ty0, r0⟩ := open_arg (n := 9) (T := .int .u8) (by kernel_rfl) (hval 0 22 v0 rfl rfl) h0 w0
    obtain ⟨xs1, ty1, r1⟩ := open_arg (n := 9) (T := .slice 4 ttO) (by kernel_rfl) (hval 1 23 v1 rfl rfl) h1 w1
    obtain ⟨x, rfl, hx⟩ := ty_u8 _ _ ty0
    obtain ⟨y, rfl, hy, ly⟩ := ty_list Outv.enc Outv.In (fun d e h => ty_out d e h) ty1
    have ny : y.length ≤ 1048576 := by
      have h2 := (uptoSmall_two hK.1).2
      have h3 := uptoBulk_slice ty1
      simp only [List.length_map] at h3
      omega
    exact ⟨rfl, calls_of_acalls (law_nodes x y hy ny) (.cons r0 (.cons r1 .nil))⟩
theorem calcNodesUpto_holds : Rows.CalcNodesUptoSaid :=
  OpenClaim.holds_of_cond 3 Tryz.f3 rfl rfl rfl rfl rfl rfl rfl ⟨rfl, rfl, rfl, rfl, rfl⟩ rfl rfl rfl rfl rfl (by kernel_rfl) Tryz.func3 (by kernel_rfl)
    (of_decide_eq_true (by kernel_rfl)) (by unfold Func.isWrapper; first | (rw [if_pos (by decide +kernel)]; kernel_rfl) | (rw [if_neg (by decide +kernel)]; exact ⟨rfl, rfl⟩))
    (fun os started H enc _ F => calcNodesUpto_returns os started H enc F)
theorem calcNodes_card : Rows.CalcNodesUptoCardSaid :=
  Claim7.holds_tied_plain_at .later [] [.data, .pinned] true (true, "e6e0fe8157ee1b8d0c71613898d04e7b6d908ad5c43f2a766daf38fe3c880cdb") false
    calcNodesUpto_holds (fun _ h => by cases h) (by kernel_rfl) (fun _ h => by cases h) calcNodesUpto_row_tie rfl ⟨rfl, rfl⟩ (by kernel_rfl) rfl
    (fun f fn hf hfn => by
      obtain rfl : f = 3 := Option.some.inj ((show Tryz.prog.funcNamed "jointer/jointerlaw05.CalcNodes" = some 3 by kernel_rfl).symm.trans hf) |>.symm
      obtain rfl : fn = Tryz.f3 := (Option.some.inj (Tryz.func3.symm.trans hfn)).symm
      refine ⟨by kernel_rfl, fun j t ht => ?_⟩
      rw [Tryz.params3] at ht
      match j, ht with
      | 0, ht => cases ht; exact (show Tryz.prog.wantsStandIn 22 = false by kernel_rfl)
      | 1, ht => cases ht; exact (show Tryz.prog.wantsStandIn 23 = false by kernel_rfl)
      | n + 2, ht => simp at ht)
    (by kernel_rfl)
#print axioms calcNodes_card
end Go.Proofs.YtmlaogjndaeihaaGreatDoor

