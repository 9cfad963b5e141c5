/- CalcChains: AND and OR do not depend on the order of their kids, can be nested, and NOT turns one into the other, whatever fails; for arguments of bulk at most 1048576. -/
import Derived.Test.YtmlaogjndaeihaaDoorC1
import Derived.Test.YtmlaogjndaeihaaDoorT17
namespace Go.Proofs.YtmlaogjndaeihaaDoor
open Go Go.Ab
section
attribute [local go_sem ↓] parts_tt parts_ff parts_tf parts_ft
attribute [local go_sem] parts_eq learnT aops_nil aops_cons aopsD_nil aopsD_cons stepS stepD gval St.learn skipR St.after putτ applyUpd List.foldl_cons List.foldl_nil pureOp memOp callOf opnd ofConst leaf binA unA lenA indexA indexAddrA fieldAddrA fieldA sliceA convertA pickV fillA placeS cellsA setA partA loadM storeM appendM srcEls lookBox lookRow lookMap closeL closeV scalarB scalarL killed buildEls lookupA leafEq eqAll resA resL tupA retA thenA blockA isInt loA hiA foldA maxA minA okSize leafB closedB Res.foot List.getD_cons_zero List.getD_cons_succ List.set_cons_zero List.set_cons_succ List.map_cons List.map_nil List.append_nil List.nil_append List.cons_append List.length_cons List.length_nil List.take_succ_cons List.take_zero List.drop_succ_cons List.drop_zero List.take_nil List.drop_nil List.all_cons List.all_nil List.getElem?_toArray List.getElem?_cons_zero List.getElem?_cons_succ Option.bind_some Option.map_some true_and and_true true_implies ne_eq not_true_eq_false not_false_eq_true Bool.true_eq_false Bool.false_eq_true Bool.not_true Bool.not_false decide_eq_true_eq decide_eq_false_iff_not false_implies implies_true and_self ite_true ite_false cond_true cond_false Option.some.injEq List.reverse_cons List.reverse_nil Bool.and_self Bool.true_and Bool.and_true Bool.false_and Bool.and_false Bool.or_true Bool.true_or Bool.or_false Bool.false_or Bool.not_eq_eq_eq_not Bool.not_not Bool.or_self beq_self_eq_true and_false false_and or_true true_or or_false false_or not_true not_false_iff Decidable.not_not lookT lookR tabT tabR Int.toNat_natCast List.length_map List.map_append List.length_append decide_true decide_false tmod2 List.mem_singleton forall_eq elOk1 elOk3 elOk4 castn0 castn1 castn2 castn3 getD_mid getD_mid_map at_lt at_end mid_lt mid_lt' nat_ge List.size_toArray Array.size_empty Nat.add_zero Nat.zero_add
attribute [local irreducible] ASpec ACalls retA ti EqT
set_option linter.unusedSimpArgs false
set_option maxHeartbeats 4000000
set_option maxRecDepth 100000
set_option linter.unusedVariables false
attribute [local go_sem] ti2 ti3 ti4 ti5 ti9 ti21 ti22 ti23 ti24 ti25 ti30 ti33 ti35 ti41 ti44 ti45 ti46 ti49 ti56 ti62 ti66 ti81 ti89 ti93 ti96 ti99 ti116
theorem node_ands (os : List Outv) (h : ∀ o ∈ os, truthO o = true) (hi : ∀ o ∈ os, o.In) (hl : os.length < 2 ^ 40) : ACalls Tryd.prog 15 [.int .u8 23, outs os] (.agg (andO os).enc) :=
  node_and os hl (andO os) (cond_and h hi (by omega))
theorem node_ors (os : List Outv) (h : ∀ o ∈ os, truthO o = true) (hi : ∀ o ∈ os, o.In) (hl : os.length < 2 ^ 40) : ACalls Tryd.prog 15 [.int .u8 24, outs os] (.agg (orO os).enc) := by
  refine node_or os hl (orO os) ?_
  rw [nodeC, if_neg (by
    rw [Bool.not_eq_false, List.all_eq_true]
    exact fun o ho => truth_ok (h o ho) (hi o ho)), if_neg (by rw [truths_kinds h 24 (.inr rfl) (by omega)]; simp), if_neg (by decide), if_pos rfl]
theorem truth_In {o : Outv} (h : truthO o = true) : o.In := by
  rcases truth_cases h with ⟨e, rfl, h2⟩ | rfl | rfl | rfl
  · exact ⟨⟨Int.le_refl 0, ⟨by show (-9223372036854775808 : Int) ≤ 0; decide, by show (0 : Int) ≤ 9223372036854775807; decide⟩, Nat.zero_le _⟩, by show -9223372036854775808 ≤ e; omega, by show e ≤ 9223372036854775807; omega⟩
  · exact ⟨⟨by decide, by decide, by decide⟩, by decide, by decide⟩
  · exact ⟨⟨by decide, by decide, by decide⟩, by decide, by decide⟩
  · exact ⟨⟨by decide, by decide, by decide⟩, by decide, by decide⟩
theorem law_chains (xs ys : List Outv) (hx : ∀ o ∈ xs, o.In) (hy : ∀ o ∈ ys, o.In) (nx : xs.length ≤ 1048576) (ny : ys.length ≤ 1048576) : ACalls Tryd.prog 8 [outs xs, outs ys] (.bool true) := by
  have hT := law_truths xs (by omega)
  have hU := law_truths ys (by omega)
  obtain ⟨zs, hz⟩ : ∃ zs, zs = xs ++ ys := ⟨_, rfl⟩
  have nz : zs.length ≤ 2097152 := by rw [hz]; simp; omega
  refine acalls_k Tryd.func8 rfl (by kernel_rfl) (congrArg Array.toList Tryd.results8) Tryd.ntmps8 ?_
  intro R hR
  simp only [st0, List.length_cons, List.length_nil, Nat.reduceAdd, Nat.reduceSub, List.replicate_succ, List.replicate_zero, List.cons_append, List.nil_append]
  repeat' (first
      | (with_reducible refine a_seq_reg ?_; intro K hK)
      | (with_reducible refine a_region (by kernel_rfl) ?_; simp (maxSteps := 10000000) (implicitDefEqProofs := false) only [go_sem,  ↓reduceIte, reduceCtorEq, Nat.reduceAdd, Nat.reduceSub, Nat.reduceLeDiff, Nat.reduceEqDiff, Nat.reduceMul, Nat.reduceLT, Nat.reducePow, Int.reduceEq, Int.reduceLT, Int.reduceLE, Int.reduceGT, Int.reduceGE, Int.reduceAdd, Int.reduceSub, Int.reduceNeg, Int.reduceToNat])
      | (with_reducible refine a_draw mixed (by kernel_rfl) ?_; intro C hC; simp (maxSteps := 10000000) (implicitDefEqProofs := false) only [go_sem,  ↓reduceIte, reduceCtorEq, Nat.reduceAdd, Nat.reduceSub, Nat.reduceLeDiff, Nat.reduceEqDiff, Nat.reduceMul, Nat.reduceLT, Nat.reducePow, Int.reduceEq, Int.reduceLT, Int.reduceLE, Int.reduceGT, Int.reduceGE, Int.reduceAdd, Int.reduceSub, Int.reduceNeg, Int.reduceToNat])
      | with_reducible refine a_block ?_
      | with_reducible refine a_ret ?_
      | with_reducible refine a_exit ?_
      | with_reducible refine a_skip ?_
      | (with_reducible refine a_cond_k ?_; intro X Y hX hY; simp (maxSteps := 10000000) (implicitDefEqProofs := false) only [go_sem,  ↓reduceIte, reduceCtorEq, Nat.reduceAdd, Nat.reduceSub, Nat.reduceLeDiff, Nat.reduceEqDiff, Nat.reduceMul, Nat.reduceLT, Nat.reducePow, Int.reduceEq, Int.reduceLT, Int.reduceLE, Int.reduceGT, Int.reduceGE, Int.reduceAdd, Int.reduceSub, Int.reduceNeg, Int.reduceToNat])
      | with_reducible exact ConfOk.mk (by kernel_rfl)
      | (with_reducible refine eqT_of (eq33 _ _ _ _ _ _) ?_; simp)
      | (with_reducible refine eqT_of (eq35 _ _ _ _ _ _ _ _) ?_; simp)
      | (with_reducible refine RetOk.mk ?_; simp (maxSteps := 10000000) (implicitDefEqProofs := false) only [go_sem,  ↓reduceIte, reduceCtorEq, Nat.reduceAdd, Nat.reduceSub, Nat.reduceLeDiff, Nat.reduceEqDiff, Nat.reduceMul, Nat.reduceLT, Nat.reducePow, Int.reduceEq, Int.reduceLT, Int.reduceLE, Int.reduceGT, Int.reduceGE, Int.reduceAdd, Int.reduceSub, Int.reduceNeg, Int.reduceToNat])
      | (with_reducible refine CallS.intro (hT) ?_; simp (maxSteps := 10000000) (implicitDefEqProofs := false) only [go_sem,  ↓reduceIte, reduceCtorEq, Nat.reduceAdd, Nat.reduceSub, Nat.reduceLeDiff, Nat.reduceEqDiff, Nat.reduceMul, Nat.reduceLT, Nat.reducePow, Int.reduceEq, Int.reduceLT, Int.reduceLE, Int.reduceGT, Int.reduceGE, Int.reduceAdd, Int.reduceSub, Int.reduceNeg, Int.reduceToNat])
      | (with_reducible refine CallD.intro (hT) ?_; simp (maxSteps := 10000000) (implicitDefEqProofs := false) only [go_sem,  ↓reduceIte, reduceCtorEq, Nat.reduceAdd, Nat.reduceSub, Nat.reduceLeDiff, Nat.reduceEqDiff, Nat.reduceMul, Nat.reduceLT, Nat.reducePow, Int.reduceEq, Int.reduceLT, Int.reduceLE, Int.reduceGT, Int.reduceGE, Int.reduceAdd, Int.reduceSub, Int.reduceNeg, Int.reduceToNat])
      | (with_reducible refine CallS.intro (hU) ?_; simp (maxSteps := 10000000) (implicitDefEqProofs := false) only [go_sem,  ↓reduceIte, reduceCtorEq, Nat.reduceAdd, Nat.reduceSub, Nat.reduceLeDiff, Nat.reduceEqDiff, Nat.reduceMul, Nat.reduceLT, Nat.reducePow, Int.reduceEq, Int.reduceLT, Int.reduceLE, Int.reduceGT, Int.reduceGE, Int.reduceAdd, Int.reduceSub, Int.reduceNeg, Int.reduceToNat])
      | (with_reducible refine CallD.intro (hU) ?_; simp (maxSteps := 10000000) (implicitDefEqProofs := false) only [go_sem,  ↓reduceIte, reduceCtorEq, Nat.reduceAdd, Nat.reduceSub, Nat.reduceLeDiff, Nat.reduceEqDiff, Nat.reduceMul, Nat.reduceLT, Nat.reducePow, Int.reduceEq, Int.reduceLT, Int.reduceLE, Int.reduceGT, Int.reduceGE, Int.reduceAdd, Int.reduceSub, Int.reduceNeg, Int.reduceToNat])
      | (with_reducible refine CallS.intro (law_awake) ?_; simp (maxSteps := 10000000) (implicitDefEqProofs := false) only [go_sem,  ↓reduceIte, reduceCtorEq, Nat.reduceAdd, Nat.reduceSub, Nat.reduceLeDiff, Nat.reduceEqDiff, Nat.reduceMul, Nat.reduceLT, Nat.reducePow, Int.reduceEq, Int.reduceLT, Int.reduceLE, Int.reduceGT, Int.reduceGE, Int.reduceAdd, Int.reduceSub, Int.reduceNeg, Int.reduceToNat])
      | (with_reducible refine CallD.intro (law_awake) ?_; simp (maxSteps := 10000000) (implicitDefEqProofs := false) only [go_sem,  ↓reduceIte, reduceCtorEq, Nat.reduceAdd, Nat.reduceSub, Nat.reduceLeDiff, Nat.reduceEqDiff, Nat.reduceMul, Nat.reduceLT, Nat.reducePow, Int.reduceEq, Int.reduceLT, Int.reduceLE, Int.reduceGT, Int.reduceGE, Int.reduceAdd, Int.reduceSub, Int.reduceNeg, Int.reduceToNat])
      | ((fail_if_success with_reducible show False); with_reducible apply_assumption (exfalso := false) (symm := false) only [*, rfl, trivial, congrArg])
      | with_reducible refine And.intro ?_ ?_
      | (intro h; contradiction)
      | (intro h; subst h)
      | intro h
      | simp (maxSteps := 10000000) (implicitDefEqProofs := false) only [go_sem,  ↓reduceIte, reduceCtorEq, Nat.reduceAdd, Nat.reduceSub, Nat.reduceLeDiff, Nat.reduceEqDiff, Nat.reduceMul, Nat.reduceLT, Nat.reducePow, Int.reduceEq, Int.reduceLT, Int.reduceLE, Int.reduceGT, Int.reduceGE, Int.reduceAdd, Int.reduceSub, Int.reduceNeg, Int.reduceToNat])
  refine a_cut (fun st => (xs.all truthO = true ∧ ys.all truthO = true) ∧ Has st 107 [(0, .slice (xs.map Outv.enc)), (1, .slice (ys.map Outv.enc))] []) (fun K hK => ?_) ?_
  · repeat' (first
        | (with_reducible refine a_seq_k ?_; intro K hK)
        | (with_reducible refine a_region (by kernel_rfl) ?_; simp (maxSteps := 10000000) (implicitDefEqProofs := false) only [go_sem,  ↓reduceIte, reduceCtorEq, Nat.reduceAdd, Nat.reduceSub, Nat.reduceLeDiff, Nat.reduceEqDiff, Nat.reduceMul, Nat.reduceLT, Nat.reducePow, Int.reduceEq, Int.reduceLT, Int.reduceLE, Int.reduceGT, Int.reduceGE, Int.reduceAdd, Int.reduceSub, Int.reduceNeg, Int.reduceToNat])
        | (with_reducible refine a_draw mixed (by kernel_rfl) ?_; intro C hC; simp (maxSteps := 10000000) (implicitDefEqProofs := false) only [go_sem,  ↓reduceIte, reduceCtorEq, Nat.reduceAdd, Nat.reduceSub, Nat.reduceLeDiff, Nat.reduceEqDiff, Nat.reduceMul, Nat.reduceLT, Nat.reducePow, Int.reduceEq, Int.reduceLT, Int.reduceLE, Int.reduceGT, Int.reduceGE, Int.reduceAdd, Int.reduceSub, Int.reduceNeg, Int.reduceToNat])
        | with_reducible refine a_block ?_
        | with_reducible refine a_ret ?_
        | with_reducible refine a_exit ?_
        | with_reducible refine a_skip ?_
        | (with_reducible refine a_cond_k ?_; intro X Y hX hY; simp (maxSteps := 10000000) (implicitDefEqProofs := false) only [go_sem,  ↓reduceIte, reduceCtorEq, Nat.reduceAdd, Nat.reduceSub, Nat.reduceLeDiff, Nat.reduceEqDiff, Nat.reduceMul, Nat.reduceLT, Nat.reducePow, Int.reduceEq, Int.reduceLT, Int.reduceLE, Int.reduceGT, Int.reduceGE, Int.reduceAdd, Int.reduceSub, Int.reduceNeg, Int.reduceToNat])
        | with_reducible exact ConfOk.mk (by kernel_rfl)
        | (with_reducible refine eqT_of (eq33 _ _ _ _ _ _) ?_; simp)
        | (with_reducible refine eqT_of (eq35 _ _ _ _ _ _ _ _) ?_; simp)
        | (with_reducible refine RetOk.mk ?_; simp (maxSteps := 10000000) (implicitDefEqProofs := false) only [go_sem,  ↓reduceIte, reduceCtorEq, Nat.reduceAdd, Nat.reduceSub, Nat.reduceLeDiff, Nat.reduceEqDiff, Nat.reduceMul, Nat.reduceLT, Nat.reducePow, Int.reduceEq, Int.reduceLT, Int.reduceLE, Int.reduceGT, Int.reduceGE, Int.reduceAdd, Int.reduceSub, Int.reduceNeg, Int.reduceToNat])
        | (with_reducible refine CallS.intro (hT) ?_; simp (maxSteps := 10000000) (implicitDefEqProofs := false) only [go_sem,  ↓reduceIte, reduceCtorEq, Nat.reduceAdd, Nat.reduceSub, Nat.reduceLeDiff, Nat.reduceEqDiff, Nat.reduceMul, Nat.reduceLT, Nat.reducePow, Int.reduceEq, Int.reduceLT, Int.reduceLE, Int.reduceGT, Int.reduceGE, Int.reduceAdd, Int.reduceSub, Int.reduceNeg, Int.reduceToNat])
        | (with_reducible refine CallD.intro (hT) ?_; simp (maxSteps := 10000000) (implicitDefEqProofs := false) only [go_sem,  ↓reduceIte, reduceCtorEq, Nat.reduceAdd, Nat.reduceSub, Nat.reduceLeDiff, Nat.reduceEqDiff, Nat.reduceMul, Nat.reduceLT, Nat.reducePow, Int.reduceEq, Int.reduceLT, Int.reduceLE, Int.reduceGT, Int.reduceGE, Int.reduceAdd, Int.reduceSub, Int.reduceNeg, Int.reduceToNat])
        | (with_reducible refine CallS.intro (hU) ?_; simp (maxSteps := 10000000) (implicitDefEqProofs := false) only [go_sem,  ↓reduceIte, reduceCtorEq, Nat.reduceAdd, Nat.reduceSub, Nat.reduceLeDiff, Nat.reduceEqDiff, Nat.reduceMul, Nat.reduceLT, Nat.reducePow, Int.reduceEq, Int.reduceLT, Int.reduceLE, Int.reduceGT, Int.reduceGE, Int.reduceAdd, Int.reduceSub, Int.reduceNeg, Int.reduceToNat])
        | (with_reducible refine CallD.intro (hU) ?_; simp (maxSteps := 10000000) (implicitDefEqProofs := false) only [go_sem,  ↓reduceIte, reduceCtorEq, Nat.reduceAdd, Nat.reduceSub, Nat.reduceLeDiff, Nat.reduceEqDiff, Nat.reduceMul, Nat.reduceLT, Nat.reducePow, Int.reduceEq, Int.reduceLT, Int.reduceLE, Int.reduceGT, Int.reduceGE, Int.reduceAdd, Int.reduceSub, Int.reduceNeg, Int.reduceToNat])
        | (with_reducible refine CallS.intro (law_awake) ?_; simp (maxSteps := 10000000) (implicitDefEqProofs := false) only [go_sem,  ↓reduceIte, reduceCtorEq, Nat.reduceAdd, Nat.reduceSub, Nat.reduceLeDiff, Nat.reduceEqDiff, Nat.reduceMul, Nat.reduceLT, Nat.reducePow, Int.reduceEq, Int.reduceLT, Int.reduceLE, Int.reduceGT, Int.reduceGE, Int.reduceAdd, Int.reduceSub, Int.reduceNeg, Int.reduceToNat])
        | (with_reducible refine CallD.intro (law_awake) ?_; simp (maxSteps := 10000000) (implicitDefEqProofs := false) only [go_sem,  ↓reduceIte, reduceCtorEq, Nat.reduceAdd, Nat.reduceSub, Nat.reduceLeDiff, Nat.reduceEqDiff, Nat.reduceMul, Nat.reduceLT, Nat.reducePow, Int.reduceEq, Int.reduceLT, Int.reduceLE, Int.reduceGT, Int.reduceGE, Int.reduceAdd, Int.reduceSub, Int.reduceNeg, Int.reduceToNat])
        | ((fail_if_success with_reducible show False); with_reducible apply_assumption (exfalso := false) (symm := false) only [*, rfl, trivial, congrArg])
        | with_reducible refine And.intro ?_ ?_
        | (intro h; contradiction)
        | (intro h; subst h)
        | intro h
        | simp (maxSteps := 10000000) (implicitDefEqProofs := false) only [go_sem,  ↓reduceIte, reduceCtorEq, Nat.reduceAdd, Nat.reduceSub, Nat.reduceLeDiff, Nat.reduceEqDiff, Nat.reduceMul, Nat.reduceLT, Nat.reducePow, Int.reduceEq, Int.reduceLT, Int.reduceLE, Int.reduceGT, Int.reduceGE, Int.reduceAdd, Int.reduceSub, Int.reduceNeg, Int.reduceToNat])
    · exact ⟨⟨⟨by assumption, by assumption⟩, ⟨rfl, rfl, by simp, by simp⟩⟩⟩
  · rintro st ⟨hm, hs⟩
    refine a_has hs fun τ σ γ => ?_
    have hxt : ∀ o ∈ xs, truthO o = true := List.all_eq_true.1 hm.1
    have hyt : ∀ o ∈ ys, truthO o = true := List.all_eq_true.1 hm.2
    have hzt : ∀ o ∈ zs, truthO o = true := by
      intro o ho
      rw [hz] at ho
      rcases List.mem_append.1 ho with h | h
      · exact hxt o h
      · exact hyt o h
    clear hT hU hm
    repeat' (first
        | (with_reducible refine a_seq_reg ?_; intro K hK)
        | (with_reducible refine a_region (by kernel_rfl) ?_; simp (maxSteps := 10000000) (implicitDefEqProofs := false) only [go_sem, Outv.enc, all_outs,  ↓reduceIte, reduceCtorEq, Nat.reduceAdd, Nat.reduceSub, Nat.reduceLeDiff, Nat.reduceEqDiff, Nat.reduceMul, Nat.reduceLT, Nat.reducePow, Int.reduceEq, Int.reduceLT, Int.reduceLE, Int.reduceGT, Int.reduceGE, Int.reduceAdd, Int.reduceSub, Int.reduceNeg, Int.reduceToNat])
        | (with_reducible refine a_draw mixed (by kernel_rfl) ?_; intro C hC; simp (maxSteps := 10000000) (implicitDefEqProofs := false) only [go_sem, Outv.enc, all_outs,  ↓reduceIte, reduceCtorEq, Nat.reduceAdd, Nat.reduceSub, Nat.reduceLeDiff, Nat.reduceEqDiff, Nat.reduceMul, Nat.reduceLT, Nat.reducePow, Int.reduceEq, Int.reduceLT, Int.reduceLE, Int.reduceGT, Int.reduceGE, Int.reduceAdd, Int.reduceSub, Int.reduceNeg, Int.reduceToNat])
        | with_reducible refine a_block ?_
        | with_reducible refine a_ret ?_
        | with_reducible refine a_exit ?_
        | with_reducible refine a_skip ?_
        | (with_reducible refine a_cond_k ?_; intro X Y hX hY; simp (maxSteps := 10000000) (implicitDefEqProofs := false) only [go_sem, Outv.enc, all_outs,  ↓reduceIte, reduceCtorEq, Nat.reduceAdd, Nat.reduceSub, Nat.reduceLeDiff, Nat.reduceEqDiff, Nat.reduceMul, Nat.reduceLT, Nat.reducePow, Int.reduceEq, Int.reduceLT, Int.reduceLE, Int.reduceGT, Int.reduceGE, Int.reduceAdd, Int.reduceSub, Int.reduceNeg, Int.reduceToNat])
        | with_reducible exact ConfOk.mk (by kernel_rfl)
        | (with_reducible refine eqT_of (eq33 _ _ _ _ _ _) ?_; simp)
        | (with_reducible refine eqT_of (eq35 _ _ _ _ _ _ _ _) ?_; simp)
        | (with_reducible refine RetOk.mk ?_; simp (maxSteps := 10000000) (implicitDefEqProofs := false) only [go_sem, Outv.enc, all_outs,  ↓reduceIte, reduceCtorEq, Nat.reduceAdd, Nat.reduceSub, Nat.reduceLeDiff, Nat.reduceEqDiff, Nat.reduceMul, Nat.reduceLT, Nat.reducePow, Int.reduceEq, Int.reduceLT, Int.reduceLE, Int.reduceGT, Int.reduceGE, Int.reduceAdd, Int.reduceSub, Int.reduceNeg, Int.reduceToNat])
        | ((fail_if_success with_reducible show False); with_reducible apply_assumption (exfalso := false) (symm := false) only [*, rfl, trivial, congrArg])
        | with_reducible refine And.intro ?_ ?_
        | (intro h; contradiction)
        | (intro h; subst h)
        | intro h
        | simp (maxSteps := 10000000) (implicitDefEqProofs := false) only [go_sem, Outv.enc, all_outs,  ↓reduceIte, reduceCtorEq, Nat.reduceAdd, Nat.reduceSub, Nat.reduceLeDiff, Nat.reduceEqDiff, Nat.reduceMul, Nat.reduceLT, Nat.reducePow, Int.reduceEq, Int.reduceLT, Int.reduceLE, Int.reduceGT, Int.reduceGE, Int.reduceAdd, Int.reduceSub, Int.reduceNeg, Int.reduceToNat])
    · omega
    · omega
    · omega
    · omega
    rw [← List.map_append, ← hz]
    refine a_freeze [5] (k := 26) (g := γ + 1 + 1) (es := 4) (els := zs.map Outv.enc) (by simp) (by simp [lookRow]) ?_
    simp only [putAll, List.set_cons_zero, List.set_cons_succ, applyUpd, List.foldl_cons, List.foldl_nil]
    refine a_cut (fun st => ∃ (g : Nat), (True) ∧ Has st 107 [(0, .slice (xs.map Outv.enc)), (1, .slice (ys.map Outv.enc)), (5, .slice (zs.map Outv.enc)), (6, .view 41 g)] [(41, .row g 4 ((zs.map notO).map Outv.enc))]) (fun K hK => ?_) ?_
    · repeat' (first
          | (with_reducible refine a_seq_reg ?_; intro K hK)
          | (with_reducible refine a_region (by kernel_rfl) ?_; simp (maxSteps := 10000000) (implicitDefEqProofs := false) only [go_sem,  ↓reduceIte, reduceCtorEq, Nat.reduceAdd, Nat.reduceSub, Nat.reduceLeDiff, Nat.reduceEqDiff, Nat.reduceMul, Nat.reduceLT, Nat.reducePow, Int.reduceEq, Int.reduceLT, Int.reduceLE, Int.reduceGT, Int.reduceGE, Int.reduceAdd, Int.reduceSub, Int.reduceNeg, Int.reduceToNat])
          | (with_reducible refine a_draw mixed (by kernel_rfl) ?_; intro C hC; simp (maxSteps := 10000000) (implicitDefEqProofs := false) only [go_sem,  ↓reduceIte, reduceCtorEq, Nat.reduceAdd, Nat.reduceSub, Nat.reduceLeDiff, Nat.reduceEqDiff, Nat.reduceMul, Nat.reduceLT, Nat.reducePow, Int.reduceEq, Int.reduceLT, Int.reduceLE, Int.reduceGT, Int.reduceGE, Int.reduceAdd, Int.reduceSub, Int.reduceNeg, Int.reduceToNat])
          | with_reducible refine a_block ?_
          | with_reducible refine a_ret ?_
          | with_reducible refine a_exit ?_
          | with_reducible refine a_skip ?_
          | (with_reducible refine a_cond_k ?_; intro X Y hX hY; simp (maxSteps := 10000000) (implicitDefEqProofs := false) only [go_sem,  ↓reduceIte, reduceCtorEq, Nat.reduceAdd, Nat.reduceSub, Nat.reduceLeDiff, Nat.reduceEqDiff, Nat.reduceMul, Nat.reduceLT, Nat.reducePow, Int.reduceEq, Int.reduceLT, Int.reduceLE, Int.reduceGT, Int.reduceGE, Int.reduceAdd, Int.reduceSub, Int.reduceNeg, Int.reduceToNat])
          | with_reducible exact ConfOk.mk (by kernel_rfl)
          | (with_reducible refine eqT_of (eq33 _ _ _ _ _ _) ?_; simp)
          | (with_reducible refine eqT_of (eq35 _ _ _ _ _ _ _ _) ?_; simp)
          | (with_reducible refine RetOk.mk ?_; simp (maxSteps := 10000000) (implicitDefEqProofs := false) only [go_sem,  ↓reduceIte, reduceCtorEq, Nat.reduceAdd, Nat.reduceSub, Nat.reduceLeDiff, Nat.reduceEqDiff, Nat.reduceMul, Nat.reduceLT, Nat.reducePow, Int.reduceEq, Int.reduceLT, Int.reduceLE, Int.reduceGT, Int.reduceGE, Int.reduceAdd, Int.reduceSub, Int.reduceNeg, Int.reduceToNat])
          | ((fail_if_success with_reducible show False); with_reducible apply_assumption (exfalso := false) (symm := false) only [*, rfl, trivial, congrArg])
          | with_reducible refine And.intro ?_ ?_
          | (intro h; contradiction)
          | (intro h; subst h)
          | intro h
          | simp (maxSteps := 10000000) (implicitDefEqProofs := false) only [go_sem,  ↓reduceIte, reduceCtorEq, Nat.reduceAdd, Nat.reduceSub, Nat.reduceLeDiff, Nat.reduceEqDiff, Nat.reduceMul, Nat.reduceLT, Nat.reducePow, Int.reduceEq, Int.reduceLT, Int.reduceLE, Int.reduceGT, Int.reduceGE, Int.reduceAdd, Int.reduceSub, Int.reduceNeg, Int.reduceToNat])
      refine a_nilrow [6] 41 4 (by simp) ?_
      simp only [putAll, List.set_cons_zero, List.set_cons_succ]
      clear hz
      refine a_loop_k (fun n st => ∃ (g : Nat) (pre rest : List _) (acc : Unit), zs = pre ++ rest ∧ n = rest.length ∧ (True) ∧ Has st 107 [(0, .slice (xs.map Outv.enc)), (1, .slice (ys.map Outv.enc)), (5, .slice (zs.map Outv.enc)), (6, .view 41 g), (7, .int .i64 pre.length)] [(41, .row g 4 ((pre.map notO).map Outv.enc))]) (zs).length ⟨γ + 1 + 1 + 1 + 1, [], zs, (), rfl, rfl, trivial, ⟨rfl, rfl, by simp [kd, Outv.enc, Val.enc], by simp [kd, Outv.enc, Val.enc]⟩⟩ ?_
      rintro n st ⟨g, pre, rest, acc, he, rfl, hp, hs⟩ K hK
      have hw := wrap_nat pre.length (by have := congrArg List.length he; simp at this; omega)
      subst he
      refine a_has hs fun τ σ γ => ?_
      rcases rest with _ | ⟨x, rest⟩
      · repeat' (first
            | (with_reducible refine a_seq_k ?_; intro K hK)
            | (with_reducible refine a_region (by kernel_rfl) ?_; simp (maxSteps := 10000000) (implicitDefEqProofs := false) only [go_sem, Outv.enc, hw,  ↓reduceIte, reduceCtorEq, Nat.reduceAdd, Nat.reduceSub, Nat.reduceLeDiff, Nat.reduceEqDiff, Nat.reduceMul, Nat.reduceLT, Nat.reducePow, Int.reduceEq, Int.reduceLT, Int.reduceLE, Int.reduceGT, Int.reduceGE, Int.reduceAdd, Int.reduceSub, Int.reduceNeg, Int.reduceToNat])
            | (with_reducible refine a_draw mixed (by kernel_rfl) ?_; intro C hC; simp (maxSteps := 10000000) (implicitDefEqProofs := false) only [go_sem, Outv.enc, hw,  ↓reduceIte, reduceCtorEq, Nat.reduceAdd, Nat.reduceSub, Nat.reduceLeDiff, Nat.reduceEqDiff, Nat.reduceMul, Nat.reduceLT, Nat.reducePow, Int.reduceEq, Int.reduceLT, Int.reduceLE, Int.reduceGT, Int.reduceGE, Int.reduceAdd, Int.reduceSub, Int.reduceNeg, Int.reduceToNat])
            | with_reducible refine a_block ?_
            | with_reducible refine a_ret ?_
            | with_reducible refine a_exit ?_
            | with_reducible refine a_skip ?_
            | (with_reducible refine a_cond_k ?_; intro X Y hX hY; simp (maxSteps := 10000000) (implicitDefEqProofs := false) only [go_sem, Outv.enc, hw,  ↓reduceIte, reduceCtorEq, Nat.reduceAdd, Nat.reduceSub, Nat.reduceLeDiff, Nat.reduceEqDiff, Nat.reduceMul, Nat.reduceLT, Nat.reducePow, Int.reduceEq, Int.reduceLT, Int.reduceLE, Int.reduceGT, Int.reduceGE, Int.reduceAdd, Int.reduceSub, Int.reduceNeg, Int.reduceToNat])
            | with_reducible exact ConfOk.mk (by kernel_rfl)
            | (with_reducible refine eqT_of (eq33 _ _ _ _ _ _) ?_; simp)
            | (with_reducible refine eqT_of (eq35 _ _ _ _ _ _ _ _) ?_; simp)
            | (with_reducible refine RetOk.mk ?_; simp (maxSteps := 10000000) (implicitDefEqProofs := false) only [go_sem, Outv.enc, hw,  ↓reduceIte, reduceCtorEq, Nat.reduceAdd, Nat.reduceSub, Nat.reduceLeDiff, Nat.reduceEqDiff, Nat.reduceMul, Nat.reduceLT, Nat.reducePow, Int.reduceEq, Int.reduceLT, Int.reduceLE, Int.reduceGT, Int.reduceGE, Int.reduceAdd, Int.reduceSub, Int.reduceNeg, Int.reduceToNat])
            | ((fail_if_success with_reducible show False); with_reducible apply_assumption (exfalso := false) (symm := false) only [*, rfl, trivial, congrArg])
            | with_reducible refine And.intro ?_ ?_
            | (intro h; contradiction)
            | (intro h; subst h)
            | intro h
            | simp (maxSteps := 10000000) (implicitDefEqProofs := false) only [go_sem, Outv.enc, hw,  ↓reduceIte, reduceCtorEq, Nat.reduceAdd, Nat.reduceSub, Nat.reduceLeDiff, Nat.reduceEqDiff, Nat.reduceMul, Nat.reduceLT, Nat.reducePow, Int.reduceEq, Int.reduceLT, Int.reduceLE, Int.reduceGT, Int.reduceGE, Int.reduceAdd, Int.reduceSub, Int.reduceNeg, Int.reduceToNat])
        · exact ⟨⟨g, ⟨rfl, rfl, by simp, by simp⟩⟩⟩
      · have hx1 : truthO x = true := hzt x (by simp)
        have hN := node_not x hx1 (truth_In hx1)
        simp only [outs, List.map_cons, List.map_nil, Outv.enc] at hN
        have hl' : pre.length + (rest.length + 1) ≤ 2097152 := by simpa using nz
        repeat' (first
            | (with_reducible refine a_seq_k ?_; intro K hK)
            | (with_reducible refine a_region (by kernel_rfl) ?_; simp (maxSteps := 10000000) (implicitDefEqProofs := false) only [go_sem, Outv.enc, hw,  ↓reduceIte, reduceCtorEq, Nat.reduceAdd, Nat.reduceSub, Nat.reduceLeDiff, Nat.reduceEqDiff, Nat.reduceMul, Nat.reduceLT, Nat.reducePow, Int.reduceEq, Int.reduceLT, Int.reduceLE, Int.reduceGT, Int.reduceGE, Int.reduceAdd, Int.reduceSub, Int.reduceNeg, Int.reduceToNat])
            | (with_reducible refine a_draw mixed (by kernel_rfl) ?_; intro C hC; simp (maxSteps := 10000000) (implicitDefEqProofs := false) only [go_sem, Outv.enc, hw,  ↓reduceIte, reduceCtorEq, Nat.reduceAdd, Nat.reduceSub, Nat.reduceLeDiff, Nat.reduceEqDiff, Nat.reduceMul, Nat.reduceLT, Nat.reducePow, Int.reduceEq, Int.reduceLT, Int.reduceLE, Int.reduceGT, Int.reduceGE, Int.reduceAdd, Int.reduceSub, Int.reduceNeg, Int.reduceToNat])
            | with_reducible refine a_block ?_
            | with_reducible refine a_ret ?_
            | with_reducible refine a_exit ?_
            | with_reducible refine a_skip ?_
            | (with_reducible refine a_cond_k ?_; intro X Y hX hY; simp (maxSteps := 10000000) (implicitDefEqProofs := false) only [go_sem, Outv.enc, hw,  ↓reduceIte, reduceCtorEq, Nat.reduceAdd, Nat.reduceSub, Nat.reduceLeDiff, Nat.reduceEqDiff, Nat.reduceMul, Nat.reduceLT, Nat.reducePow, Int.reduceEq, Int.reduceLT, Int.reduceLE, Int.reduceGT, Int.reduceGE, Int.reduceAdd, Int.reduceSub, Int.reduceNeg, Int.reduceToNat])
            | with_reducible exact ConfOk.mk (by kernel_rfl)
            | (with_reducible refine eqT_of (eq33 _ _ _ _ _ _) ?_; simp)
            | (with_reducible refine eqT_of (eq35 _ _ _ _ _ _ _ _) ?_; simp)
            | (with_reducible refine RetOk.mk ?_; simp (maxSteps := 10000000) (implicitDefEqProofs := false) only [go_sem, Outv.enc, hw,  ↓reduceIte, reduceCtorEq, Nat.reduceAdd, Nat.reduceSub, Nat.reduceLeDiff, Nat.reduceEqDiff, Nat.reduceMul, Nat.reduceLT, Nat.reducePow, Int.reduceEq, Int.reduceLT, Int.reduceLE, Int.reduceGT, Int.reduceGE, Int.reduceAdd, Int.reduceSub, Int.reduceNeg, Int.reduceToNat])
            | (with_reducible refine CallS.intro (hN) ?_; simp (maxSteps := 10000000) (implicitDefEqProofs := false) only [go_sem, Outv.enc, hw,  ↓reduceIte, reduceCtorEq, Nat.reduceAdd, Nat.reduceSub, Nat.reduceLeDiff, Nat.reduceEqDiff, Nat.reduceMul, Nat.reduceLT, Nat.reducePow, Int.reduceEq, Int.reduceLT, Int.reduceLE, Int.reduceGT, Int.reduceGE, Int.reduceAdd, Int.reduceSub, Int.reduceNeg, Int.reduceToNat])
            | (with_reducible refine CallD.intro (hN) ?_; simp (maxSteps := 10000000) (implicitDefEqProofs := false) only [go_sem, Outv.enc, hw,  ↓reduceIte, reduceCtorEq, Nat.reduceAdd, Nat.reduceSub, Nat.reduceLeDiff, Nat.reduceEqDiff, Nat.reduceMul, Nat.reduceLT, Nat.reducePow, Int.reduceEq, Int.reduceLT, Int.reduceLE, Int.reduceGT, Int.reduceGE, Int.reduceAdd, Int.reduceSub, Int.reduceNeg, Int.reduceToNat])
            | ((fail_if_success with_reducible show False); with_reducible apply_assumption (exfalso := false) (symm := false) only [*, rfl, trivial, congrArg])
            | with_reducible refine And.intro ?_ ?_
            | (intro h; contradiction)
            | (intro h; subst h)
            | intro h
            | simp (maxSteps := 10000000) (implicitDefEqProofs := false) only [go_sem, Outv.enc, hw,  ↓reduceIte, reduceCtorEq, Nat.reduceAdd, Nat.reduceSub, Nat.reduceLeDiff, Nat.reduceEqDiff, Nat.reduceMul, Nat.reduceLT, Nat.reducePow, Int.reduceEq, Int.reduceLT, Int.reduceLE, Int.reduceGT, Int.reduceGE, Int.reduceAdd, Int.reduceSub, Int.reduceNeg, Int.reduceToNat])
        · omega
        · omega
        · exact ⟨⟨rest.length, by simp, γ + 1, pre ++ [x], rest, (), by simp, rfl, ⟨rfl, rfl, by simp [Outv.enc], by simp [Outv.enc]⟩⟩⟩
    · rintro st ⟨g, _, hs⟩
      refine a_has hs fun τ σ γ => ?_
      have hIn : ∀ l : List Outv, (∀ o ∈ l, truthO o = true) → ∀ o ∈ l, o.In := fun l h o ho => truth_In (h o ho)
      have hr : ∀ o ∈ zs.reverse, truthO o = true := fun o ho => hzt o (List.mem_reverse.1 ho)
      have hm := map_not hzt
      have tA := (and_truth hzt).1
      have tO := or_truth hzt
      have n1 := node_ands zs hzt (hIn _ hzt) (by omega)
      have n2 := node_ors zs hzt (hIn _ hzt) (by omega)
      have n3 := node_ands ys hyt hy (by omega)
      have n4 := node_ands xs hxt hx (by omega)
      have p5 : ∀ o ∈ [andO ys, andO xs], truthO o = true := by
        intro o ho
        rcases List.mem_cons.1 ho with rfl | ho
        · exact (and_truth hyt).1
        · rw [List.mem_singleton.1 ho]; exact (and_truth hxt).1
      have n5 := node_ands _ p5 (hIn _ p5) (by simp)
      rw [and_nested hxt hyt, ← hz] at n5
      have n6 := node_ors ys hyt hy (by omega)
      have n7 := node_ors xs hxt hx (by omega)
      have p8 : ∀ o ∈ [orO ys, orO xs], truthO o = true := by
        intro o ho
        rcases List.mem_cons.1 ho with rfl | ho
        · exact or_truth hyt
        · rw [List.mem_singleton.1 ho]; exact or_truth hxt
      have n8 := node_ors _ p8 (hIn _ p8) (by simp)
      rw [or_nested hxt hyt, ← hz] at n8
      have t0 := law_turned zs (by omega)
      have n9 := node_ands zs.reverse hr (hIn _ hr) (by simp; omega)
      rw [and_reverse hzt] at n9
      have n10 := node_ors zs.reverse hr (hIn _ hr) (by simp; omega)
      rw [or_reverse hzt] at n10
      have m1 := node_not (andO zs) tA (truth_In tA)
      have m2 := node_ors (zs.map notO) hm (hIn _ hm) (by simp; omega)
      rw [morgan_or hzt] at m2
      have m3 := node_not (orO zs) tO (truth_In tO)
      have m4 := node_ands (zs.map notO) hm (hIn _ hm) (by simp; omega)
      rw [← morgan_and hzt] at m4
      have cz := calc_Conds zs (by omega)
      rw [cond_and hzt (hIn _ hzt) (by omega)] at cz
      clear hIn hr hm tA tO p5 p8 hzt hxt hyt hx hy hz
      generalize notO (andO zs) = NA at m1 m2
      generalize notO (orO zs) = NO at m3 m4
      generalize andO zs = A at n1 n5 n9 m1 cz
      generalize orO zs = O at n2 n8 n10 m3
      generalize andO xs = Ax at n4 n5
      generalize andO ys = Ay at n3 n5
      generalize orO xs = Ox at n7 n8
      generalize orO ys = Oy at n6 n8
      simp only [outs, List.map_cons, List.map_nil, Outv.enc] at n5 n8 m1 m3
      repeat' (first
          | (with_reducible refine a_seq_k ?_; intro K hK)
          | (with_reducible refine a_region (by kernel_rfl) ?_; simp (maxSteps := 10000000) (implicitDefEqProofs := false) only [go_sem, Outv.enc,  ↓reduceIte, reduceCtorEq, Nat.reduceAdd, Nat.reduceSub, Nat.reduceLeDiff, Nat.reduceEqDiff, Nat.reduceMul, Nat.reduceLT, Nat.reducePow, Int.reduceEq, Int.reduceLT, Int.reduceLE, Int.reduceGT, Int.reduceGE, Int.reduceAdd, Int.reduceSub, Int.reduceNeg, Int.reduceToNat])
          | (with_reducible refine a_draw mixed (by kernel_rfl) ?_; intro C hC; simp (maxSteps := 10000000) (implicitDefEqProofs := false) only [go_sem, Outv.enc,  ↓reduceIte, reduceCtorEq, Nat.reduceAdd, Nat.reduceSub, Nat.reduceLeDiff, Nat.reduceEqDiff, Nat.reduceMul, Nat.reduceLT, Nat.reducePow, Int.reduceEq, Int.reduceLT, Int.reduceLE, Int.reduceGT, Int.reduceGE, Int.reduceAdd, Int.reduceSub, Int.reduceNeg, Int.reduceToNat])
          | with_reducible refine a_block ?_
          | with_reducible refine a_ret ?_
          | with_reducible refine a_exit ?_
          | with_reducible refine a_skip ?_
          | (with_reducible refine a_cond_k ?_; intro X Y hX hY; simp (maxSteps := 10000000) (implicitDefEqProofs := false) only [go_sem, Outv.enc,  ↓reduceIte, reduceCtorEq, Nat.reduceAdd, Nat.reduceSub, Nat.reduceLeDiff, Nat.reduceEqDiff, Nat.reduceMul, Nat.reduceLT, Nat.reducePow, Int.reduceEq, Int.reduceLT, Int.reduceLE, Int.reduceGT, Int.reduceGE, Int.reduceAdd, Int.reduceSub, Int.reduceNeg, Int.reduceToNat])
          | with_reducible exact ConfOk.mk (by kernel_rfl)
          | (with_reducible refine eqT_of (eq33 _ _ _ _ _ _) ?_; simp)
          | (with_reducible refine eqT_of (eq35 _ _ _ _ _ _ _ _) ?_; simp)
          | (with_reducible refine RetOk.mk ?_; simp (maxSteps := 10000000) (implicitDefEqProofs := false) only [go_sem, Outv.enc,  ↓reduceIte, reduceCtorEq, Nat.reduceAdd, Nat.reduceSub, Nat.reduceLeDiff, Nat.reduceEqDiff, Nat.reduceMul, Nat.reduceLT, Nat.reducePow, Int.reduceEq, Int.reduceLT, Int.reduceLE, Int.reduceGT, Int.reduceGE, Int.reduceAdd, Int.reduceSub, Int.reduceNeg, Int.reduceToNat])
          | (with_reducible refine CallS.intro (n1) ?_; simp (maxSteps := 10000000) (implicitDefEqProofs := false) only [go_sem, Outv.enc,  ↓reduceIte, reduceCtorEq, Nat.reduceAdd, Nat.reduceSub, Nat.reduceLeDiff, Nat.reduceEqDiff, Nat.reduceMul, Nat.reduceLT, Nat.reducePow, Int.reduceEq, Int.reduceLT, Int.reduceLE, Int.reduceGT, Int.reduceGE, Int.reduceAdd, Int.reduceSub, Int.reduceNeg, Int.reduceToNat])
          | (with_reducible refine CallD.intro (n1) ?_; simp (maxSteps := 10000000) (implicitDefEqProofs := false) only [go_sem, Outv.enc,  ↓reduceIte, reduceCtorEq, Nat.reduceAdd, Nat.reduceSub, Nat.reduceLeDiff, Nat.reduceEqDiff, Nat.reduceMul, Nat.reduceLT, Nat.reducePow, Int.reduceEq, Int.reduceLT, Int.reduceLE, Int.reduceGT, Int.reduceGE, Int.reduceAdd, Int.reduceSub, Int.reduceNeg, Int.reduceToNat])
          | (with_reducible refine CallS.intro (n2) ?_; simp (maxSteps := 10000000) (implicitDefEqProofs := false) only [go_sem, Outv.enc,  ↓reduceIte, reduceCtorEq, Nat.reduceAdd, Nat.reduceSub, Nat.reduceLeDiff, Nat.reduceEqDiff, Nat.reduceMul, Nat.reduceLT, Nat.reducePow, Int.reduceEq, Int.reduceLT, Int.reduceLE, Int.reduceGT, Int.reduceGE, Int.reduceAdd, Int.reduceSub, Int.reduceNeg, Int.reduceToNat])
          | (with_reducible refine CallD.intro (n2) ?_; simp (maxSteps := 10000000) (implicitDefEqProofs := false) only [go_sem, Outv.enc,  ↓reduceIte, reduceCtorEq, Nat.reduceAdd, Nat.reduceSub, Nat.reduceLeDiff, Nat.reduceEqDiff, Nat.reduceMul, Nat.reduceLT, Nat.reducePow, Int.reduceEq, Int.reduceLT, Int.reduceLE, Int.reduceGT, Int.reduceGE, Int.reduceAdd, Int.reduceSub, Int.reduceNeg, Int.reduceToNat])
          | (with_reducible refine CallS.intro (n3) ?_; simp (maxSteps := 10000000) (implicitDefEqProofs := false) only [go_sem, Outv.enc,  ↓reduceIte, reduceCtorEq, Nat.reduceAdd, Nat.reduceSub, Nat.reduceLeDiff, Nat.reduceEqDiff, Nat.reduceMul, Nat.reduceLT, Nat.reducePow, Int.reduceEq, Int.reduceLT, Int.reduceLE, Int.reduceGT, Int.reduceGE, Int.reduceAdd, Int.reduceSub, Int.reduceNeg, Int.reduceToNat])
          | (with_reducible refine CallD.intro (n3) ?_; simp (maxSteps := 10000000) (implicitDefEqProofs := false) only [go_sem, Outv.enc,  ↓reduceIte, reduceCtorEq, Nat.reduceAdd, Nat.reduceSub, Nat.reduceLeDiff, Nat.reduceEqDiff, Nat.reduceMul, Nat.reduceLT, Nat.reducePow, Int.reduceEq, Int.reduceLT, Int.reduceLE, Int.reduceGT, Int.reduceGE, Int.reduceAdd, Int.reduceSub, Int.reduceNeg, Int.reduceToNat])
          | (with_reducible refine CallS.intro (n4) ?_; simp (maxSteps := 10000000) (implicitDefEqProofs := false) only [go_sem, Outv.enc,  ↓reduceIte, reduceCtorEq, Nat.reduceAdd, Nat.reduceSub, Nat.reduceLeDiff, Nat.reduceEqDiff, Nat.reduceMul, Nat.reduceLT, Nat.reducePow, Int.reduceEq, Int.reduceLT, Int.reduceLE, Int.reduceGT, Int.reduceGE, Int.reduceAdd, Int.reduceSub, Int.reduceNeg, Int.reduceToNat])
          | (with_reducible refine CallD.intro (n4) ?_; simp (maxSteps := 10000000) (implicitDefEqProofs := false) only [go_sem, Outv.enc,  ↓reduceIte, reduceCtorEq, Nat.reduceAdd, Nat.reduceSub, Nat.reduceLeDiff, Nat.reduceEqDiff, Nat.reduceMul, Nat.reduceLT, Nat.reducePow, Int.reduceEq, Int.reduceLT, Int.reduceLE, Int.reduceGT, Int.reduceGE, Int.reduceAdd, Int.reduceSub, Int.reduceNeg, Int.reduceToNat])
          | (with_reducible refine CallS.intro (n5) ?_; simp (maxSteps := 10000000) (implicitDefEqProofs := false) only [go_sem, Outv.enc,  ↓reduceIte, reduceCtorEq, Nat.reduceAdd, Nat.reduceSub, Nat.reduceLeDiff, Nat.reduceEqDiff, Nat.reduceMul, Nat.reduceLT, Nat.reducePow, Int.reduceEq, Int.reduceLT, Int.reduceLE, Int.reduceGT, Int.reduceGE, Int.reduceAdd, Int.reduceSub, Int.reduceNeg, Int.reduceToNat])
          | (with_reducible refine CallD.intro (n5) ?_; simp (maxSteps := 10000000) (implicitDefEqProofs := false) only [go_sem, Outv.enc,  ↓reduceIte, reduceCtorEq, Nat.reduceAdd, Nat.reduceSub, Nat.reduceLeDiff, Nat.reduceEqDiff, Nat.reduceMul, Nat.reduceLT, Nat.reducePow, Int.reduceEq, Int.reduceLT, Int.reduceLE, Int.reduceGT, Int.reduceGE, Int.reduceAdd, Int.reduceSub, Int.reduceNeg, Int.reduceToNat])
          | (with_reducible refine CallS.intro (n6) ?_; simp (maxSteps := 10000000) (implicitDefEqProofs := false) only [go_sem, Outv.enc,  ↓reduceIte, reduceCtorEq, Nat.reduceAdd, Nat.reduceSub, Nat.reduceLeDiff, Nat.reduceEqDiff, Nat.reduceMul, Nat.reduceLT, Nat.reducePow, Int.reduceEq, Int.reduceLT, Int.reduceLE, Int.reduceGT, Int.reduceGE, Int.reduceAdd, Int.reduceSub, Int.reduceNeg, Int.reduceToNat])
          | (with_reducible refine CallD.intro (n6) ?_; simp (maxSteps := 10000000) (implicitDefEqProofs := false) only [go_sem, Outv.enc,  ↓reduceIte, reduceCtorEq, Nat.reduceAdd, Nat.reduceSub, Nat.reduceLeDiff, Nat.reduceEqDiff, Nat.reduceMul, Nat.reduceLT, Nat.reducePow, Int.reduceEq, Int.reduceLT, Int.reduceLE, Int.reduceGT, Int.reduceGE, Int.reduceAdd, Int.reduceSub, Int.reduceNeg, Int.reduceToNat])
          | (with_reducible refine CallS.intro (n7) ?_; simp (maxSteps := 10000000) (implicitDefEqProofs := false) only [go_sem, Outv.enc,  ↓reduceIte, reduceCtorEq, Nat.reduceAdd, Nat.reduceSub, Nat.reduceLeDiff, Nat.reduceEqDiff, Nat.reduceMul, Nat.reduceLT, Nat.reducePow, Int.reduceEq, Int.reduceLT, Int.reduceLE, Int.reduceGT, Int.reduceGE, Int.reduceAdd, Int.reduceSub, Int.reduceNeg, Int.reduceToNat])
          | (with_reducible refine CallD.intro (n7) ?_; simp (maxSteps := 10000000) (implicitDefEqProofs := false) only [go_sem, Outv.enc,  ↓reduceIte, reduceCtorEq, Nat.reduceAdd, Nat.reduceSub, Nat.reduceLeDiff, Nat.reduceEqDiff, Nat.reduceMul, Nat.reduceLT, Nat.reducePow, Int.reduceEq, Int.reduceLT, Int.reduceLE, Int.reduceGT, Int.reduceGE, Int.reduceAdd, Int.reduceSub, Int.reduceNeg, Int.reduceToNat])
          | (with_reducible refine CallS.intro (n8) ?_; simp (maxSteps := 10000000) (implicitDefEqProofs := false) only [go_sem, Outv.enc,  ↓reduceIte, reduceCtorEq, Nat.reduceAdd, Nat.reduceSub, Nat.reduceLeDiff, Nat.reduceEqDiff, Nat.reduceMul, Nat.reduceLT, Nat.reducePow, Int.reduceEq, Int.reduceLT, Int.reduceLE, Int.reduceGT, Int.reduceGE, Int.reduceAdd, Int.reduceSub, Int.reduceNeg, Int.reduceToNat])
          | (with_reducible refine CallD.intro (n8) ?_; simp (maxSteps := 10000000) (implicitDefEqProofs := false) only [go_sem, Outv.enc,  ↓reduceIte, reduceCtorEq, Nat.reduceAdd, Nat.reduceSub, Nat.reduceLeDiff, Nat.reduceEqDiff, Nat.reduceMul, Nat.reduceLT, Nat.reducePow, Int.reduceEq, Int.reduceLT, Int.reduceLE, Int.reduceGT, Int.reduceGE, Int.reduceAdd, Int.reduceSub, Int.reduceNeg, Int.reduceToNat])
          | (with_reducible refine CallS.intro (t0) ?_; simp (maxSteps := 10000000) (implicitDefEqProofs := false) only [go_sem, Outv.enc,  ↓reduceIte, reduceCtorEq, Nat.reduceAdd, Nat.reduceSub, Nat.reduceLeDiff, Nat.reduceEqDiff, Nat.reduceMul, Nat.reduceLT, Nat.reducePow, Int.reduceEq, Int.reduceLT, Int.reduceLE, Int.reduceGT, Int.reduceGE, Int.reduceAdd, Int.reduceSub, Int.reduceNeg, Int.reduceToNat])
          | (with_reducible refine CallD.intro (t0) ?_; simp (maxSteps := 10000000) (implicitDefEqProofs := false) only [go_sem, Outv.enc,  ↓reduceIte, reduceCtorEq, Nat.reduceAdd, Nat.reduceSub, Nat.reduceLeDiff, Nat.reduceEqDiff, Nat.reduceMul, Nat.reduceLT, Nat.reducePow, Int.reduceEq, Int.reduceLT, Int.reduceLE, Int.reduceGT, Int.reduceGE, Int.reduceAdd, Int.reduceSub, Int.reduceNeg, Int.reduceToNat])
          | (with_reducible refine CallS.intro (n9) ?_; simp (maxSteps := 10000000) (implicitDefEqProofs := false) only [go_sem, Outv.enc,  ↓reduceIte, reduceCtorEq, Nat.reduceAdd, Nat.reduceSub, Nat.reduceLeDiff, Nat.reduceEqDiff, Nat.reduceMul, Nat.reduceLT, Nat.reducePow, Int.reduceEq, Int.reduceLT, Int.reduceLE, Int.reduceGT, Int.reduceGE, Int.reduceAdd, Int.reduceSub, Int.reduceNeg, Int.reduceToNat])
          | (with_reducible refine CallD.intro (n9) ?_; simp (maxSteps := 10000000) (implicitDefEqProofs := false) only [go_sem, Outv.enc,  ↓reduceIte, reduceCtorEq, Nat.reduceAdd, Nat.reduceSub, Nat.reduceLeDiff, Nat.reduceEqDiff, Nat.reduceMul, Nat.reduceLT, Nat.reducePow, Int.reduceEq, Int.reduceLT, Int.reduceLE, Int.reduceGT, Int.reduceGE, Int.reduceAdd, Int.reduceSub, Int.reduceNeg, Int.reduceToNat])
          | (with_reducible refine CallS.intro (n10) ?_; simp (maxSteps := 10000000) (implicitDefEqProofs := false) only [go_sem, Outv.enc,  ↓reduceIte, reduceCtorEq, Nat.reduceAdd, Nat.reduceSub, Nat.reduceLeDiff, Nat.reduceEqDiff, Nat.reduceMul, Nat.reduceLT, Nat.reducePow, Int.reduceEq, Int.reduceLT, Int.reduceLE, Int.reduceGT, Int.reduceGE, Int.reduceAdd, Int.reduceSub, Int.reduceNeg, Int.reduceToNat])
          | (with_reducible refine CallD.intro (n10) ?_; simp (maxSteps := 10000000) (implicitDefEqProofs := false) only [go_sem, Outv.enc,  ↓reduceIte, reduceCtorEq, Nat.reduceAdd, Nat.reduceSub, Nat.reduceLeDiff, Nat.reduceEqDiff, Nat.reduceMul, Nat.reduceLT, Nat.reducePow, Int.reduceEq, Int.reduceLT, Int.reduceLE, Int.reduceGT, Int.reduceGE, Int.reduceAdd, Int.reduceSub, Int.reduceNeg, Int.reduceToNat])
          | (with_reducible refine CallS.intro (m1) ?_; simp (maxSteps := 10000000) (implicitDefEqProofs := false) only [go_sem, Outv.enc,  ↓reduceIte, reduceCtorEq, Nat.reduceAdd, Nat.reduceSub, Nat.reduceLeDiff, Nat.reduceEqDiff, Nat.reduceMul, Nat.reduceLT, Nat.reducePow, Int.reduceEq, Int.reduceLT, Int.reduceLE, Int.reduceGT, Int.reduceGE, Int.reduceAdd, Int.reduceSub, Int.reduceNeg, Int.reduceToNat])
          | (with_reducible refine CallD.intro (m1) ?_; simp (maxSteps := 10000000) (implicitDefEqProofs := false) only [go_sem, Outv.enc,  ↓reduceIte, reduceCtorEq, Nat.reduceAdd, Nat.reduceSub, Nat.reduceLeDiff, Nat.reduceEqDiff, Nat.reduceMul, Nat.reduceLT, Nat.reducePow, Int.reduceEq, Int.reduceLT, Int.reduceLE, Int.reduceGT, Int.reduceGE, Int.reduceAdd, Int.reduceSub, Int.reduceNeg, Int.reduceToNat])
          | (with_reducible refine CallS.intro (m2) ?_; simp (maxSteps := 10000000) (implicitDefEqProofs := false) only [go_sem, Outv.enc,  ↓reduceIte, reduceCtorEq, Nat.reduceAdd, Nat.reduceSub, Nat.reduceLeDiff, Nat.reduceEqDiff, Nat.reduceMul, Nat.reduceLT, Nat.reducePow, Int.reduceEq, Int.reduceLT, Int.reduceLE, Int.reduceGT, Int.reduceGE, Int.reduceAdd, Int.reduceSub, Int.reduceNeg, Int.reduceToNat])
          | (with_reducible refine CallD.intro (m2) ?_; simp (maxSteps := 10000000) (implicitDefEqProofs := false) only [go_sem, Outv.enc,  ↓reduceIte, reduceCtorEq, Nat.reduceAdd, Nat.reduceSub, Nat.reduceLeDiff, Nat.reduceEqDiff, Nat.reduceMul, Nat.reduceLT, Nat.reducePow, Int.reduceEq, Int.reduceLT, Int.reduceLE, Int.reduceGT, Int.reduceGE, Int.reduceAdd, Int.reduceSub, Int.reduceNeg, Int.reduceToNat])
          | (with_reducible refine CallS.intro (m3) ?_; simp (maxSteps := 10000000) (implicitDefEqProofs := false) only [go_sem, Outv.enc,  ↓reduceIte, reduceCtorEq, Nat.reduceAdd, Nat.reduceSub, Nat.reduceLeDiff, Nat.reduceEqDiff, Nat.reduceMul, Nat.reduceLT, Nat.reducePow, Int.reduceEq, Int.reduceLT, Int.reduceLE, Int.reduceGT, Int.reduceGE, Int.reduceAdd, Int.reduceSub, Int.reduceNeg, Int.reduceToNat])
          | (with_reducible refine CallD.intro (m3) ?_; simp (maxSteps := 10000000) (implicitDefEqProofs := false) only [go_sem, Outv.enc,  ↓reduceIte, reduceCtorEq, Nat.reduceAdd, Nat.reduceSub, Nat.reduceLeDiff, Nat.reduceEqDiff, Nat.reduceMul, Nat.reduceLT, Nat.reducePow, Int.reduceEq, Int.reduceLT, Int.reduceLE, Int.reduceGT, Int.reduceGE, Int.reduceAdd, Int.reduceSub, Int.reduceNeg, Int.reduceToNat])
          | (with_reducible refine CallS.intro (m4) ?_; simp (maxSteps := 10000000) (implicitDefEqProofs := false) only [go_sem, Outv.enc,  ↓reduceIte, reduceCtorEq, Nat.reduceAdd, Nat.reduceSub, Nat.reduceLeDiff, Nat.reduceEqDiff, Nat.reduceMul, Nat.reduceLT, Nat.reducePow, Int.reduceEq, Int.reduceLT, Int.reduceLE, Int.reduceGT, Int.reduceGE, Int.reduceAdd, Int.reduceSub, Int.reduceNeg, Int.reduceToNat])
          | (with_reducible refine CallD.intro (m4) ?_; simp (maxSteps := 10000000) (implicitDefEqProofs := false) only [go_sem, Outv.enc,  ↓reduceIte, reduceCtorEq, Nat.reduceAdd, Nat.reduceSub, Nat.reduceLeDiff, Nat.reduceEqDiff, Nat.reduceMul, Nat.reduceLT, Nat.reducePow, Int.reduceEq, Int.reduceLT, Int.reduceLE, Int.reduceGT, Int.reduceGE, Int.reduceAdd, Int.reduceSub, Int.reduceNeg, Int.reduceToNat])
          | (with_reducible refine CallS.intro (cz) ?_; simp (maxSteps := 10000000) (implicitDefEqProofs := false) only [go_sem, Outv.enc,  ↓reduceIte, reduceCtorEq, Nat.reduceAdd, Nat.reduceSub, Nat.reduceLeDiff, Nat.reduceEqDiff, Nat.reduceMul, Nat.reduceLT, Nat.reducePow, Int.reduceEq, Int.reduceLT, Int.reduceLE, Int.reduceGT, Int.reduceGE, Int.reduceAdd, Int.reduceSub, Int.reduceNeg, Int.reduceToNat])
          | (with_reducible refine CallD.intro (cz) ?_; simp (maxSteps := 10000000) (implicitDefEqProofs := false) only [go_sem, Outv.enc,  ↓reduceIte, reduceCtorEq, Nat.reduceAdd, Nat.reduceSub, Nat.reduceLeDiff, Nat.reduceEqDiff, Nat.reduceMul, Nat.reduceLT, Nat.reducePow, Int.reduceEq, Int.reduceLT, Int.reduceLE, Int.reduceGT, Int.reduceGE, Int.reduceAdd, Int.reduceSub, Int.reduceNeg, Int.reduceToNat])
          | (with_reducible refine CallS.intro (ref_oSame _ _ _ _ _ _ _ _) ?_; simp (maxSteps := 10000000) (implicitDefEqProofs := false) only [go_sem, Outv.enc,  ↓reduceIte, reduceCtorEq, Nat.reduceAdd, Nat.reduceSub, Nat.reduceLeDiff, Nat.reduceEqDiff, Nat.reduceMul, Nat.reduceLT, Nat.reducePow, Int.reduceEq, Int.reduceLT, Int.reduceLE, Int.reduceGT, Int.reduceGE, Int.reduceAdd, Int.reduceSub, Int.reduceNeg, Int.reduceToNat])
          | (with_reducible refine CallD.intro (ref_oSame _ _ _ _ _ _ _ _) ?_; simp (maxSteps := 10000000) (implicitDefEqProofs := false) only [go_sem, Outv.enc,  ↓reduceIte, reduceCtorEq, Nat.reduceAdd, Nat.reduceSub, Nat.reduceLeDiff, Nat.reduceEqDiff, Nat.reduceMul, Nat.reduceLT, Nat.reducePow, Int.reduceEq, Int.reduceLT, Int.reduceLE, Int.reduceGT, Int.reduceGE, Int.reduceAdd, Int.reduceSub, Int.reduceNeg, Int.reduceToNat])
          | (with_reducible refine CallS.intro (law_awake) ?_; simp (maxSteps := 10000000) (implicitDefEqProofs := false) only [go_sem, Outv.enc,  ↓reduceIte, reduceCtorEq, Nat.reduceAdd, Nat.reduceSub, Nat.reduceLeDiff, Nat.reduceEqDiff, Nat.reduceMul, Nat.reduceLT, Nat.reducePow, Int.reduceEq, Int.reduceLT, Int.reduceLE, Int.reduceGT, Int.reduceGE, Int.reduceAdd, Int.reduceSub, Int.reduceNeg, Int.reduceToNat])
          | (with_reducible refine CallD.intro (law_awake) ?_; simp (maxSteps := 10000000) (implicitDefEqProofs := false) only [go_sem, Outv.enc,  ↓reduceIte, reduceCtorEq, Nat.reduceAdd, Nat.reduceSub, Nat.reduceLeDiff, Nat.reduceEqDiff, Nat.reduceMul, Nat.reduceLT, Nat.reducePow, Int.reduceEq, Int.reduceLT, Int.reduceLE, Int.reduceGT, Int.reduceGE, Int.reduceAdd, Int.reduceSub, Int.reduceNeg, Int.reduceToNat])
          | ((fail_if_success with_reducible show False); with_reducible apply_assumption (exfalso := false) (symm := false) only [*, rfl, trivial, congrArg])
          | with_reducible refine And.intro ?_ ?_
          | (intro h; contradiction)
          | (intro h; subst h)
          | intro h
          | simp (maxSteps := 10000000) (implicitDefEqProofs := false) only [go_sem, Outv.enc,  ↓reduceIte, reduceCtorEq, Nat.reduceAdd, Nat.reduceSub, Nat.reduceLeDiff, Nat.reduceEqDiff, Nat.reduceMul, Nat.reduceLT, Nat.reducePow, Int.reduceEq, Int.reduceLT, Int.reduceLE, Int.reduceGT, Int.reduceGE, Int.reduceAdd, Int.reduceSub, Int.reduceNeg, Int.reduceToNat])
end
set_option maxRecDepth 100000 in
theorem calcChainsUpto_returns (os : Os) (started : os.Started) (H : Type) (enc : TypeId × Value → H) (F : Stop.Interp) :
    ReturnsInHanded {} Tryd.checked os 8 .any (Rows.calcChainsUptoRow.pre enc Tryd.prog Tryd.f8 (Rows.OpenSpec.upto Rows.calcChainsSpec)) (((Rows.OpenSpec.upto Rows.calcChainsSpec).at F).post enc Tryd.prog Tryd.f8 false true false false) := by
  refine law_returns (C := Tryd.checked) (fn := Tryd.f8) (s := (Rows.OpenSpec.upto Rows.calcChainsSpec)) (c := Rows.calcChainsUptoRow) (F := F) (tb := 4) (K := fun ds gs => Rows.uptoSmall H (ds ++ gs) = true ∧ (DataW.weightsEach Tryd.prog (Tryd.f8.params.toList ++ (Rows.OpenSpec.upto Rows.calcChainsSpec).bare.plain.varTypes Tryd.prog) (ds ++ gs)).all (· ≤ reachBytes) = true) (fun w args h => upto_pre rfl h) seatOwn started (by kernel_rfl) Tryd.func8 seatLaidOut (by kernel_rfl) (by kernel_rfl) (by kernel_rfl) rfl ?_ ?_
  · exact law_witness (P := Tryd.prog) rfl rfl rfl #[.slice none 0 0, .slice none 0 0] 8 (y := ([.nil, .nil], [], [])) (World.shaped_of_ZipB (by kernel_rfl) (by kernel_rfl)) (by kernel_rfl) (by kernel_rfl) (fun k hk => by cases hk; rfl) (by kernel_rfl)
      (by rw [MakeChecks.laidMetH_plain _ _ _ (by kernel_rfl)]; exact laidMet_laidAll _ (by kernel_rfl) (by kernel_rfl))
  · intro W base args ds gs before hval0 hW hK
    have hval : ∀ (j : Nat) t v, Tryd.f8.params[j]? = some t → args[j]? = some v → Value.okWide Tryd.prog W .any base t v := hval0
    obtain ⟨p, q, hA0, hV, rfl, _, _⟩ := hW
    have hA : DataW.TrodAll enc Tryd.prog W 0 (fun _ => true) true Tryd.f8.params.toList args.toList ds p := hA0
    rw [Tryd.params8] at hA hval
    have hw := hK.2
    rw [Tryd.params8] at hw
    obtain ⟨v0, v1, d0, d1, p0, p1, rfl, rfl, rfl, h0, h1⟩ := ChangeShapes.trodAll_two hA
    obtain ⟨rfl, rfl⟩ := ChangeShapes.trodVars_none hV
    obtain ⟨w0, w1⟩ := weights_two hw
    obtain ⟨xs0, ty0, r0⟩ := open_arg (n := 9) (T := .slice 4 ttO) (by kernel_rfl) (hval 0 30 v0 rfl rfl) h0 w0
    obtain ⟨xs1, ty1, r1⟩ := open_arg (n := 9) (T := .slice 4 ttO) (by kernel_rfl) (hval 1 30 v1 rfl rfl) h1 w1
    obtain ⟨x, rfl, hx, lx⟩ := ty_list Outv.enc Outv.In (fun d e h => ty_out d e h) ty0
    obtain ⟨y, rfl, hy, ly⟩ := ty_list Outv.enc Outv.In (fun d e h => ty_out d e h) ty1
    have nx : x.length ≤ 1048576 := by
      have h2 := (uptoSmall_two hK.1).1
      have h3 := uptoBulk_slice ty0
      simp only [List.length_map] at h3
      omega
    have ny : y.length ≤ 1048576 := by
      have h2 := (uptoSmall_two hK.1).2
      have h3 := uptoBulk_slice ty1
      simp only [List.length_map] at h3
      omega
    exact ⟨rfl, calls_of_acalls (law_chains x y hx hy nx ny) (.cons r0 (.cons r1 .nil))⟩
theorem calcChainsUpto_holds : Rows.CalcChainsUptoSaid :=
  OpenClaim.holds_of_cond 8 Tryd.f8 rfl rfl rfl rfl rfl rfl rfl ⟨rfl, rfl, rfl, rfl, rfl⟩ rfl rfl rfl rfl rfl (by kernel_rfl) Tryd.func8 (by kernel_rfl)
    (of_decide_eq_true (by kernel_rfl)) (by unfold Func.isWrapper; first | (rw [if_pos (by decide +kernel)]; kernel_rfl) | (rw [if_neg (by decide +kernel)]; exact ⟨rfl, rfl⟩))
    (fun os started H enc _ F => calcChainsUpto_returns os started H enc F)
theorem calcChains_card : Rows.CalcChainsUptoCardSaid :=
  Claim7.holds_tied_plain_at .later [] [.data, .pinned] true (true, "bd67f24882592499edb56b6875a22e02bd77f63e18e8888de302a9fcdb1261f8") false
    calcChainsUpto_holds (fun _ h => by cases h) (by kernel_rfl) (fun _ h => by cases h) calcChainsUpto_row_tie rfl ⟨rfl, rfl⟩ (by kernel_rfl) rfl
    (fun f fn hf hfn => by
      obtain rfl : f = 8 := Option.some.inj ((show Tryd.prog.funcNamed "jointer/jointerlaw05.CalcChains" = some 8 by kernel_rfl).symm.trans hf) |>.symm
      obtain rfl : fn = Tryd.f8 := (Option.some.inj (Tryd.func8.symm.trans hfn)).symm
      refine ⟨by kernel_rfl, fun j t ht => ?_⟩
      rw [Tryd.params8] at ht
      match j, ht with
      | 0, ht => cases ht; exact (show Tryd.prog.wantsStandIn 30 = false by kernel_rfl)
      | 1, ht => cases ht; exact (show Tryd.prog.wantsStandIn 30 = false by kernel_rfl)
      | n + 2, ht => simp at ht)
    (by kernel_rfl)
#print axioms calcChains_card
end Go.Proofs.YtmlaogjndaeihaaDoor

