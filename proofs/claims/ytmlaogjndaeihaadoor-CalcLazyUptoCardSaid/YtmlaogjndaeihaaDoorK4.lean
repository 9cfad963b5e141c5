/- CalcLazy: what stands behind the kid that decides a CASE or a COALESCE does not count; for arguments of bulk at most 1048576. -/
import Derived.Test.YtmlaogjndaeihaaDoorC1
import Derived.Test.YtmlaogjndaeihaaDoorT16
import Derived.Test.YtmlaogjndaeihaaDoorL4
namespace Go.Proofs.YtmlaogjndaeihaaDoor
open Go Go.Ab
section
attribute [local go_sem ↓] parts_tt parts_ff parts_tf parts_ft
attribute [local go_sem] parts_eq learnT aops_nil aops_cons aopsD_nil aopsD_cons stepS stepD gval St.learn skipR St.after putτ applyUpd List.foldl_cons List.foldl_nil pureOp memOp callOf opnd ofConst leaf binA unA lenA indexA indexAddrA fieldAddrA fieldA sliceA convertA pickV fillA placeS cellsA setA partA loadM storeM appendM srcEls lookBox lookRow lookMap closeL closeV scalarB scalarL killed buildEls lookupA leafEq eqAll resA resL tupA retA thenA blockA isInt loA hiA foldA maxA minA okSize leafB closedB Res.foot List.getD_cons_zero List.getD_cons_succ List.set_cons_zero List.set_cons_succ List.map_cons List.map_nil List.append_nil List.nil_append List.cons_append List.length_cons List.length_nil List.take_succ_cons List.take_zero List.drop_succ_cons List.drop_zero List.take_nil List.drop_nil List.all_cons List.all_nil List.getElem?_toArray List.getElem?_cons_zero List.getElem?_cons_succ Option.bind_some Option.map_some true_and and_true true_implies ne_eq not_true_eq_false not_false_eq_true Bool.true_eq_false Bool.false_eq_true Bool.not_true Bool.not_false decide_eq_true_eq decide_eq_false_iff_not false_implies implies_true and_self ite_true ite_false cond_true cond_false Option.some.injEq List.reverse_cons List.reverse_nil Bool.and_self Bool.true_and Bool.and_true Bool.false_and Bool.and_false Bool.or_true Bool.true_or Bool.or_false Bool.false_or Bool.not_eq_eq_eq_not Bool.not_not Bool.or_self beq_self_eq_true and_false false_and or_true true_or or_false false_or not_true not_false_iff Decidable.not_not lookT lookR tabT tabR Int.toNat_natCast List.length_map List.map_append List.length_append decide_true decide_false tmod2 List.mem_singleton forall_eq elOk1 elOk3 elOk4 castn0 castn1 castn2 castn3 getD_mid getD_mid_map at_lt at_end mid_lt mid_lt' nat_ge List.size_toArray Array.size_empty Nat.add_zero Nat.zero_add
attribute [local irreducible] ASpec ACalls retA ti EqT
set_option linter.unusedSimpArgs false
set_option maxHeartbeats 4000000
set_option maxRecDepth 100000
set_option linter.unusedVariables false
attribute [local go_sem] ti2 ti3 ti4 ti5 ti9 ti21 ti22 ti23 ti24 ti25 ti30 ti33 ti35 ti41 ti44 ti45 ti46 ti49 ti56 ti62 ti66 ti81 ti89 ti93 ti96 ti99 ti116
theorem node_coalesce (os : List Outv) (hl : os.length < 2 ^ 40) : ACalls Tryd.prog 15 [.int .u8 26, outs os] (.agg (nodeC 26 os nullO).enc) :=
  calc_Node 26 os nullO hl (fun hs => absurd rfl hs.2.2.2.2.2.1)
theorem node_case (os : List Outv) (hl : os.length < 2 ^ 40) : ACalls Tryd.prog 15 [.int .u8 25, outs os] (.agg (nodeC 25 os nullO).enc) :=
  calc_Node 25 os nullO hl (fun hs => absurd rfl hs.2.2.2.2.1)
theorem wrap_nat' (n : Nat) (h : n < 2 ^ 62) : IntKind.i64.wrap (n : Int) = n := by
  have e : IntKind.i64.wrap (n : Int) = (if (true && decide ((n : Int) % 18446744073709551616 ≥ 9223372036854775808)) = true then (n : Int) % 18446744073709551616 - 18446744073709551616 else (n : Int) % 18446744073709551616) := rfl
  rw [e]
  simp only [Bool.true_and, decide_eq_true_eq]
  split <;> omega
theorem take_pre (ks : List Outv) (L : List (List AV)) : List.take ks.length (List.map Outv.enc ks ++ L) = List.map Outv.enc ks := by simp
theorem getD_two (ks : List Outv) (a b : List AV) : (List.map Outv.enc ks ++ [a, b]).getD (ks.length + 1) [] = b := by simp [List.getD_eq_getElem?_getD, List.getElem?_append]
/-- The first half: both ways to the code behind it. -/
theorem law_lazy (xs ys : List Outv) (nx : xs.length ≤ 1048576) (ny : ys.length ≤ 1048576) : ACalls Tryd.prog 5 [outs xs, outs ys] (.bool true) := by
  have c1 := node_coalesce xs (by omega)
  have c2 := node_coalesce (xs ++ ys) (by simp; omega)
  have hL := lazy_first xs ys
  generalize nodeC 26 xs nullO = a at c1 hL
  generalize nodeC 26 (xs ++ ys) nullO = b at c2 hL
  simp only [outs, List.map_append] at c2
  have hB : a.err ≠ 1 → b.err ≠ 1 → (a.err ≠ 0 ∨ a.v.kind ≠ 0) → (decide (a.err = b.err) && (decide (a.v.kind = b.v.kind) && (decide (a.v.int = b.v.int) && decide (a.v.text = b.v.text)))) = true := fun h1 h2 h3 => by
    rw [hL h1 h2 h3]; simp
  clear hL
  refine acalls_k Tryd.func5 rfl (by kernel_rfl) (congrArg Array.toList Tryd.results5) Tryd.ntmps5 ?_
  intro R hR
  simp only [st0, List.length_cons, List.length_nil, Nat.reduceAdd, Nat.reduceSub, List.replicate_succ, List.replicate_zero, List.cons_append, List.nil_append]
  repeat' (first
      | (with_reducible refine a_seq_reg ?_; intro K hK)
      | (with_reducible refine a_region (by kernel_rfl) ?_; simp (maxSteps := 10000000) (implicitDefEqProofs := false) only [go_sem, Outv.enc, all_outs,  ↓reduceIte, reduceCtorEq, Nat.reduceAdd, Nat.reduceSub, Nat.reduceLeDiff, Nat.reduceEqDiff, Nat.reduceMul, Nat.reduceLT, Nat.reducePow, Int.reduceEq, Int.reduceLT, Int.reduceLE, Int.reduceGT, Int.reduceGE, Int.reduceAdd, Int.reduceSub, Int.reduceNeg, Int.reduceToNat])
      | (with_reducible refine a_draw mixed (by kernel_rfl) ?_; intro C hC; simp (maxSteps := 10000000) (implicitDefEqProofs := false) only [go_sem, Outv.enc, all_outs,  ↓reduceIte, reduceCtorEq, Nat.reduceAdd, Nat.reduceSub, Nat.reduceLeDiff, Nat.reduceEqDiff, Nat.reduceMul, Nat.reduceLT, Nat.reducePow, Int.reduceEq, Int.reduceLT, Int.reduceLE, Int.reduceGT, Int.reduceGE, Int.reduceAdd, Int.reduceSub, Int.reduceNeg, Int.reduceToNat])
      | with_reducible refine a_block ?_
      | with_reducible refine a_ret ?_
      | with_reducible refine a_exit ?_
      | with_reducible refine a_skip ?_
      | (with_reducible refine a_cond_k ?_; intro X Y hX hY; simp (maxSteps := 10000000) (implicitDefEqProofs := false) only [go_sem, Outv.enc, all_outs,  ↓reduceIte, reduceCtorEq, Nat.reduceAdd, Nat.reduceSub, Nat.reduceLeDiff, Nat.reduceEqDiff, Nat.reduceMul, Nat.reduceLT, Nat.reducePow, Int.reduceEq, Int.reduceLT, Int.reduceLE, Int.reduceGT, Int.reduceGE, Int.reduceAdd, Int.reduceSub, Int.reduceNeg, Int.reduceToNat])
      | with_reducible exact ConfOk.mk (by kernel_rfl)
      | (with_reducible refine eqT_of (eq33 _ _ _ _ _ _) ?_; simp)
      | (with_reducible refine eqT_of (eq35 _ _ _ _ _ _ _ _) ?_; simp)
      | (with_reducible refine RetOk.mk ?_; simp (maxSteps := 10000000) (implicitDefEqProofs := false) only [go_sem, Outv.enc, all_outs,  ↓reduceIte, reduceCtorEq, Nat.reduceAdd, Nat.reduceSub, Nat.reduceLeDiff, Nat.reduceEqDiff, Nat.reduceMul, Nat.reduceLT, Nat.reducePow, Int.reduceEq, Int.reduceLT, Int.reduceLE, Int.reduceGT, Int.reduceGE, Int.reduceAdd, Int.reduceSub, Int.reduceNeg, Int.reduceToNat])
      | (with_reducible refine CallS.intro (c1) ?_; simp (maxSteps := 10000000) (implicitDefEqProofs := false) only [go_sem, Outv.enc, all_outs,  ↓reduceIte, reduceCtorEq, Nat.reduceAdd, Nat.reduceSub, Nat.reduceLeDiff, Nat.reduceEqDiff, Nat.reduceMul, Nat.reduceLT, Nat.reducePow, Int.reduceEq, Int.reduceLT, Int.reduceLE, Int.reduceGT, Int.reduceGE, Int.reduceAdd, Int.reduceSub, Int.reduceNeg, Int.reduceToNat])
      | (with_reducible refine CallD.intro (c1) ?_; simp (maxSteps := 10000000) (implicitDefEqProofs := false) only [go_sem, Outv.enc, all_outs,  ↓reduceIte, reduceCtorEq, Nat.reduceAdd, Nat.reduceSub, Nat.reduceLeDiff, Nat.reduceEqDiff, Nat.reduceMul, Nat.reduceLT, Nat.reducePow, Int.reduceEq, Int.reduceLT, Int.reduceLE, Int.reduceGT, Int.reduceGE, Int.reduceAdd, Int.reduceSub, Int.reduceNeg, Int.reduceToNat])
      | (with_reducible refine CallS.intro (c2) ?_; simp (maxSteps := 10000000) (implicitDefEqProofs := false) only [go_sem, Outv.enc, all_outs,  ↓reduceIte, reduceCtorEq, Nat.reduceAdd, Nat.reduceSub, Nat.reduceLeDiff, Nat.reduceEqDiff, Nat.reduceMul, Nat.reduceLT, Nat.reducePow, Int.reduceEq, Int.reduceLT, Int.reduceLE, Int.reduceGT, Int.reduceGE, Int.reduceAdd, Int.reduceSub, Int.reduceNeg, Int.reduceToNat])
      | (with_reducible refine CallD.intro (c2) ?_; simp (maxSteps := 10000000) (implicitDefEqProofs := false) only [go_sem, Outv.enc, all_outs,  ↓reduceIte, reduceCtorEq, Nat.reduceAdd, Nat.reduceSub, Nat.reduceLeDiff, Nat.reduceEqDiff, Nat.reduceMul, Nat.reduceLT, Nat.reducePow, Int.reduceEq, Int.reduceLT, Int.reduceLE, Int.reduceGT, Int.reduceGE, Int.reduceAdd, Int.reduceSub, Int.reduceNeg, Int.reduceToNat])
      | ((fail_if_success with_reducible show False); with_reducible apply_assumption (exfalso := false) (symm := false) only [*, rfl, trivial, congrArg])
      | with_reducible refine And.intro ?_ ?_
      | (intro h; contradiction)
      | (intro h; subst h)
      | intro h
      | simp (maxSteps := 10000000) (implicitDefEqProofs := false) only [go_sem, Outv.enc, all_outs,  ↓reduceIte, reduceCtorEq, Nat.reduceAdd, Nat.reduceSub, Nat.reduceLeDiff, Nat.reduceEqDiff, Nat.reduceMul, Nat.reduceLT, Nat.reducePow, Int.reduceEq, Int.reduceLT, Int.reduceLE, Int.reduceGT, Int.reduceGE, Int.reduceAdd, Int.reduceSub, Int.reduceNeg, Int.reduceToNat])
  · omega
  · omega
  · omega
  · omega
  refine a_cut (fun st => ∃ (g g' : Nat), (True) ∧ Has st 94 [(0, .slice (xs.map Outv.enc)), (1, .slice (ys.map Outv.enc)), (6, .ptr 6 g 0), (7, .ptr 7 g' 0)] [(6, .box g a.enc), (7, .box g' b.enc)]) (fun K hK => ?_) ?_
  · repeat' (first
        | (with_reducible refine a_seq_k ?_; intro K hK)
        | (with_reducible refine a_region (by kernel_rfl) ?_; simp (maxSteps := 10000000) (implicitDefEqProofs := false) only [go_sem, Outv.enc,  ↓reduceIte, reduceCtorEq, Nat.reduceAdd, Nat.reduceSub, Nat.reduceLeDiff, Nat.reduceEqDiff, Nat.reduceMul, Nat.reduceLT, Nat.reducePow, Int.reduceEq, Int.reduceLT, Int.reduceLE, Int.reduceGT, Int.reduceGE, Int.reduceAdd, Int.reduceSub, Int.reduceNeg, Int.reduceToNat])
        | (with_reducible refine a_draw mixed (by kernel_rfl) ?_; intro C hC; simp (maxSteps := 10000000) (implicitDefEqProofs := false) only [go_sem, Outv.enc,  ↓reduceIte, reduceCtorEq, Nat.reduceAdd, Nat.reduceSub, Nat.reduceLeDiff, Nat.reduceEqDiff, Nat.reduceMul, Nat.reduceLT, Nat.reducePow, Int.reduceEq, Int.reduceLT, Int.reduceLE, Int.reduceGT, Int.reduceGE, Int.reduceAdd, Int.reduceSub, Int.reduceNeg, Int.reduceToNat])
        | with_reducible refine a_block ?_
        | with_reducible refine a_ret ?_
        | with_reducible refine a_exit ?_
        | with_reducible refine a_skip ?_
        | (with_reducible refine a_cond_k ?_; intro X Y hX hY; simp (maxSteps := 10000000) (implicitDefEqProofs := false) only [go_sem, Outv.enc,  ↓reduceIte, reduceCtorEq, Nat.reduceAdd, Nat.reduceSub, Nat.reduceLeDiff, Nat.reduceEqDiff, Nat.reduceMul, Nat.reduceLT, Nat.reducePow, Int.reduceEq, Int.reduceLT, Int.reduceLE, Int.reduceGT, Int.reduceGE, Int.reduceAdd, Int.reduceSub, Int.reduceNeg, Int.reduceToNat])
        | with_reducible exact ConfOk.mk (by kernel_rfl)
        | (with_reducible refine eqT_of (eq33 _ _ _ _ _ _) ?_; simp)
        | (with_reducible refine eqT_of (eq35 _ _ _ _ _ _ _ _) ?_; simp)
        | (with_reducible refine RetOk.mk ?_; simp (maxSteps := 10000000) (implicitDefEqProofs := false) only [go_sem, Outv.enc,  ↓reduceIte, reduceCtorEq, Nat.reduceAdd, Nat.reduceSub, Nat.reduceLeDiff, Nat.reduceEqDiff, Nat.reduceMul, Nat.reduceLT, Nat.reducePow, Int.reduceEq, Int.reduceLT, Int.reduceLE, Int.reduceGT, Int.reduceGE, Int.reduceAdd, Int.reduceSub, Int.reduceNeg, Int.reduceToNat])
        | (with_reducible refine CallS.intro (ref_oSame _ _ _ _ _ _ _ _) ?_; simp (maxSteps := 10000000) (implicitDefEqProofs := false) only [go_sem, Outv.enc,  ↓reduceIte, reduceCtorEq, Nat.reduceAdd, Nat.reduceSub, Nat.reduceLeDiff, Nat.reduceEqDiff, Nat.reduceMul, Nat.reduceLT, Nat.reducePow, Int.reduceEq, Int.reduceLT, Int.reduceLE, Int.reduceGT, Int.reduceGE, Int.reduceAdd, Int.reduceSub, Int.reduceNeg, Int.reduceToNat])
        | (with_reducible refine CallD.intro (ref_oSame _ _ _ _ _ _ _ _) ?_; simp (maxSteps := 10000000) (implicitDefEqProofs := false) only [go_sem, Outv.enc,  ↓reduceIte, reduceCtorEq, Nat.reduceAdd, Nat.reduceSub, Nat.reduceLeDiff, Nat.reduceEqDiff, Nat.reduceMul, Nat.reduceLT, Nat.reducePow, Int.reduceEq, Int.reduceLT, Int.reduceLE, Int.reduceGT, Int.reduceGE, Int.reduceAdd, Int.reduceSub, Int.reduceNeg, Int.reduceToNat])
        | ((fail_if_success with_reducible show False); with_reducible apply_assumption (exfalso := false) (symm := false) only [*, rfl, trivial, congrArg])
        | with_reducible refine And.intro ?_ ?_
        | (intro h; contradiction)
        | (intro h; subst h)
        | intro h
        | simp (maxSteps := 10000000) (implicitDefEqProofs := false) only [go_sem, Outv.enc,  ↓reduceIte, reduceCtorEq, Nat.reduceAdd, Nat.reduceSub, Nat.reduceLeDiff, Nat.reduceEqDiff, Nat.reduceMul, Nat.reduceLT, Nat.reducePow, Int.reduceEq, Int.reduceLT, Int.reduceLE, Int.reduceGT, Int.reduceGE, Int.reduceAdd, Int.reduceSub, Int.reduceNeg, Int.reduceToNat])
    all_goals first
      | exact ⟨⟨4, 5, ⟨rfl, rfl, by simp, by simp⟩⟩⟩
      | (have := hB (by assumption) (by assumption) (by omega); simp_all; done)
      | trace_state
  · rintro st ⟨g, g', _, hs⟩
    refine a_has hs fun τ σ γ => ?_
    clear hB c1 c2
    refine a_cut (fun st => ∃ (g g' : Nat), (xs.length % 2 = 0 ∧ 2 ≤ xs.length) ∧ Has st 94 [(0, .slice (xs.map Outv.enc)), (1, .slice (ys.map Outv.enc)), (6, .ptr 6 g 0), (7, .ptr 7 g' 0)] [(6, .box g a.enc), (7, .box g' b.enc)]) (fun K hK => ?_) ?_
    · repeat' (first
          | (with_reducible refine a_seq_k ?_; intro K hK)
          | (with_reducible refine a_region (by kernel_rfl) ?_; simp (maxSteps := 10000000) (implicitDefEqProofs := false) only [go_sem, Outv.enc,  ↓reduceIte, reduceCtorEq, Nat.reduceAdd, Nat.reduceSub, Nat.reduceLeDiff, Nat.reduceEqDiff, Nat.reduceMul, Nat.reduceLT, Nat.reducePow, Int.reduceEq, Int.reduceLT, Int.reduceLE, Int.reduceGT, Int.reduceGE, Int.reduceAdd, Int.reduceSub, Int.reduceNeg, Int.reduceToNat])
          | (with_reducible refine a_draw mixed (by kernel_rfl) ?_; intro C hC; simp (maxSteps := 10000000) (implicitDefEqProofs := false) only [go_sem, Outv.enc,  ↓reduceIte, reduceCtorEq, Nat.reduceAdd, Nat.reduceSub, Nat.reduceLeDiff, Nat.reduceEqDiff, Nat.reduceMul, Nat.reduceLT, Nat.reducePow, Int.reduceEq, Int.reduceLT, Int.reduceLE, Int.reduceGT, Int.reduceGE, Int.reduceAdd, Int.reduceSub, Int.reduceNeg, Int.reduceToNat])
          | with_reducible refine a_block ?_
          | with_reducible refine a_ret ?_
          | with_reducible refine a_exit ?_
          | with_reducible refine a_skip ?_
          | (with_reducible refine a_cond_k ?_; intro X Y hX hY; simp (maxSteps := 10000000) (implicitDefEqProofs := false) only [go_sem, Outv.enc,  ↓reduceIte, reduceCtorEq, Nat.reduceAdd, Nat.reduceSub, Nat.reduceLeDiff, Nat.reduceEqDiff, Nat.reduceMul, Nat.reduceLT, Nat.reducePow, Int.reduceEq, Int.reduceLT, Int.reduceLE, Int.reduceGT, Int.reduceGE, Int.reduceAdd, Int.reduceSub, Int.reduceNeg, Int.reduceToNat])
          | with_reducible exact ConfOk.mk (by kernel_rfl)
          | (with_reducible refine eqT_of (eq33 _ _ _ _ _ _) ?_; simp)
          | (with_reducible refine eqT_of (eq35 _ _ _ _ _ _ _ _) ?_; simp)
          | (with_reducible refine RetOk.mk ?_; simp (maxSteps := 10000000) (implicitDefEqProofs := false) only [go_sem, Outv.enc,  ↓reduceIte, reduceCtorEq, Nat.reduceAdd, Nat.reduceSub, Nat.reduceLeDiff, Nat.reduceEqDiff, Nat.reduceMul, Nat.reduceLT, Nat.reducePow, Int.reduceEq, Int.reduceLT, Int.reduceLE, Int.reduceGT, Int.reduceGE, Int.reduceAdd, Int.reduceSub, Int.reduceNeg, Int.reduceToNat])
          | (with_reducible refine CallS.intro (law_awake) ?_; simp (maxSteps := 10000000) (implicitDefEqProofs := false) only [go_sem, Outv.enc,  ↓reduceIte, reduceCtorEq, Nat.reduceAdd, Nat.reduceSub, Nat.reduceLeDiff, Nat.reduceEqDiff, Nat.reduceMul, Nat.reduceLT, Nat.reducePow, Int.reduceEq, Int.reduceLT, Int.reduceLE, Int.reduceGT, Int.reduceGE, Int.reduceAdd, Int.reduceSub, Int.reduceNeg, Int.reduceToNat])
          | (with_reducible refine CallD.intro (law_awake) ?_; simp (maxSteps := 10000000) (implicitDefEqProofs := false) only [go_sem, Outv.enc,  ↓reduceIte, reduceCtorEq, Nat.reduceAdd, Nat.reduceSub, Nat.reduceLeDiff, Nat.reduceEqDiff, Nat.reduceMul, Nat.reduceLT, Nat.reducePow, Int.reduceEq, Int.reduceLT, Int.reduceLE, Int.reduceGT, Int.reduceGE, Int.reduceAdd, Int.reduceSub, Int.reduceNeg, Int.reduceToNat])
          | ((fail_if_success with_reducible show False); with_reducible apply_assumption (exfalso := false) (symm := false) only [*, rfl, trivial, congrArg])
          | with_reducible refine And.intro ?_ ?_
          | (intro h; contradiction)
          | (intro h; subst h)
          | intro h
          | simp (maxSteps := 10000000) (implicitDefEqProofs := false) only [go_sem, Outv.enc,  ↓reduceIte, reduceCtorEq, Nat.reduceAdd, Nat.reduceSub, Nat.reduceLeDiff, Nat.reduceEqDiff, Nat.reduceMul, Nat.reduceLT, Nat.reducePow, Int.reduceEq, Int.reduceLT, Int.reduceLE, Int.reduceGT, Int.reduceGE, Int.reduceAdd, Int.reduceSub, Int.reduceNeg, Int.reduceToNat])
      all_goals first
        | exact ⟨⟨g, g', ⟨by omega, by omega⟩, ⟨rfl, rfl, by simp, by simp⟩⟩⟩
        | trace_state
    · rintro st ⟨g, g', hE, hs⟩
      obtain ⟨ks, c, v, n, rfl, hn⟩ : ∃ ks c v n, xs = ks ++ [c, v] ∧ ks.length = 2 * n := by
        rcases List.eq_nil_or_concat xs with rfl | ⟨xs, v, rfl⟩
        · simp at hE
        · rcases List.eq_nil_or_concat xs with rfl | ⟨ks, c, rfl⟩
          · simp at hE
          · refine ⟨ks, c, v, ks.length / 2, by simp, ?_⟩
            simp at hE
            omega
      refine a_has hs fun τ σ γ => ?_
      have hw2 : IntKind.i64.wrap (((ks.length + 2 : Nat) : Int) - 2) = ks.length := by
        rw [show ((ks.length + 2 : Nat) : Int) - 2 = ks.length by omega]
        exact wrap_nat' _ (by simp at nx; omega)
      have hw1 : IntKind.i64.wrap (((ks.length + 2 : Nat) : Int) - 1) = ((ks.length + 1 : Nat) : Int) := by
        rw [show ((ks.length + 2 : Nat) : Int) - 1 = ((ks.length + 1 : Nat) : Int) by omega]
        exact wrap_nat' _ (by simp at nx; omega)
      have hC := lazy_choose ks ys v n hn
      rw [show ks ++ trueO :: v :: ys = (ks ++ [trueO, v]) ++ ys by simp] at hC
      have c3 := node_case (ks ++ [trueO, v]) (by simp at nx ⊢; omega)
      have c4 := node_case ((ks ++ [trueO, v]) ++ ys) (by simp at nx ⊢; omega)
      generalize nodeC 25 (ks ++ [trueO, v]) nullO = p at c3 hC
      generalize nodeC 25 ((ks ++ [trueO, v]) ++ ys) nullO = q at c4 hC
      have hB : p.err ≠ 1 → q.err ≠ 1 → (decide (p.err = q.err) && (decide (p.v.kind = q.v.kind) && (decide (p.v.int = q.v.int) && decide (p.v.text = q.v.text)))) = true := fun h1 h2 => by
        rw [hC h1 h2]; simp
      clear hC
      simp only [outs, List.map_append, List.map_cons, List.map_nil, Outv.enc] at c3 c4
      repeat' (first
          | (with_reducible refine a_seq_k ?_; intro K hK)
          | (with_reducible refine a_region (by kernel_rfl) ?_; simp (maxSteps := 10000000) (implicitDefEqProofs := false) only [go_sem, Outv.enc, all_outs, List.map_append, Option.map_none, hw2, hw1, take_pre, getD_two, List.mem_append, List.mem_cons, or_imp, forall_and, forall_eq, all_len,  ↓reduceIte, reduceCtorEq, Nat.reduceAdd, Nat.reduceSub, Nat.reduceLeDiff, Nat.reduceEqDiff, Nat.reduceMul, Nat.reduceLT, Nat.reducePow, Int.reduceEq, Int.reduceLT, Int.reduceLE, Int.reduceGT, Int.reduceGE, Int.reduceAdd, Int.reduceSub, Int.reduceNeg, Int.reduceToNat])
          | (with_reducible refine a_draw mixed (by kernel_rfl) ?_; intro C hC; simp (maxSteps := 10000000) (implicitDefEqProofs := false) only [go_sem, Outv.enc, all_outs, List.map_append, Option.map_none, hw2, hw1, take_pre, getD_two, List.mem_append, List.mem_cons, or_imp, forall_and, forall_eq, all_len,  ↓reduceIte, reduceCtorEq, Nat.reduceAdd, Nat.reduceSub, Nat.reduceLeDiff, Nat.reduceEqDiff, Nat.reduceMul, Nat.reduceLT, Nat.reducePow, Int.reduceEq, Int.reduceLT, Int.reduceLE, Int.reduceGT, Int.reduceGE, Int.reduceAdd, Int.reduceSub, Int.reduceNeg, Int.reduceToNat])
          | with_reducible refine a_block ?_
          | with_reducible refine a_ret ?_
          | with_reducible refine a_exit ?_
          | with_reducible refine a_skip ?_
          | (with_reducible refine a_cond_k ?_; intro X Y hX hY; simp (maxSteps := 10000000) (implicitDefEqProofs := false) only [go_sem, Outv.enc, all_outs, List.map_append, Option.map_none, hw2, hw1, take_pre, getD_two, List.mem_append, List.mem_cons, or_imp, forall_and, forall_eq, all_len,  ↓reduceIte, reduceCtorEq, Nat.reduceAdd, Nat.reduceSub, Nat.reduceLeDiff, Nat.reduceEqDiff, Nat.reduceMul, Nat.reduceLT, Nat.reducePow, Int.reduceEq, Int.reduceLT, Int.reduceLE, Int.reduceGT, Int.reduceGE, Int.reduceAdd, Int.reduceSub, Int.reduceNeg, Int.reduceToNat])
          | with_reducible exact ConfOk.mk (by kernel_rfl)
          | (with_reducible refine eqT_of (eq33 _ _ _ _ _ _) ?_; simp)
          | (with_reducible refine eqT_of (eq35 _ _ _ _ _ _ _ _) ?_; simp)
          | (with_reducible refine RetOk.mk ?_; simp (maxSteps := 10000000) (implicitDefEqProofs := false) only [go_sem, Outv.enc, all_outs, List.map_append, Option.map_none, hw2, hw1, take_pre, getD_two, List.mem_append, List.mem_cons, or_imp, forall_and, forall_eq, all_len,  ↓reduceIte, reduceCtorEq, Nat.reduceAdd, Nat.reduceSub, Nat.reduceLeDiff, Nat.reduceEqDiff, Nat.reduceMul, Nat.reduceLT, Nat.reducePow, Int.reduceEq, Int.reduceLT, Int.reduceLE, Int.reduceGT, Int.reduceGE, Int.reduceAdd, Int.reduceSub, Int.reduceNeg, Int.reduceToNat])
          | (with_reducible refine CallS.intro (ref_oBool _) ?_; simp (maxSteps := 10000000) (implicitDefEqProofs := false) only [go_sem, Outv.enc, all_outs, List.map_append, Option.map_none, hw2, hw1, take_pre, getD_two, List.mem_append, List.mem_cons, or_imp, forall_and, forall_eq, all_len,  ↓reduceIte, reduceCtorEq, Nat.reduceAdd, Nat.reduceSub, Nat.reduceLeDiff, Nat.reduceEqDiff, Nat.reduceMul, Nat.reduceLT, Nat.reducePow, Int.reduceEq, Int.reduceLT, Int.reduceLE, Int.reduceGT, Int.reduceGE, Int.reduceAdd, Int.reduceSub, Int.reduceNeg, Int.reduceToNat])
          | (with_reducible refine CallD.intro (ref_oBool _) ?_; simp (maxSteps := 10000000) (implicitDefEqProofs := false) only [go_sem, Outv.enc, all_outs, List.map_append, Option.map_none, hw2, hw1, take_pre, getD_two, List.mem_append, List.mem_cons, or_imp, forall_and, forall_eq, all_len,  ↓reduceIte, reduceCtorEq, Nat.reduceAdd, Nat.reduceSub, Nat.reduceLeDiff, Nat.reduceEqDiff, Nat.reduceMul, Nat.reduceLT, Nat.reducePow, Int.reduceEq, Int.reduceLT, Int.reduceLE, Int.reduceGT, Int.reduceGE, Int.reduceAdd, Int.reduceSub, Int.reduceNeg, Int.reduceToNat])
          | (with_reducible refine CallS.intro (c3) ?_; simp (maxSteps := 10000000) (implicitDefEqProofs := false) only [go_sem, Outv.enc, all_outs, List.map_append, Option.map_none, hw2, hw1, take_pre, getD_two, List.mem_append, List.mem_cons, or_imp, forall_and, forall_eq, all_len,  ↓reduceIte, reduceCtorEq, Nat.reduceAdd, Nat.reduceSub, Nat.reduceLeDiff, Nat.reduceEqDiff, Nat.reduceMul, Nat.reduceLT, Nat.reducePow, Int.reduceEq, Int.reduceLT, Int.reduceLE, Int.reduceGT, Int.reduceGE, Int.reduceAdd, Int.reduceSub, Int.reduceNeg, Int.reduceToNat])
          | (with_reducible refine CallD.intro (c3) ?_; simp (maxSteps := 10000000) (implicitDefEqProofs := false) only [go_sem, Outv.enc, all_outs, List.map_append, Option.map_none, hw2, hw1, take_pre, getD_two, List.mem_append, List.mem_cons, or_imp, forall_and, forall_eq, all_len,  ↓reduceIte, reduceCtorEq, Nat.reduceAdd, Nat.reduceSub, Nat.reduceLeDiff, Nat.reduceEqDiff, Nat.reduceMul, Nat.reduceLT, Nat.reducePow, Int.reduceEq, Int.reduceLT, Int.reduceLE, Int.reduceGT, Int.reduceGE, Int.reduceAdd, Int.reduceSub, Int.reduceNeg, Int.reduceToNat])
          | (with_reducible refine CallS.intro (c4) ?_; simp (maxSteps := 10000000) (implicitDefEqProofs := false) only [go_sem, Outv.enc, all_outs, List.map_append, Option.map_none, hw2, hw1, take_pre, getD_two, List.mem_append, List.mem_cons, or_imp, forall_and, forall_eq, all_len,  ↓reduceIte, reduceCtorEq, Nat.reduceAdd, Nat.reduceSub, Nat.reduceLeDiff, Nat.reduceEqDiff, Nat.reduceMul, Nat.reduceLT, Nat.reducePow, Int.reduceEq, Int.reduceLT, Int.reduceLE, Int.reduceGT, Int.reduceGE, Int.reduceAdd, Int.reduceSub, Int.reduceNeg, Int.reduceToNat])
          | (with_reducible refine CallD.intro (c4) ?_; simp (maxSteps := 10000000) (implicitDefEqProofs := false) only [go_sem, Outv.enc, all_outs, List.map_append, Option.map_none, hw2, hw1, take_pre, getD_two, List.mem_append, List.mem_cons, or_imp, forall_and, forall_eq, all_len,  ↓reduceIte, reduceCtorEq, Nat.reduceAdd, Nat.reduceSub, Nat.reduceLeDiff, Nat.reduceEqDiff, Nat.reduceMul, Nat.reduceLT, Nat.reducePow, Int.reduceEq, Int.reduceLT, Int.reduceLE, Int.reduceGT, Int.reduceGE, Int.reduceAdd, Int.reduceSub, Int.reduceNeg, Int.reduceToNat])
          | (with_reducible refine CallS.intro (ref_oSame _ _ _ _ _ _ _ _) ?_; simp (maxSteps := 10000000) (implicitDefEqProofs := false) only [go_sem, Outv.enc, all_outs, List.map_append, Option.map_none, hw2, hw1, take_pre, getD_two, List.mem_append, List.mem_cons, or_imp, forall_and, forall_eq, all_len,  ↓reduceIte, reduceCtorEq, Nat.reduceAdd, Nat.reduceSub, Nat.reduceLeDiff, Nat.reduceEqDiff, Nat.reduceMul, Nat.reduceLT, Nat.reducePow, Int.reduceEq, Int.reduceLT, Int.reduceLE, Int.reduceGT, Int.reduceGE, Int.reduceAdd, Int.reduceSub, Int.reduceNeg, Int.reduceToNat])
          | (with_reducible refine CallD.intro (ref_oSame _ _ _ _ _ _ _ _) ?_; simp (maxSteps := 10000000) (implicitDefEqProofs := false) only [go_sem, Outv.enc, all_outs, List.map_append, Option.map_none, hw2, hw1, take_pre, getD_two, List.mem_append, List.mem_cons, or_imp, forall_and, forall_eq, all_len,  ↓reduceIte, reduceCtorEq, Nat.reduceAdd, Nat.reduceSub, Nat.reduceLeDiff, Nat.reduceEqDiff, Nat.reduceMul, Nat.reduceLT, Nat.reducePow, Int.reduceEq, Int.reduceLT, Int.reduceLE, Int.reduceGT, Int.reduceGE, Int.reduceAdd, Int.reduceSub, Int.reduceNeg, Int.reduceToNat])
          | (with_reducible refine CallS.intro (law_awake) ?_; simp (maxSteps := 10000000) (implicitDefEqProofs := false) only [go_sem, Outv.enc, all_outs, List.map_append, Option.map_none, hw2, hw1, take_pre, getD_two, List.mem_append, List.mem_cons, or_imp, forall_and, forall_eq, all_len,  ↓reduceIte, reduceCtorEq, Nat.reduceAdd, Nat.reduceSub, Nat.reduceLeDiff, Nat.reduceEqDiff, Nat.reduceMul, Nat.reduceLT, Nat.reducePow, Int.reduceEq, Int.reduceLT, Int.reduceLE, Int.reduceGT, Int.reduceGE, Int.reduceAdd, Int.reduceSub, Int.reduceNeg, Int.reduceToNat])
          | (with_reducible refine CallD.intro (law_awake) ?_; simp (maxSteps := 10000000) (implicitDefEqProofs := false) only [go_sem, Outv.enc, all_outs, List.map_append, Option.map_none, hw2, hw1, take_pre, getD_two, List.mem_append, List.mem_cons, or_imp, forall_and, forall_eq, all_len,  ↓reduceIte, reduceCtorEq, Nat.reduceAdd, Nat.reduceSub, Nat.reduceLeDiff, Nat.reduceEqDiff, Nat.reduceMul, Nat.reduceLT, Nat.reducePow, Int.reduceEq, Int.reduceLT, Int.reduceLE, Int.reduceGT, Int.reduceGE, Int.reduceAdd, Int.reduceSub, Int.reduceNeg, Int.reduceToNat])
          | ((fail_if_success with_reducible show False); with_reducible apply_assumption (exfalso := false) (symm := false) only [*, rfl, trivial, congrArg])
          | with_reducible refine And.intro ?_ ?_
          | (intro h; contradiction)
          | (intro h; subst h)
          | intro h
          | simp (maxSteps := 10000000) (implicitDefEqProofs := false) only [go_sem, Outv.enc, all_outs, List.map_append, Option.map_none, hw2, hw1, take_pre, getD_two, List.mem_append, List.mem_cons, or_imp, forall_and, forall_eq, all_len,  ↓reduceIte, reduceCtorEq, Nat.reduceAdd, Nat.reduceSub, Nat.reduceLeDiff, Nat.reduceEqDiff, Nat.reduceMul, Nat.reduceLT, Nat.reducePow, Int.reduceEq, Int.reduceLT, Int.reduceLE, Int.reduceGT, Int.reduceGE, Int.reduceAdd, Int.reduceSub, Int.reduceNeg, Int.reduceToNat])
      all_goals first
        | omega
        | (simp at nx; omega)
        | (have := hB (by assumption) (by assumption); simp_all; done)
        | trace_state
end
set_option maxRecDepth 100000 in
theorem calcLazyUpto_returns (os : Os) (started : os.Started) (H : Type) (enc : TypeId × Value → H) (F : Stop.Interp) :
    ReturnsInHanded {} Tryd.checked os 5 .any (Rows.calcLazyUptoRow.pre enc Tryd.prog Tryd.f5 (Rows.OpenSpec.upto Rows.calcLazySpec)) (((Rows.OpenSpec.upto Rows.calcLazySpec).at F).post enc Tryd.prog Tryd.f5 false true false false) := by
  refine law_returns (C := Tryd.checked) (fn := Tryd.f5) (s := (Rows.OpenSpec.upto Rows.calcLazySpec)) (c := Rows.calcLazyUptoRow) (F := F) (tb := 4) (K := fun ds gs => Rows.uptoSmall H (ds ++ gs) = true ∧ (DataW.weightsEach Tryd.prog (Tryd.f5.params.toList ++ (Rows.OpenSpec.upto Rows.calcLazySpec).bare.plain.varTypes Tryd.prog) (ds ++ gs)).all (· ≤ reachBytes) = true) (fun w args h => upto_pre rfl h) seatOwn started (by kernel_rfl) Tryd.func5 seatLaidOut (by kernel_rfl) (by kernel_rfl) (by kernel_rfl) rfl ?_ ?_
  · exact law_witness (P := Tryd.prog) rfl rfl rfl #[.slice none 0 0, .slice none 0 0] 8 (y := ([.nil, .nil], [], [])) (World.shaped_of_ZipB (by kernel_rfl) (by kernel_rfl)) (by kernel_rfl) (by kernel_rfl) (fun k hk => by cases hk; rfl) (by kernel_rfl)
      (by rw [MakeChecks.laidMetH_plain _ _ _ (by kernel_rfl)]; exact laidMet_laidAll _ (by kernel_rfl) (by kernel_rfl))
  · intro W base args ds gs before hval0 hW hK
    have hval : ∀ (j : Nat) t v, Tryd.f5.params[j]? = some t → args[j]? = some v → Value.okWide Tryd.prog W .any base t v := hval0
    obtain ⟨p, q, hA0, hV, rfl, _, _⟩ := hW
    have hA : DataW.TrodAll enc Tryd.prog W 0 (fun _ => true) true Tryd.f5.params.toList args.toList ds p := hA0
    rw [Tryd.params5] at hA hval
    have hw := hK.2
    rw [Tryd.params5] at hw
    obtain ⟨v0, v1, d0, d1, p0, p1, rfl, rfl, rfl, h0, h1⟩ := ChangeShapes.trodAll_two hA
    obtain ⟨rfl, rfl⟩ := ChangeShapes.trodVars_none hV
    obtain ⟨w0, w1⟩ := weights_two hw
    obtain ⟨xs0, ty0, r0⟩ := open_arg (n := 9) (T := .slice 4 ttO) (by kernel_rfl) (hval 0 30 v0 rfl rfl) h0 w0
    obtain ⟨xs1, ty1, r1⟩ := open_arg (n := 9) (T := .slice 4 ttO) (by kernel_rfl) (hval 1 30 v1 rfl rfl) h1 w1
    obtain ⟨x, rfl, hx, lx⟩ := ty_list Outv.enc Outv.In (fun d e h => ty_out d e h) ty0
    obtain ⟨y, rfl, hy, ly⟩ := ty_list Outv.enc Outv.In (fun d e h => ty_out d e h) ty1
    have nx : x.length ≤ 1048576 := by
      have h2 := (uptoSmall_two hK.1).1
      have h3 := uptoBulk_slice ty0
      simp only [List.length_map] at h3
      omega
    have ny : y.length ≤ 1048576 := by
      have h2 := (uptoSmall_two hK.1).2
      have h3 := uptoBulk_slice ty1
      simp only [List.length_map] at h3
      omega
    exact ⟨rfl, calls_of_acalls (law_lazy x y nx ny) (.cons r0 (.cons r1 .nil))⟩
theorem calcLazyUpto_holds : Rows.CalcLazyUptoSaid :=
  OpenClaim.holds_of_cond 5 Tryd.f5 rfl rfl rfl rfl rfl rfl rfl ⟨rfl, rfl, rfl, rfl, rfl⟩ rfl rfl rfl rfl rfl (by kernel_rfl) Tryd.func5 (by kernel_rfl)
    (of_decide_eq_true (by kernel_rfl)) (by unfold Func.isWrapper; first | (rw [if_pos (by decide +kernel)]; kernel_rfl) | (rw [if_neg (by decide +kernel)]; exact ⟨rfl, rfl⟩))
    (fun os started H enc _ F => calcLazyUpto_returns os started H enc F)
theorem calcLazy_card : Rows.CalcLazyUptoCardSaid :=
  Claim7.holds_tied_plain_at .later [] [.data, .pinned] true (true, "bd67f24882592499edb56b6875a22e02bd77f63e18e8888de302a9fcdb1261f8") false
    calcLazyUpto_holds (fun _ h => by cases h) (by kernel_rfl) (fun _ h => by cases h) calcLazyUpto_row_tie rfl ⟨rfl, rfl⟩ (by kernel_rfl) rfl
    (fun f fn hf hfn => by
      obtain rfl : f = 5 := Option.some.inj ((show Tryd.prog.funcNamed "jointer/jointerlaw05.CalcLazy" = some 5 by kernel_rfl).symm.trans hf) |>.symm
      obtain rfl : fn = Tryd.f5 := (Option.some.inj (Tryd.func5.symm.trans hfn)).symm
      refine ⟨by kernel_rfl, fun j t ht => ?_⟩
      rw [Tryd.params5] at ht
      match j, ht with
      | 0, ht => cases ht; exact (show Tryd.prog.wantsStandIn 30 = false by kernel_rfl)
      | 1, ht => cases ht; exact (show Tryd.prog.wantsStandIn 30 = false by kernel_rfl)
      | n + 2, ht => simp at ht)
    (by kernel_rfl)
#print axioms calcLazy_card
end Go.Proofs.YtmlaogjndaeihaaDoor

