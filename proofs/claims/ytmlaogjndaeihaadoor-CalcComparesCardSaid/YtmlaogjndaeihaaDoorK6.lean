/- CalcCompares: of two values that agree in kind just one of less, equal and greater is true unless one is null, the other comparisons are their contraries, and IS NOT DISTINCT FROM is never null; for all values. -/
import Derived.Test.YtmlaogjndaeihaaDoorC1
import Derived.Test.YtmlaogjndaeihaaDoorL6
import Derived.Test.YtmlaogjndaeihaaDoorT22
namespace Go.Proofs.YtmlaogjndaeihaaDoor
open Go Go.Ab
section
attribute [local go_sem ↓] parts_tt parts_ff parts_tf parts_ft
attribute [local go_sem] parts_eq learnT aops_nil aops_cons aopsD_nil aopsD_cons stepS stepD gval St.learn skipR St.after putτ applyUpd List.foldl_cons List.foldl_nil pureOp memOp callOf opnd ofConst leaf binA unA lenA indexA indexAddrA fieldAddrA fieldA sliceA convertA pickV fillA placeS cellsA setA partA loadM storeM appendM srcEls lookBox lookRow lookMap closeL closeV scalarB scalarL killed buildEls lookupA leafEq eqAll resA resL tupA retA thenA blockA isInt loA hiA foldA maxA minA okSize leafB closedB Res.foot List.getD_cons_zero List.getD_cons_succ List.set_cons_zero List.set_cons_succ List.map_cons List.map_nil List.append_nil List.nil_append List.cons_append List.length_cons List.length_nil List.take_succ_cons List.take_zero List.drop_succ_cons List.drop_zero List.take_nil List.drop_nil List.all_cons List.all_nil List.getElem?_toArray List.getElem?_cons_zero List.getElem?_cons_succ Option.bind_some Option.map_some true_and and_true true_implies ne_eq not_true_eq_false not_false_eq_true Bool.true_eq_false Bool.false_eq_true Bool.not_true Bool.not_false decide_eq_true_eq decide_eq_false_iff_not false_implies implies_true and_self ite_true ite_false cond_true cond_false Option.some.injEq List.reverse_cons List.reverse_nil Bool.and_self Bool.true_and Bool.and_true Bool.false_and Bool.and_false Bool.or_true Bool.true_or Bool.or_false Bool.false_or Bool.not_eq_eq_eq_not Bool.not_not Bool.or_self beq_self_eq_true and_false false_and or_true true_or or_false false_or not_true not_false_iff Decidable.not_not lookT lookR tabT tabR Int.toNat_natCast List.length_map List.map_append List.length_append decide_true decide_false tmod2 List.mem_singleton forall_eq elOk1 elOk3 elOk4 castn0 castn1 castn2 castn3 getD_mid getD_mid_map at_lt at_end mid_lt mid_lt' nat_ge List.size_toArray Array.size_empty Nat.add_zero Nat.zero_add
attribute [local irreducible] ASpec ACalls retA ti EqT
set_option linter.unusedSimpArgs false
set_option maxHeartbeats 4000000
set_option maxRecDepth 100000
set_option linter.unusedVariables false
attribute [local go_sem] ti2 ti3 ti4 ti5 ti9 ti21 ti22 ti23 ti24 ti25 ti30 ti33 ti35 ti41 ti44 ti45 ti46 ti49 ti56 ti62 ti66 ti81 ti89 ti93 ti96 ti99 ti116
@[reducible] def tr (o : Outv) : Bool := decide (o.err = 0) && (decide (o.v.kind = 3) && (decide (o.v.int = 1) && decide (o.v.text = emp)))
theorem compares_core (x y : Val) (lt eq gt ge ne le : Outv) (b0 b1 b2 : Bool) (z : Bool)
    (vx : vOk x.kind x.int x.text = true) (vy : vOk y.kind y.int y.text = true) (ha : agree x.kind y.kind = true)
    (n14 : ACalls Tryd.prog 15 [.int .u8 14, outs [⟨x, 0⟩, ⟨y, 0⟩]] (.agg lt.enc)) (n12 : ACalls Tryd.prog 15 [.int .u8 12, outs [⟨x, 0⟩, ⟨y, 0⟩]] (.agg eq.enc))
    (n16 : ACalls Tryd.prog 15 [.int .u8 16, outs [⟨x, 0⟩, ⟨y, 0⟩]] (.agg gt.enc)) (n17 : ACalls Tryd.prog 15 [.int .u8 17, outs [⟨x, 0⟩, ⟨y, 0⟩]] (.agg ge.enc))
    (n13 : ACalls Tryd.prog 15 [.int .u8 13, outs [⟨x, 0⟩, ⟨y, 0⟩]] (.agg ne.enc)) (n15 : ACalls Tryd.prog 15 [.int .u8 15, outs [⟨x, 0⟩, ⟨y, 0⟩]] (.agg le.enc))
    (n18 : ACalls Tryd.prog 15 [.int .u8 18, outs [⟨x, 0⟩, ⟨y, 0⟩]] (.agg (boolO (vEqC x y)).enc))
    (m0 : ACalls Tryd.prog 15 [.int .u8 22, outs [lt]] (.agg ge.enc)) (m1 : ACalls Tryd.prog 15 [.int .u8 22, outs [eq]] (.agg ne.enc)) (m2 : ACalls Tryd.prog 15 [.int .u8 22, outs [gt]] (.agg le.enc))
    (t0 : tr lt = b0) (t1 : tr eq = b1) (t2 : tr gt = b2) (k0 : decide (lt.v.kind = 0) = z) (k1 : decide (eq.v.kind = 0) = z) (k2 : decide (gt.v.kind = 0) = z) (c1 c2 c3 : Int)
    (e1 : c1 = if b0 = true then 1 else 0) (e2 : c2 = if b1 = true then c1 + 1 else c1) (e3 : c3 = if b2 = true then c2 + 1 else c2)
    (hz : ((x.kind = 0 ∨ y.kind = 0) ∧ z = true ∧ c3 = 0) ∨ (¬ (x.kind = 0 ∨ y.kind = 0) ∧ z = false ∧ c3 = 1)) :
    ACalls Tryd.prog 6 [.agg x.enc, .agg y.enc] (.bool true) := by
  have wr1 : IntKind.i64.wrap 1 = 1 := rfl
  have wr2 : IntKind.i64.wrap 2 = 2 := rfl
  have wr3 : IntKind.i64.wrap 3 = 3 := rfl
  have wc1 : IntKind.i64.wrap (c1 + 1) = c1 + 1 := by rw [e1]; split <;> rfl
  have wc2 : IntKind.i64.wrap (c2 + 1) = c2 + 1 := by rw [e2, e1]; split <;> split <;> rfl
  have q1 := ref_vValid x.kind x.int x.text
  have q2 := ref_vValid y.kind y.int y.text
  have q3 := ref_Agree x.kind y.kind
  rw [vx] at q1
  rw [vy] at q2
  rw [ha] at q3
  have q4 := ref_vSame x.kind x.int x.text y.kind y.int y.text
  simp only [outs, List.map_cons, List.map_nil, Outv.enc] at n12 n13 n14 n15 n16 n17 n18 m0 m1 m2
  change ACalls _ _ _ (.bool (vEqC x y)) at q4
  generalize vEqC x y = b at n18 q4
  simp only [tr] at t0 t1 t2
  clear vx vy ha
  refine acalls_k Tryd.func6 rfl (by kernel_rfl) (congrArg Array.toList Tryd.results6) Tryd.ntmps6 ?_
  intro R hR
  simp only [st0, List.length_cons, List.length_nil, Nat.reduceAdd, Nat.reduceSub, List.replicate_succ, List.replicate_zero, List.cons_append, List.nil_append]
  repeat' (first
      | (with_reducible refine a_seq_k ?_; intro K hK)
      | (with_reducible refine a_region (by kernel_rfl) ?_; simp (maxSteps := 10000000) (implicitDefEqProofs := false) only [go_sem, Val.enc, Outv.enc,  ↓reduceIte, reduceCtorEq, Nat.reduceAdd, Nat.reduceSub, Nat.reduceLeDiff, Nat.reduceEqDiff, Nat.reduceMul, Nat.reduceLT, Nat.reducePow, Int.reduceEq, Int.reduceLT, Int.reduceLE, Int.reduceGT, Int.reduceGE, Int.reduceAdd, Int.reduceSub, Int.reduceNeg, Int.reduceToNat])
      | (with_reducible refine a_draw mixed (by kernel_rfl) ?_; intro C hC; simp (maxSteps := 10000000) (implicitDefEqProofs := false) only [go_sem, Val.enc, Outv.enc,  ↓reduceIte, reduceCtorEq, Nat.reduceAdd, Nat.reduceSub, Nat.reduceLeDiff, Nat.reduceEqDiff, Nat.reduceMul, Nat.reduceLT, Nat.reducePow, Int.reduceEq, Int.reduceLT, Int.reduceLE, Int.reduceGT, Int.reduceGE, Int.reduceAdd, Int.reduceSub, Int.reduceNeg, Int.reduceToNat])
      | with_reducible refine a_block ?_
      | with_reducible refine a_ret ?_
      | with_reducible refine a_exit ?_
      | with_reducible refine a_skip ?_
      | (with_reducible refine a_cond_k ?_; intro X Y hX hY; simp (maxSteps := 10000000) (implicitDefEqProofs := false) only [go_sem, Val.enc, Outv.enc,  ↓reduceIte, reduceCtorEq, Nat.reduceAdd, Nat.reduceSub, Nat.reduceLeDiff, Nat.reduceEqDiff, Nat.reduceMul, Nat.reduceLT, Nat.reducePow, Int.reduceEq, Int.reduceLT, Int.reduceLE, Int.reduceGT, Int.reduceGE, Int.reduceAdd, Int.reduceSub, Int.reduceNeg, Int.reduceToNat])
      | with_reducible exact ConfOk.mk (by kernel_rfl)
      | (with_reducible refine eqT_of (eq33 _ _ _ _ _ _) ?_; simp)
      | (with_reducible refine eqT_of (eq35 _ _ _ _ _ _ _ _) ?_; simp)
      | (with_reducible refine RetOk.mk ?_; simp (maxSteps := 10000000) (implicitDefEqProofs := false) only [go_sem, Val.enc, Outv.enc,  ↓reduceIte, reduceCtorEq, Nat.reduceAdd, Nat.reduceSub, Nat.reduceLeDiff, Nat.reduceEqDiff, Nat.reduceMul, Nat.reduceLT, Nat.reducePow, Int.reduceEq, Int.reduceLT, Int.reduceLE, Int.reduceGT, Int.reduceGE, Int.reduceAdd, Int.reduceSub, Int.reduceNeg, Int.reduceToNat])
      | (with_reducible refine CallS.intro (q1) ?_; simp (maxSteps := 10000000) (implicitDefEqProofs := false) only [go_sem, Val.enc, Outv.enc,  ↓reduceIte, reduceCtorEq, Nat.reduceAdd, Nat.reduceSub, Nat.reduceLeDiff, Nat.reduceEqDiff, Nat.reduceMul, Nat.reduceLT, Nat.reducePow, Int.reduceEq, Int.reduceLT, Int.reduceLE, Int.reduceGT, Int.reduceGE, Int.reduceAdd, Int.reduceSub, Int.reduceNeg, Int.reduceToNat])
      | (with_reducible refine CallD.intro (q1) ?_; simp (maxSteps := 10000000) (implicitDefEqProofs := false) only [go_sem, Val.enc, Outv.enc,  ↓reduceIte, reduceCtorEq, Nat.reduceAdd, Nat.reduceSub, Nat.reduceLeDiff, Nat.reduceEqDiff, Nat.reduceMul, Nat.reduceLT, Nat.reducePow, Int.reduceEq, Int.reduceLT, Int.reduceLE, Int.reduceGT, Int.reduceGE, Int.reduceAdd, Int.reduceSub, Int.reduceNeg, Int.reduceToNat])
      | (with_reducible refine CallS.intro (q2) ?_; simp (maxSteps := 10000000) (implicitDefEqProofs := false) only [go_sem, Val.enc, Outv.enc,  ↓reduceIte, reduceCtorEq, Nat.reduceAdd, Nat.reduceSub, Nat.reduceLeDiff, Nat.reduceEqDiff, Nat.reduceMul, Nat.reduceLT, Nat.reducePow, Int.reduceEq, Int.reduceLT, Int.reduceLE, Int.reduceGT, Int.reduceGE, Int.reduceAdd, Int.reduceSub, Int.reduceNeg, Int.reduceToNat])
      | (with_reducible refine CallD.intro (q2) ?_; simp (maxSteps := 10000000) (implicitDefEqProofs := false) only [go_sem, Val.enc, Outv.enc,  ↓reduceIte, reduceCtorEq, Nat.reduceAdd, Nat.reduceSub, Nat.reduceLeDiff, Nat.reduceEqDiff, Nat.reduceMul, Nat.reduceLT, Nat.reducePow, Int.reduceEq, Int.reduceLT, Int.reduceLE, Int.reduceGT, Int.reduceGE, Int.reduceAdd, Int.reduceSub, Int.reduceNeg, Int.reduceToNat])
      | (with_reducible refine CallS.intro (q3) ?_; simp (maxSteps := 10000000) (implicitDefEqProofs := false) only [go_sem, Val.enc, Outv.enc,  ↓reduceIte, reduceCtorEq, Nat.reduceAdd, Nat.reduceSub, Nat.reduceLeDiff, Nat.reduceEqDiff, Nat.reduceMul, Nat.reduceLT, Nat.reducePow, Int.reduceEq, Int.reduceLT, Int.reduceLE, Int.reduceGT, Int.reduceGE, Int.reduceAdd, Int.reduceSub, Int.reduceNeg, Int.reduceToNat])
      | (with_reducible refine CallD.intro (q3) ?_; simp (maxSteps := 10000000) (implicitDefEqProofs := false) only [go_sem, Val.enc, Outv.enc,  ↓reduceIte, reduceCtorEq, Nat.reduceAdd, Nat.reduceSub, Nat.reduceLeDiff, Nat.reduceEqDiff, Nat.reduceMul, Nat.reduceLT, Nat.reducePow, Int.reduceEq, Int.reduceLT, Int.reduceLE, Int.reduceGT, Int.reduceGE, Int.reduceAdd, Int.reduceSub, Int.reduceNeg, Int.reduceToNat])
      | (with_reducible refine CallS.intro (law_awake) ?_; simp (maxSteps := 10000000) (implicitDefEqProofs := false) only [go_sem, Val.enc, Outv.enc,  ↓reduceIte, reduceCtorEq, Nat.reduceAdd, Nat.reduceSub, Nat.reduceLeDiff, Nat.reduceEqDiff, Nat.reduceMul, Nat.reduceLT, Nat.reducePow, Int.reduceEq, Int.reduceLT, Int.reduceLE, Int.reduceGT, Int.reduceGE, Int.reduceAdd, Int.reduceSub, Int.reduceNeg, Int.reduceToNat])
      | (with_reducible refine CallD.intro (law_awake) ?_; simp (maxSteps := 10000000) (implicitDefEqProofs := false) only [go_sem, Val.enc, Outv.enc,  ↓reduceIte, reduceCtorEq, Nat.reduceAdd, Nat.reduceSub, Nat.reduceLeDiff, Nat.reduceEqDiff, Nat.reduceMul, Nat.reduceLT, Nat.reducePow, Int.reduceEq, Int.reduceLT, Int.reduceLE, Int.reduceGT, Int.reduceGE, Int.reduceAdd, Int.reduceSub, Int.reduceNeg, Int.reduceToNat])
      | (with_reducible refine CallS.intro (n12) ?_; simp (maxSteps := 10000000) (implicitDefEqProofs := false) only [go_sem, Val.enc, Outv.enc,  ↓reduceIte, reduceCtorEq, Nat.reduceAdd, Nat.reduceSub, Nat.reduceLeDiff, Nat.reduceEqDiff, Nat.reduceMul, Nat.reduceLT, Nat.reducePow, Int.reduceEq, Int.reduceLT, Int.reduceLE, Int.reduceGT, Int.reduceGE, Int.reduceAdd, Int.reduceSub, Int.reduceNeg, Int.reduceToNat])
      | (with_reducible refine CallD.intro (n12) ?_; simp (maxSteps := 10000000) (implicitDefEqProofs := false) only [go_sem, Val.enc, Outv.enc,  ↓reduceIte, reduceCtorEq, Nat.reduceAdd, Nat.reduceSub, Nat.reduceLeDiff, Nat.reduceEqDiff, Nat.reduceMul, Nat.reduceLT, Nat.reducePow, Int.reduceEq, Int.reduceLT, Int.reduceLE, Int.reduceGT, Int.reduceGE, Int.reduceAdd, Int.reduceSub, Int.reduceNeg, Int.reduceToNat])
      | (with_reducible refine CallS.intro (n13) ?_; simp (maxSteps := 10000000) (implicitDefEqProofs := false) only [go_sem, Val.enc, Outv.enc,  ↓reduceIte, reduceCtorEq, Nat.reduceAdd, Nat.reduceSub, Nat.reduceLeDiff, Nat.reduceEqDiff, Nat.reduceMul, Nat.reduceLT, Nat.reducePow, Int.reduceEq, Int.reduceLT, Int.reduceLE, Int.reduceGT, Int.reduceGE, Int.reduceAdd, Int.reduceSub, Int.reduceNeg, Int.reduceToNat])
      | (with_reducible refine CallD.intro (n13) ?_; simp (maxSteps := 10000000) (implicitDefEqProofs := false) only [go_sem, Val.enc, Outv.enc,  ↓reduceIte, reduceCtorEq, Nat.reduceAdd, Nat.reduceSub, Nat.reduceLeDiff, Nat.reduceEqDiff, Nat.reduceMul, Nat.reduceLT, Nat.reducePow, Int.reduceEq, Int.reduceLT, Int.reduceLE, Int.reduceGT, Int.reduceGE, Int.reduceAdd, Int.reduceSub, Int.reduceNeg, Int.reduceToNat])
      | (with_reducible refine CallS.intro (n14) ?_; simp (maxSteps := 10000000) (implicitDefEqProofs := false) only [go_sem, Val.enc, Outv.enc,  ↓reduceIte, reduceCtorEq, Nat.reduceAdd, Nat.reduceSub, Nat.reduceLeDiff, Nat.reduceEqDiff, Nat.reduceMul, Nat.reduceLT, Nat.reducePow, Int.reduceEq, Int.reduceLT, Int.reduceLE, Int.reduceGT, Int.reduceGE, Int.reduceAdd, Int.reduceSub, Int.reduceNeg, Int.reduceToNat])
      | (with_reducible refine CallD.intro (n14) ?_; simp (maxSteps := 10000000) (implicitDefEqProofs := false) only [go_sem, Val.enc, Outv.enc,  ↓reduceIte, reduceCtorEq, Nat.reduceAdd, Nat.reduceSub, Nat.reduceLeDiff, Nat.reduceEqDiff, Nat.reduceMul, Nat.reduceLT, Nat.reducePow, Int.reduceEq, Int.reduceLT, Int.reduceLE, Int.reduceGT, Int.reduceGE, Int.reduceAdd, Int.reduceSub, Int.reduceNeg, Int.reduceToNat])
      | (with_reducible refine CallS.intro (n15) ?_; simp (maxSteps := 10000000) (implicitDefEqProofs := false) only [go_sem, Val.enc, Outv.enc,  ↓reduceIte, reduceCtorEq, Nat.reduceAdd, Nat.reduceSub, Nat.reduceLeDiff, Nat.reduceEqDiff, Nat.reduceMul, Nat.reduceLT, Nat.reducePow, Int.reduceEq, Int.reduceLT, Int.reduceLE, Int.reduceGT, Int.reduceGE, Int.reduceAdd, Int.reduceSub, Int.reduceNeg, Int.reduceToNat])
      | (with_reducible refine CallD.intro (n15) ?_; simp (maxSteps := 10000000) (implicitDefEqProofs := false) only [go_sem, Val.enc, Outv.enc,  ↓reduceIte, reduceCtorEq, Nat.reduceAdd, Nat.reduceSub, Nat.reduceLeDiff, Nat.reduceEqDiff, Nat.reduceMul, Nat.reduceLT, Nat.reducePow, Int.reduceEq, Int.reduceLT, Int.reduceLE, Int.reduceGT, Int.reduceGE, Int.reduceAdd, Int.reduceSub, Int.reduceNeg, Int.reduceToNat])
      | (with_reducible refine CallS.intro (n16) ?_; simp (maxSteps := 10000000) (implicitDefEqProofs := false) only [go_sem, Val.enc, Outv.enc,  ↓reduceIte, reduceCtorEq, Nat.reduceAdd, Nat.reduceSub, Nat.reduceLeDiff, Nat.reduceEqDiff, Nat.reduceMul, Nat.reduceLT, Nat.reducePow, Int.reduceEq, Int.reduceLT, Int.reduceLE, Int.reduceGT, Int.reduceGE, Int.reduceAdd, Int.reduceSub, Int.reduceNeg, Int.reduceToNat])
      | (with_reducible refine CallD.intro (n16) ?_; simp (maxSteps := 10000000) (implicitDefEqProofs := false) only [go_sem, Val.enc, Outv.enc,  ↓reduceIte, reduceCtorEq, Nat.reduceAdd, Nat.reduceSub, Nat.reduceLeDiff, Nat.reduceEqDiff, Nat.reduceMul, Nat.reduceLT, Nat.reducePow, Int.reduceEq, Int.reduceLT, Int.reduceLE, Int.reduceGT, Int.reduceGE, Int.reduceAdd, Int.reduceSub, Int.reduceNeg, Int.reduceToNat])
      | (with_reducible refine CallS.intro (n17) ?_; simp (maxSteps := 10000000) (implicitDefEqProofs := false) only [go_sem, Val.enc, Outv.enc,  ↓reduceIte, reduceCtorEq, Nat.reduceAdd, Nat.reduceSub, Nat.reduceLeDiff, Nat.reduceEqDiff, Nat.reduceMul, Nat.reduceLT, Nat.reducePow, Int.reduceEq, Int.reduceLT, Int.reduceLE, Int.reduceGT, Int.reduceGE, Int.reduceAdd, Int.reduceSub, Int.reduceNeg, Int.reduceToNat])
      | (with_reducible refine CallD.intro (n17) ?_; simp (maxSteps := 10000000) (implicitDefEqProofs := false) only [go_sem, Val.enc, Outv.enc,  ↓reduceIte, reduceCtorEq, Nat.reduceAdd, Nat.reduceSub, Nat.reduceLeDiff, Nat.reduceEqDiff, Nat.reduceMul, Nat.reduceLT, Nat.reducePow, Int.reduceEq, Int.reduceLT, Int.reduceLE, Int.reduceGT, Int.reduceGE, Int.reduceAdd, Int.reduceSub, Int.reduceNeg, Int.reduceToNat])
      | (with_reducible refine CallS.intro (n18) ?_; simp (maxSteps := 10000000) (implicitDefEqProofs := false) only [go_sem, Val.enc, Outv.enc,  ↓reduceIte, reduceCtorEq, Nat.reduceAdd, Nat.reduceSub, Nat.reduceLeDiff, Nat.reduceEqDiff, Nat.reduceMul, Nat.reduceLT, Nat.reducePow, Int.reduceEq, Int.reduceLT, Int.reduceLE, Int.reduceGT, Int.reduceGE, Int.reduceAdd, Int.reduceSub, Int.reduceNeg, Int.reduceToNat])
      | (with_reducible refine CallD.intro (n18) ?_; simp (maxSteps := 10000000) (implicitDefEqProofs := false) only [go_sem, Val.enc, Outv.enc,  ↓reduceIte, reduceCtorEq, Nat.reduceAdd, Nat.reduceSub, Nat.reduceLeDiff, Nat.reduceEqDiff, Nat.reduceMul, Nat.reduceLT, Nat.reducePow, Int.reduceEq, Int.reduceLT, Int.reduceLE, Int.reduceGT, Int.reduceGE, Int.reduceAdd, Int.reduceSub, Int.reduceNeg, Int.reduceToNat])
      | (with_reducible refine CallS.intro (q4) ?_; simp (maxSteps := 10000000) (implicitDefEqProofs := false) only [go_sem, Val.enc, Outv.enc,  ↓reduceIte, reduceCtorEq, Nat.reduceAdd, Nat.reduceSub, Nat.reduceLeDiff, Nat.reduceEqDiff, Nat.reduceMul, Nat.reduceLT, Nat.reducePow, Int.reduceEq, Int.reduceLT, Int.reduceLE, Int.reduceGT, Int.reduceGE, Int.reduceAdd, Int.reduceSub, Int.reduceNeg, Int.reduceToNat])
      | (with_reducible refine CallD.intro (q4) ?_; simp (maxSteps := 10000000) (implicitDefEqProofs := false) only [go_sem, Val.enc, Outv.enc,  ↓reduceIte, reduceCtorEq, Nat.reduceAdd, Nat.reduceSub, Nat.reduceLeDiff, Nat.reduceEqDiff, Nat.reduceMul, Nat.reduceLT, Nat.reducePow, Int.reduceEq, Int.reduceLT, Int.reduceLE, Int.reduceGT, Int.reduceGE, Int.reduceAdd, Int.reduceSub, Int.reduceNeg, Int.reduceToNat])
      | (with_reducible refine CallS.intro (ref_oBool _) ?_; simp (maxSteps := 10000000) (implicitDefEqProofs := false) only [go_sem, Val.enc, Outv.enc,  ↓reduceIte, reduceCtorEq, Nat.reduceAdd, Nat.reduceSub, Nat.reduceLeDiff, Nat.reduceEqDiff, Nat.reduceMul, Nat.reduceLT, Nat.reducePow, Int.reduceEq, Int.reduceLT, Int.reduceLE, Int.reduceGT, Int.reduceGE, Int.reduceAdd, Int.reduceSub, Int.reduceNeg, Int.reduceToNat])
      | (with_reducible refine CallD.intro (ref_oBool _) ?_; simp (maxSteps := 10000000) (implicitDefEqProofs := false) only [go_sem, Val.enc, Outv.enc,  ↓reduceIte, reduceCtorEq, Nat.reduceAdd, Nat.reduceSub, Nat.reduceLeDiff, Nat.reduceEqDiff, Nat.reduceMul, Nat.reduceLT, Nat.reducePow, Int.reduceEq, Int.reduceLT, Int.reduceLE, Int.reduceGT, Int.reduceGE, Int.reduceAdd, Int.reduceSub, Int.reduceNeg, Int.reduceToNat])
      | (with_reducible refine CallS.intro (ref_oSame _ _ _ _ _ _ _ _) ?_; simp (maxSteps := 10000000) (implicitDefEqProofs := false) only [go_sem, Val.enc, Outv.enc,  ↓reduceIte, reduceCtorEq, Nat.reduceAdd, Nat.reduceSub, Nat.reduceLeDiff, Nat.reduceEqDiff, Nat.reduceMul, Nat.reduceLT, Nat.reducePow, Int.reduceEq, Int.reduceLT, Int.reduceLE, Int.reduceGT, Int.reduceGE, Int.reduceAdd, Int.reduceSub, Int.reduceNeg, Int.reduceToNat])
      | (with_reducible refine CallD.intro (ref_oSame _ _ _ _ _ _ _ _) ?_; simp (maxSteps := 10000000) (implicitDefEqProofs := false) only [go_sem, Val.enc, Outv.enc,  ↓reduceIte, reduceCtorEq, Nat.reduceAdd, Nat.reduceSub, Nat.reduceLeDiff, Nat.reduceEqDiff, Nat.reduceMul, Nat.reduceLT, Nat.reducePow, Int.reduceEq, Int.reduceLT, Int.reduceLE, Int.reduceGT, Int.reduceGE, Int.reduceAdd, Int.reduceSub, Int.reduceNeg, Int.reduceToNat])
      | ((fail_if_success with_reducible show False); with_reducible apply_assumption (exfalso := false) (symm := false) only [*, rfl, trivial, congrArg])
      | with_reducible refine And.intro ?_ ?_
      | (intro h; contradiction)
      | (intro h; subst h)
      | intro h
      | simp (maxSteps := 10000000) (implicitDefEqProofs := false) only [go_sem, Val.enc, Outv.enc,  ↓reduceIte, reduceCtorEq, Nat.reduceAdd, Nat.reduceSub, Nat.reduceLeDiff, Nat.reduceEqDiff, Nat.reduceMul, Nat.reduceLT, Nat.reducePow, Int.reduceEq, Int.reduceLT, Int.reduceLE, Int.reduceGT, Int.reduceGE, Int.reduceAdd, Int.reduceSub, Int.reduceNeg, Int.reduceToNat])
  clear q1 q2 q3 q4 n12 n13 n14 n15 n16 n17 n18
  refine a_freeze [14] (k := 63) (g := 8) (es := 4) (els := [lt.enc, eq.enc, gt.enc]) (by simp) (by simp [lookRow, Outv.enc]) ?_
  refine a_freeze [15] (k := 67) (g := 9) (es := 4) (els := [ge.enc, ne.enc, le.enc]) (by simp [putAll]) (by simp [lookRow, Outv.enc, applyUpd]) ?_
  simp only [putAll, List.set_cons_zero, List.set_cons_succ, applyUpd, List.foldl_cons, List.foldl_nil]
  refine a_loop_k (fun m st => (m = 3 ∧ Has st 126 [(2, .ptr 2 0 0), (3, .ptr 3 0 0), (13, .int .i64 0), (14, .slice [lt.enc, eq.enc, gt.enc]), (15, .slice [ge.enc, ne.enc, le.enc]), (16, .int .i64 0)] [(2, .box 0 x.enc), (3, .box 0 y.enc)]) ∨ (m = 2 ∧ Has st 126 [(2, .ptr 2 0 0), (3, .ptr 3 0 0), (13, .int .i64 c1), (14, .slice [lt.enc, eq.enc, gt.enc]), (15, .slice [ge.enc, ne.enc, le.enc]), (16, .int .i64 1)] [(2, .box 0 x.enc), (3, .box 0 y.enc)]) ∨ (m = 1 ∧ Has st 126 [(2, .ptr 2 0 0), (3, .ptr 3 0 0), (13, .int .i64 c2), (14, .slice [lt.enc, eq.enc, gt.enc]), (15, .slice [ge.enc, ne.enc, le.enc]), (16, .int .i64 2)] [(2, .box 0 x.enc), (3, .box 0 y.enc)]) ∨ (m = 0 ∧ Has st 126 [(2, .ptr 2 0 0), (3, .ptr 3 0 0), (13, .int .i64 c3), (14, .slice [lt.enc, eq.enc, gt.enc]), (15, .slice [ge.enc, ne.enc, le.enc]), (16, .int .i64 3)] [(2, .box 0 x.enc), (3, .box 0 y.enc)])) 3 (.inl ⟨rfl, ⟨rfl, rfl, by simp [Outv.enc, Val.enc], by simp [Outv.enc, Val.enc]⟩⟩) ?_
  rintro m st h K hK
  rcases h with ⟨rfl, hs⟩ | ⟨rfl, hs⟩ | ⟨rfl, hs⟩ | ⟨rfl, hs⟩
  · refine a_has hs fun τ σ γ => ?_
    cases hb : b0
    all_goals
      rw [hb] at t0 e1
      simp only [if_true, Bool.false_eq_true, if_false] at e1
      repeat' (first
          | (with_reducible refine a_seq_k ?_; intro K hK)
          | (with_reducible refine a_region (by kernel_rfl) ?_; simp (maxSteps := 10000000) (implicitDefEqProofs := false) only [go_sem, Val.enc, Outv.enc, t0, k0, wr1, wr2, wr3, wc1, wc2, Bool.true_beq, Bool.false_beq,  ↓reduceIte, reduceCtorEq, Nat.reduceAdd, Nat.reduceSub, Nat.reduceLeDiff, Nat.reduceEqDiff, Nat.reduceMul, Nat.reduceLT, Nat.reducePow, Int.reduceEq, Int.reduceLT, Int.reduceLE, Int.reduceGT, Int.reduceGE, Int.reduceAdd, Int.reduceSub, Int.reduceNeg, Int.reduceToNat])
          | (with_reducible refine a_draw mixed (by kernel_rfl) ?_; intro C hC; simp (maxSteps := 10000000) (implicitDefEqProofs := false) only [go_sem, Val.enc, Outv.enc, t0, k0, wr1, wr2, wr3, wc1, wc2, Bool.true_beq, Bool.false_beq,  ↓reduceIte, reduceCtorEq, Nat.reduceAdd, Nat.reduceSub, Nat.reduceLeDiff, Nat.reduceEqDiff, Nat.reduceMul, Nat.reduceLT, Nat.reducePow, Int.reduceEq, Int.reduceLT, Int.reduceLE, Int.reduceGT, Int.reduceGE, Int.reduceAdd, Int.reduceSub, Int.reduceNeg, Int.reduceToNat])
          | with_reducible refine a_block ?_
          | with_reducible refine a_ret ?_
          | with_reducible refine a_exit ?_
          | with_reducible refine a_skip ?_
          | (with_reducible refine a_cond_k ?_; intro X Y hX hY; simp (maxSteps := 10000000) (implicitDefEqProofs := false) only [go_sem, Val.enc, Outv.enc, t0, k0, wr1, wr2, wr3, wc1, wc2, Bool.true_beq, Bool.false_beq,  ↓reduceIte, reduceCtorEq, Nat.reduceAdd, Nat.reduceSub, Nat.reduceLeDiff, Nat.reduceEqDiff, Nat.reduceMul, Nat.reduceLT, Nat.reducePow, Int.reduceEq, Int.reduceLT, Int.reduceLE, Int.reduceGT, Int.reduceGE, Int.reduceAdd, Int.reduceSub, Int.reduceNeg, Int.reduceToNat])
          | with_reducible exact ConfOk.mk (by kernel_rfl)
          | (with_reducible refine eqT_of (eq33 _ _ _ _ _ _) ?_; simp)
          | (with_reducible refine eqT_of (eq35 _ _ _ _ _ _ _ _) ?_; simp)
          | (with_reducible refine RetOk.mk ?_; simp (maxSteps := 10000000) (implicitDefEqProofs := false) only [go_sem, Val.enc, Outv.enc, t0, k0, wr1, wr2, wr3, wc1, wc2, Bool.true_beq, Bool.false_beq,  ↓reduceIte, reduceCtorEq, Nat.reduceAdd, Nat.reduceSub, Nat.reduceLeDiff, Nat.reduceEqDiff, Nat.reduceMul, Nat.reduceLT, Nat.reducePow, Int.reduceEq, Int.reduceLT, Int.reduceLE, Int.reduceGT, Int.reduceGE, Int.reduceAdd, Int.reduceSub, Int.reduceNeg, Int.reduceToNat])
          | (with_reducible refine CallS.intro (m0) ?_; simp (maxSteps := 10000000) (implicitDefEqProofs := false) only [go_sem, Val.enc, Outv.enc, t0, k0, wr1, wr2, wr3, wc1, wc2, Bool.true_beq, Bool.false_beq,  ↓reduceIte, reduceCtorEq, Nat.reduceAdd, Nat.reduceSub, Nat.reduceLeDiff, Nat.reduceEqDiff, Nat.reduceMul, Nat.reduceLT, Nat.reducePow, Int.reduceEq, Int.reduceLT, Int.reduceLE, Int.reduceGT, Int.reduceGE, Int.reduceAdd, Int.reduceSub, Int.reduceNeg, Int.reduceToNat])
          | (with_reducible refine CallD.intro (m0) ?_; simp (maxSteps := 10000000) (implicitDefEqProofs := false) only [go_sem, Val.enc, Outv.enc, t0, k0, wr1, wr2, wr3, wc1, wc2, Bool.true_beq, Bool.false_beq,  ↓reduceIte, reduceCtorEq, Nat.reduceAdd, Nat.reduceSub, Nat.reduceLeDiff, Nat.reduceEqDiff, Nat.reduceMul, Nat.reduceLT, Nat.reducePow, Int.reduceEq, Int.reduceLT, Int.reduceLE, Int.reduceGT, Int.reduceGE, Int.reduceAdd, Int.reduceSub, Int.reduceNeg, Int.reduceToNat])
          | (with_reducible refine CallS.intro (ref_oBool _) ?_; simp (maxSteps := 10000000) (implicitDefEqProofs := false) only [go_sem, Val.enc, Outv.enc, t0, k0, wr1, wr2, wr3, wc1, wc2, Bool.true_beq, Bool.false_beq,  ↓reduceIte, reduceCtorEq, Nat.reduceAdd, Nat.reduceSub, Nat.reduceLeDiff, Nat.reduceEqDiff, Nat.reduceMul, Nat.reduceLT, Nat.reducePow, Int.reduceEq, Int.reduceLT, Int.reduceLE, Int.reduceGT, Int.reduceGE, Int.reduceAdd, Int.reduceSub, Int.reduceNeg, Int.reduceToNat])
          | (with_reducible refine CallD.intro (ref_oBool _) ?_; simp (maxSteps := 10000000) (implicitDefEqProofs := false) only [go_sem, Val.enc, Outv.enc, t0, k0, wr1, wr2, wr3, wc1, wc2, Bool.true_beq, Bool.false_beq,  ↓reduceIte, reduceCtorEq, Nat.reduceAdd, Nat.reduceSub, Nat.reduceLeDiff, Nat.reduceEqDiff, Nat.reduceMul, Nat.reduceLT, Nat.reducePow, Int.reduceEq, Int.reduceLT, Int.reduceLE, Int.reduceGT, Int.reduceGE, Int.reduceAdd, Int.reduceSub, Int.reduceNeg, Int.reduceToNat])
          | (with_reducible refine CallS.intro (ref_oSame _ _ _ _ _ _ _ _) ?_; simp (maxSteps := 10000000) (implicitDefEqProofs := false) only [go_sem, Val.enc, Outv.enc, t0, k0, wr1, wr2, wr3, wc1, wc2, Bool.true_beq, Bool.false_beq,  ↓reduceIte, reduceCtorEq, Nat.reduceAdd, Nat.reduceSub, Nat.reduceLeDiff, Nat.reduceEqDiff, Nat.reduceMul, Nat.reduceLT, Nat.reducePow, Int.reduceEq, Int.reduceLT, Int.reduceLE, Int.reduceGT, Int.reduceGE, Int.reduceAdd, Int.reduceSub, Int.reduceNeg, Int.reduceToNat])
          | (with_reducible refine CallD.intro (ref_oSame _ _ _ _ _ _ _ _) ?_; simp (maxSteps := 10000000) (implicitDefEqProofs := false) only [go_sem, Val.enc, Outv.enc, t0, k0, wr1, wr2, wr3, wc1, wc2, Bool.true_beq, Bool.false_beq,  ↓reduceIte, reduceCtorEq, Nat.reduceAdd, Nat.reduceSub, Nat.reduceLeDiff, Nat.reduceEqDiff, Nat.reduceMul, Nat.reduceLT, Nat.reducePow, Int.reduceEq, Int.reduceLT, Int.reduceLE, Int.reduceGT, Int.reduceGE, Int.reduceAdd, Int.reduceSub, Int.reduceNeg, Int.reduceToNat])
          | ((fail_if_success with_reducible show False); with_reducible apply_assumption (exfalso := false) (symm := false) only [*, rfl, trivial, congrArg])
          | with_reducible refine And.intro ?_ ?_
          | (intro h; contradiction)
          | (intro h; subst h)
          | intro h
          | simp (maxSteps := 10000000) (implicitDefEqProofs := false) only [go_sem, Val.enc, Outv.enc, t0, k0, wr1, wr2, wr3, wc1, wc2, Bool.true_beq, Bool.false_beq,  ↓reduceIte, reduceCtorEq, Nat.reduceAdd, Nat.reduceSub, Nat.reduceLeDiff, Nat.reduceEqDiff, Nat.reduceMul, Nat.reduceLT, Nat.reducePow, Int.reduceEq, Int.reduceLT, Int.reduceLE, Int.reduceGT, Int.reduceGE, Int.reduceAdd, Int.reduceSub, Int.reduceNeg, Int.reduceToNat])
      all_goals first
        | (exfalso; omega)
        | (cases z <;> simp_all <;> done)
        | exact ⟨⟨2, by omega, .inr (.inl ⟨rfl, ⟨rfl, rfl, by simp [Outv.enc, Val.enc, e1], by simp [Outv.enc, Val.enc]⟩⟩)⟩⟩
        | trace_state
  · refine a_has hs fun τ σ γ => ?_
    cases hb : b1
    all_goals
      rw [hb] at t1 e2
      simp only [if_true, Bool.false_eq_true, if_false] at e2
      repeat' (first
          | (with_reducible refine a_seq_k ?_; intro K hK)
          | (with_reducible refine a_region (by kernel_rfl) ?_; simp (maxSteps := 10000000) (implicitDefEqProofs := false) only [go_sem, Val.enc, Outv.enc, t1, k1, wr1, wr2, wr3, wc1, wc2, Bool.true_beq, Bool.false_beq,  ↓reduceIte, reduceCtorEq, Nat.reduceAdd, Nat.reduceSub, Nat.reduceLeDiff, Nat.reduceEqDiff, Nat.reduceMul, Nat.reduceLT, Nat.reducePow, Int.reduceEq, Int.reduceLT, Int.reduceLE, Int.reduceGT, Int.reduceGE, Int.reduceAdd, Int.reduceSub, Int.reduceNeg, Int.reduceToNat])
          | (with_reducible refine a_draw mixed (by kernel_rfl) ?_; intro C hC; simp (maxSteps := 10000000) (implicitDefEqProofs := false) only [go_sem, Val.enc, Outv.enc, t1, k1, wr1, wr2, wr3, wc1, wc2, Bool.true_beq, Bool.false_beq,  ↓reduceIte, reduceCtorEq, Nat.reduceAdd, Nat.reduceSub, Nat.reduceLeDiff, Nat.reduceEqDiff, Nat.reduceMul, Nat.reduceLT, Nat.reducePow, Int.reduceEq, Int.reduceLT, Int.reduceLE, Int.reduceGT, Int.reduceGE, Int.reduceAdd, Int.reduceSub, Int.reduceNeg, Int.reduceToNat])
          | with_reducible refine a_block ?_
          | with_reducible refine a_ret ?_
          | with_reducible refine a_exit ?_
          | with_reducible refine a_skip ?_
          | (with_reducible refine a_cond_k ?_; intro X Y hX hY; simp (maxSteps := 10000000) (implicitDefEqProofs := false) only [go_sem, Val.enc, Outv.enc, t1, k1, wr1, wr2, wr3, wc1, wc2, Bool.true_beq, Bool.false_beq,  ↓reduceIte, reduceCtorEq, Nat.reduceAdd, Nat.reduceSub, Nat.reduceLeDiff, Nat.reduceEqDiff, Nat.reduceMul, Nat.reduceLT, Nat.reducePow, Int.reduceEq, Int.reduceLT, Int.reduceLE, Int.reduceGT, Int.reduceGE, Int.reduceAdd, Int.reduceSub, Int.reduceNeg, Int.reduceToNat])
          | with_reducible exact ConfOk.mk (by kernel_rfl)
          | (with_reducible refine eqT_of (eq33 _ _ _ _ _ _) ?_; simp)
          | (with_reducible refine eqT_of (eq35 _ _ _ _ _ _ _ _) ?_; simp)
          | (with_reducible refine RetOk.mk ?_; simp (maxSteps := 10000000) (implicitDefEqProofs := false) only [go_sem, Val.enc, Outv.enc, t1, k1, wr1, wr2, wr3, wc1, wc2, Bool.true_beq, Bool.false_beq,  ↓reduceIte, reduceCtorEq, Nat.reduceAdd, Nat.reduceSub, Nat.reduceLeDiff, Nat.reduceEqDiff, Nat.reduceMul, Nat.reduceLT, Nat.reducePow, Int.reduceEq, Int.reduceLT, Int.reduceLE, Int.reduceGT, Int.reduceGE, Int.reduceAdd, Int.reduceSub, Int.reduceNeg, Int.reduceToNat])
          | (with_reducible refine CallS.intro (m1) ?_; simp (maxSteps := 10000000) (implicitDefEqProofs := false) only [go_sem, Val.enc, Outv.enc, t1, k1, wr1, wr2, wr3, wc1, wc2, Bool.true_beq, Bool.false_beq,  ↓reduceIte, reduceCtorEq, Nat.reduceAdd, Nat.reduceSub, Nat.reduceLeDiff, Nat.reduceEqDiff, Nat.reduceMul, Nat.reduceLT, Nat.reducePow, Int.reduceEq, Int.reduceLT, Int.reduceLE, Int.reduceGT, Int.reduceGE, Int.reduceAdd, Int.reduceSub, Int.reduceNeg, Int.reduceToNat])
          | (with_reducible refine CallD.intro (m1) ?_; simp (maxSteps := 10000000) (implicitDefEqProofs := false) only [go_sem, Val.enc, Outv.enc, t1, k1, wr1, wr2, wr3, wc1, wc2, Bool.true_beq, Bool.false_beq,  ↓reduceIte, reduceCtorEq, Nat.reduceAdd, Nat.reduceSub, Nat.reduceLeDiff, Nat.reduceEqDiff, Nat.reduceMul, Nat.reduceLT, Nat.reducePow, Int.reduceEq, Int.reduceLT, Int.reduceLE, Int.reduceGT, Int.reduceGE, Int.reduceAdd, Int.reduceSub, Int.reduceNeg, Int.reduceToNat])
          | (with_reducible refine CallS.intro (ref_oBool _) ?_; simp (maxSteps := 10000000) (implicitDefEqProofs := false) only [go_sem, Val.enc, Outv.enc, t1, k1, wr1, wr2, wr3, wc1, wc2, Bool.true_beq, Bool.false_beq,  ↓reduceIte, reduceCtorEq, Nat.reduceAdd, Nat.reduceSub, Nat.reduceLeDiff, Nat.reduceEqDiff, Nat.reduceMul, Nat.reduceLT, Nat.reducePow, Int.reduceEq, Int.reduceLT, Int.reduceLE, Int.reduceGT, Int.reduceGE, Int.reduceAdd, Int.reduceSub, Int.reduceNeg, Int.reduceToNat])
          | (with_reducible refine CallD.intro (ref_oBool _) ?_; simp (maxSteps := 10000000) (implicitDefEqProofs := false) only [go_sem, Val.enc, Outv.enc, t1, k1, wr1, wr2, wr3, wc1, wc2, Bool.true_beq, Bool.false_beq,  ↓reduceIte, reduceCtorEq, Nat.reduceAdd, Nat.reduceSub, Nat.reduceLeDiff, Nat.reduceEqDiff, Nat.reduceMul, Nat.reduceLT, Nat.reducePow, Int.reduceEq, Int.reduceLT, Int.reduceLE, Int.reduceGT, Int.reduceGE, Int.reduceAdd, Int.reduceSub, Int.reduceNeg, Int.reduceToNat])
          | (with_reducible refine CallS.intro (ref_oSame _ _ _ _ _ _ _ _) ?_; simp (maxSteps := 10000000) (implicitDefEqProofs := false) only [go_sem, Val.enc, Outv.enc, t1, k1, wr1, wr2, wr3, wc1, wc2, Bool.true_beq, Bool.false_beq,  ↓reduceIte, reduceCtorEq, Nat.reduceAdd, Nat.reduceSub, Nat.reduceLeDiff, Nat.reduceEqDiff, Nat.reduceMul, Nat.reduceLT, Nat.reducePow, Int.reduceEq, Int.reduceLT, Int.reduceLE, Int.reduceGT, Int.reduceGE, Int.reduceAdd, Int.reduceSub, Int.reduceNeg, Int.reduceToNat])
          | (with_reducible refine CallD.intro (ref_oSame _ _ _ _ _ _ _ _) ?_; simp (maxSteps := 10000000) (implicitDefEqProofs := false) only [go_sem, Val.enc, Outv.enc, t1, k1, wr1, wr2, wr3, wc1, wc2, Bool.true_beq, Bool.false_beq,  ↓reduceIte, reduceCtorEq, Nat.reduceAdd, Nat.reduceSub, Nat.reduceLeDiff, Nat.reduceEqDiff, Nat.reduceMul, Nat.reduceLT, Nat.reducePow, Int.reduceEq, Int.reduceLT, Int.reduceLE, Int.reduceGT, Int.reduceGE, Int.reduceAdd, Int.reduceSub, Int.reduceNeg, Int.reduceToNat])
          | ((fail_if_success with_reducible show False); with_reducible apply_assumption (exfalso := false) (symm := false) only [*, rfl, trivial, congrArg])
          | with_reducible refine And.intro ?_ ?_
          | (intro h; contradiction)
          | (intro h; subst h)
          | intro h
          | simp (maxSteps := 10000000) (implicitDefEqProofs := false) only [go_sem, Val.enc, Outv.enc, t1, k1, wr1, wr2, wr3, wc1, wc2, Bool.true_beq, Bool.false_beq,  ↓reduceIte, reduceCtorEq, Nat.reduceAdd, Nat.reduceSub, Nat.reduceLeDiff, Nat.reduceEqDiff, Nat.reduceMul, Nat.reduceLT, Nat.reducePow, Int.reduceEq, Int.reduceLT, Int.reduceLE, Int.reduceGT, Int.reduceGE, Int.reduceAdd, Int.reduceSub, Int.reduceNeg, Int.reduceToNat])
      all_goals first
        | (exfalso; omega)
        | (cases z <;> simp_all <;> done)
        | exact ⟨⟨1, by omega, .inr (.inr (.inl ⟨rfl, ⟨rfl, rfl, by simp [Outv.enc, Val.enc, e2], by simp [Outv.enc, Val.enc]⟩⟩))⟩⟩
        | trace_state
  · refine a_has hs fun τ σ γ => ?_
    cases hb : b2
    all_goals
      rw [hb] at t2 e3
      simp only [if_true, Bool.false_eq_true, if_false] at e3
      repeat' (first
          | (with_reducible refine a_seq_k ?_; intro K hK)
          | (with_reducible refine a_region (by kernel_rfl) ?_; simp (maxSteps := 10000000) (implicitDefEqProofs := false) only [go_sem, Val.enc, Outv.enc, t2, k2, wr1, wr2, wr3, wc1, wc2, Bool.true_beq, Bool.false_beq,  ↓reduceIte, reduceCtorEq, Nat.reduceAdd, Nat.reduceSub, Nat.reduceLeDiff, Nat.reduceEqDiff, Nat.reduceMul, Nat.reduceLT, Nat.reducePow, Int.reduceEq, Int.reduceLT, Int.reduceLE, Int.reduceGT, Int.reduceGE, Int.reduceAdd, Int.reduceSub, Int.reduceNeg, Int.reduceToNat])
          | (with_reducible refine a_draw mixed (by kernel_rfl) ?_; intro C hC; simp (maxSteps := 10000000) (implicitDefEqProofs := false) only [go_sem, Val.enc, Outv.enc, t2, k2, wr1, wr2, wr3, wc1, wc2, Bool.true_beq, Bool.false_beq,  ↓reduceIte, reduceCtorEq, Nat.reduceAdd, Nat.reduceSub, Nat.reduceLeDiff, Nat.reduceEqDiff, Nat.reduceMul, Nat.reduceLT, Nat.reducePow, Int.reduceEq, Int.reduceLT, Int.reduceLE, Int.reduceGT, Int.reduceGE, Int.reduceAdd, Int.reduceSub, Int.reduceNeg, Int.reduceToNat])
          | with_reducible refine a_block ?_
          | with_reducible refine a_ret ?_
          | with_reducible refine a_exit ?_
          | with_reducible refine a_skip ?_
          | (with_reducible refine a_cond_k ?_; intro X Y hX hY; simp (maxSteps := 10000000) (implicitDefEqProofs := false) only [go_sem, Val.enc, Outv.enc, t2, k2, wr1, wr2, wr3, wc1, wc2, Bool.true_beq, Bool.false_beq,  ↓reduceIte, reduceCtorEq, Nat.reduceAdd, Nat.reduceSub, Nat.reduceLeDiff, Nat.reduceEqDiff, Nat.reduceMul, Nat.reduceLT, Nat.reducePow, Int.reduceEq, Int.reduceLT, Int.reduceLE, Int.reduceGT, Int.reduceGE, Int.reduceAdd, Int.reduceSub, Int.reduceNeg, Int.reduceToNat])
          | with_reducible exact ConfOk.mk (by kernel_rfl)
          | (with_reducible refine eqT_of (eq33 _ _ _ _ _ _) ?_; simp)
          | (with_reducible refine eqT_of (eq35 _ _ _ _ _ _ _ _) ?_; simp)
          | (with_reducible refine RetOk.mk ?_; simp (maxSteps := 10000000) (implicitDefEqProofs := false) only [go_sem, Val.enc, Outv.enc, t2, k2, wr1, wr2, wr3, wc1, wc2, Bool.true_beq, Bool.false_beq,  ↓reduceIte, reduceCtorEq, Nat.reduceAdd, Nat.reduceSub, Nat.reduceLeDiff, Nat.reduceEqDiff, Nat.reduceMul, Nat.reduceLT, Nat.reducePow, Int.reduceEq, Int.reduceLT, Int.reduceLE, Int.reduceGT, Int.reduceGE, Int.reduceAdd, Int.reduceSub, Int.reduceNeg, Int.reduceToNat])
          | (with_reducible refine CallS.intro (m2) ?_; simp (maxSteps := 10000000) (implicitDefEqProofs := false) only [go_sem, Val.enc, Outv.enc, t2, k2, wr1, wr2, wr3, wc1, wc2, Bool.true_beq, Bool.false_beq,  ↓reduceIte, reduceCtorEq, Nat.reduceAdd, Nat.reduceSub, Nat.reduceLeDiff, Nat.reduceEqDiff, Nat.reduceMul, Nat.reduceLT, Nat.reducePow, Int.reduceEq, Int.reduceLT, Int.reduceLE, Int.reduceGT, Int.reduceGE, Int.reduceAdd, Int.reduceSub, Int.reduceNeg, Int.reduceToNat])
          | (with_reducible refine CallD.intro (m2) ?_; simp (maxSteps := 10000000) (implicitDefEqProofs := false) only [go_sem, Val.enc, Outv.enc, t2, k2, wr1, wr2, wr3, wc1, wc2, Bool.true_beq, Bool.false_beq,  ↓reduceIte, reduceCtorEq, Nat.reduceAdd, Nat.reduceSub, Nat.reduceLeDiff, Nat.reduceEqDiff, Nat.reduceMul, Nat.reduceLT, Nat.reducePow, Int.reduceEq, Int.reduceLT, Int.reduceLE, Int.reduceGT, Int.reduceGE, Int.reduceAdd, Int.reduceSub, Int.reduceNeg, Int.reduceToNat])
          | (with_reducible refine CallS.intro (ref_oBool _) ?_; simp (maxSteps := 10000000) (implicitDefEqProofs := false) only [go_sem, Val.enc, Outv.enc, t2, k2, wr1, wr2, wr3, wc1, wc2, Bool.true_beq, Bool.false_beq,  ↓reduceIte, reduceCtorEq, Nat.reduceAdd, Nat.reduceSub, Nat.reduceLeDiff, Nat.reduceEqDiff, Nat.reduceMul, Nat.reduceLT, Nat.reducePow, Int.reduceEq, Int.reduceLT, Int.reduceLE, Int.reduceGT, Int.reduceGE, Int.reduceAdd, Int.reduceSub, Int.reduceNeg, Int.reduceToNat])
          | (with_reducible refine CallD.intro (ref_oBool _) ?_; simp (maxSteps := 10000000) (implicitDefEqProofs := false) only [go_sem, Val.enc, Outv.enc, t2, k2, wr1, wr2, wr3, wc1, wc2, Bool.true_beq, Bool.false_beq,  ↓reduceIte, reduceCtorEq, Nat.reduceAdd, Nat.reduceSub, Nat.reduceLeDiff, Nat.reduceEqDiff, Nat.reduceMul, Nat.reduceLT, Nat.reducePow, Int.reduceEq, Int.reduceLT, Int.reduceLE, Int.reduceGT, Int.reduceGE, Int.reduceAdd, Int.reduceSub, Int.reduceNeg, Int.reduceToNat])
          | (with_reducible refine CallS.intro (ref_oSame _ _ _ _ _ _ _ _) ?_; simp (maxSteps := 10000000) (implicitDefEqProofs := false) only [go_sem, Val.enc, Outv.enc, t2, k2, wr1, wr2, wr3, wc1, wc2, Bool.true_beq, Bool.false_beq,  ↓reduceIte, reduceCtorEq, Nat.reduceAdd, Nat.reduceSub, Nat.reduceLeDiff, Nat.reduceEqDiff, Nat.reduceMul, Nat.reduceLT, Nat.reducePow, Int.reduceEq, Int.reduceLT, Int.reduceLE, Int.reduceGT, Int.reduceGE, Int.reduceAdd, Int.reduceSub, Int.reduceNeg, Int.reduceToNat])
          | (with_reducible refine CallD.intro (ref_oSame _ _ _ _ _ _ _ _) ?_; simp (maxSteps := 10000000) (implicitDefEqProofs := false) only [go_sem, Val.enc, Outv.enc, t2, k2, wr1, wr2, wr3, wc1, wc2, Bool.true_beq, Bool.false_beq,  ↓reduceIte, reduceCtorEq, Nat.reduceAdd, Nat.reduceSub, Nat.reduceLeDiff, Nat.reduceEqDiff, Nat.reduceMul, Nat.reduceLT, Nat.reducePow, Int.reduceEq, Int.reduceLT, Int.reduceLE, Int.reduceGT, Int.reduceGE, Int.reduceAdd, Int.reduceSub, Int.reduceNeg, Int.reduceToNat])
          | ((fail_if_success with_reducible show False); with_reducible apply_assumption (exfalso := false) (symm := false) only [*, rfl, trivial, congrArg])
          | with_reducible refine And.intro ?_ ?_
          | (intro h; contradiction)
          | (intro h; subst h)
          | intro h
          | simp (maxSteps := 10000000) (implicitDefEqProofs := false) only [go_sem, Val.enc, Outv.enc, t2, k2, wr1, wr2, wr3, wc1, wc2, Bool.true_beq, Bool.false_beq,  ↓reduceIte, reduceCtorEq, Nat.reduceAdd, Nat.reduceSub, Nat.reduceLeDiff, Nat.reduceEqDiff, Nat.reduceMul, Nat.reduceLT, Nat.reducePow, Int.reduceEq, Int.reduceLT, Int.reduceLE, Int.reduceGT, Int.reduceGE, Int.reduceAdd, Int.reduceSub, Int.reduceNeg, Int.reduceToNat])
      all_goals first
        | (exfalso; omega)
        | (cases z <;> simp_all <;> done)
        | exact ⟨⟨0, by omega, .inr (.inr (.inr ⟨rfl, ⟨rfl, rfl, by simp [Outv.enc, Val.enc, e3], by simp [Outv.enc, Val.enc]⟩⟩))⟩⟩
        | trace_state
  · refine a_has hs fun τ σ γ => ?_
    repeat' (first
        | (with_reducible refine a_seq_k ?_; intro K hK)
        | (with_reducible refine a_region (by kernel_rfl) ?_; simp (maxSteps := 10000000) (implicitDefEqProofs := false) only [go_sem, Val.enc, Outv.enc,  ↓reduceIte, reduceCtorEq, Nat.reduceAdd, Nat.reduceSub, Nat.reduceLeDiff, Nat.reduceEqDiff, Nat.reduceMul, Nat.reduceLT, Nat.reducePow, Int.reduceEq, Int.reduceLT, Int.reduceLE, Int.reduceGT, Int.reduceGE, Int.reduceAdd, Int.reduceSub, Int.reduceNeg, Int.reduceToNat])
        | (with_reducible refine a_draw mixed (by kernel_rfl) ?_; intro C hC; simp (maxSteps := 10000000) (implicitDefEqProofs := false) only [go_sem, Val.enc, Outv.enc,  ↓reduceIte, reduceCtorEq, Nat.reduceAdd, Nat.reduceSub, Nat.reduceLeDiff, Nat.reduceEqDiff, Nat.reduceMul, Nat.reduceLT, Nat.reducePow, Int.reduceEq, Int.reduceLT, Int.reduceLE, Int.reduceGT, Int.reduceGE, Int.reduceAdd, Int.reduceSub, Int.reduceNeg, Int.reduceToNat])
        | with_reducible refine a_block ?_
        | with_reducible refine a_ret ?_
        | with_reducible refine a_exit ?_
        | with_reducible refine a_skip ?_
        | (with_reducible refine a_cond_k ?_; intro X Y hX hY; simp (maxSteps := 10000000) (implicitDefEqProofs := false) only [go_sem, Val.enc, Outv.enc,  ↓reduceIte, reduceCtorEq, Nat.reduceAdd, Nat.reduceSub, Nat.reduceLeDiff, Nat.reduceEqDiff, Nat.reduceMul, Nat.reduceLT, Nat.reducePow, Int.reduceEq, Int.reduceLT, Int.reduceLE, Int.reduceGT, Int.reduceGE, Int.reduceAdd, Int.reduceSub, Int.reduceNeg, Int.reduceToNat])
        | with_reducible exact ConfOk.mk (by kernel_rfl)
        | (with_reducible refine eqT_of (eq33 _ _ _ _ _ _) ?_; simp)
        | (with_reducible refine eqT_of (eq35 _ _ _ _ _ _ _ _) ?_; simp)
        | (with_reducible refine RetOk.mk ?_; simp (maxSteps := 10000000) (implicitDefEqProofs := false) only [go_sem, Val.enc, Outv.enc,  ↓reduceIte, reduceCtorEq, Nat.reduceAdd, Nat.reduceSub, Nat.reduceLeDiff, Nat.reduceEqDiff, Nat.reduceMul, Nat.reduceLT, Nat.reducePow, Int.reduceEq, Int.reduceLT, Int.reduceLE, Int.reduceGT, Int.reduceGE, Int.reduceAdd, Int.reduceSub, Int.reduceNeg, Int.reduceToNat])
        | (with_reducible refine CallS.intro (law_awake) ?_; simp (maxSteps := 10000000) (implicitDefEqProofs := false) only [go_sem, Val.enc, Outv.enc,  ↓reduceIte, reduceCtorEq, Nat.reduceAdd, Nat.reduceSub, Nat.reduceLeDiff, Nat.reduceEqDiff, Nat.reduceMul, Nat.reduceLT, Nat.reducePow, Int.reduceEq, Int.reduceLT, Int.reduceLE, Int.reduceGT, Int.reduceGE, Int.reduceAdd, Int.reduceSub, Int.reduceNeg, Int.reduceToNat])
        | (with_reducible refine CallD.intro (law_awake) ?_; simp (maxSteps := 10000000) (implicitDefEqProofs := false) only [go_sem, Val.enc, Outv.enc,  ↓reduceIte, reduceCtorEq, Nat.reduceAdd, Nat.reduceSub, Nat.reduceLeDiff, Nat.reduceEqDiff, Nat.reduceMul, Nat.reduceLT, Nat.reducePow, Int.reduceEq, Int.reduceLT, Int.reduceLE, Int.reduceGT, Int.reduceGE, Int.reduceAdd, Int.reduceSub, Int.reduceNeg, Int.reduceToNat])
        | ((fail_if_success with_reducible show False); with_reducible apply_assumption (exfalso := false) (symm := false) only [*, rfl, trivial, congrArg])
        | with_reducible refine And.intro ?_ ?_
        | (intro h; contradiction)
        | (intro h; subst h)
        | intro h
        | simp (maxSteps := 10000000) (implicitDefEqProofs := false) only [go_sem, Val.enc, Outv.enc,  ↓reduceIte, reduceCtorEq, Nat.reduceAdd, Nat.reduceSub, Nat.reduceLeDiff, Nat.reduceEqDiff, Nat.reduceMul, Nat.reduceLT, Nat.reducePow, Int.reduceEq, Int.reduceLT, Int.reduceLE, Int.reduceGT, Int.reduceGE, Int.reduceAdd, Int.reduceSub, Int.reduceNeg, Int.reduceToNat])
    all_goals first
      | (exfalso; omega)
      | trace_state
theorem law_compares (x y : Val) (hx : x.In) (hy : y.In) : ACalls Tryd.prog 6 [.agg x.enc, .agg y.enc] (.bool true) := by
  have q1 := ref_vValid x.kind x.int x.text
  have q2 := ref_vValid y.kind y.int y.text
  have q3 := ref_Agree x.kind y.kind
  by_cases hv : vOk x.kind x.int x.text = true ∧ vOk y.kind y.int y.text = true ∧ agree x.kind y.kind = true
  · obtain ⟨vx, vy, ha⟩ := hv
    clear q1 q2 q3
    have nd := fun op hop => node_cmp op hop x y vx vy hx hy ha
    have ns := node_same x y vx vy hx hy ha
    have nn := fun (o : Outv) (h : truthO o = true) (hi : o.In) => node_not o h hi
    have hI : ∀ o : Outv, truthO o = true → o.In := fun o h => truth_In h
    by_cases hn : x.kind = 0 ∨ y.kind = 0
    · simp only [if_pos hn] at nd
      exact compares_core x y nullO nullO nullO nullO nullO nullO false false false true vx vy ha (nd 14 (by omega)) (nd 12 (by omega)) (nd 16 (by omega)) (nd 17 (by omega)) (nd 13 (by omega)) (nd 15 (by omega)) ns
        (nn nullO rfl (hI _ rfl)) (nn nullO rfl (hI _ rfl)) (nn nullO rfl (hI _ rfl)) rfl rfl rfl rfl rfl rfl 0 0 0 rfl rfl rfl (.inl ⟨hn, rfl, rfl⟩)
    · simp only [if_neg hn] at nd
      have n14 := nd 14 (by omega)
      have n12 := nd 12 (by omega)
      have n16 := nd 16 (by omega)
      have n17 := nd 17 (by omega)
      have n13 := nd 13 (by omega)
      have n15 := nd 15 (by omega)
      clear nd
      generalize cmpV x y = c at n14 n12 n16 n17 n13 n15
      rcases (by omega : c < 0 ∨ c = 0 ∨ 0 < c) with h | h | h
      · rw [show opB 14 c = true by simp [opB, h]] at n14
        rw [show opB 12 c = false by simp [opB]; omega] at n12
        rw [show opB 16 c = false by simp [opB]; omega] at n16
        rw [show opB 17 c = false by simp [opB]; omega] at n17
        rw [show opB 13 c = true by simp [opB]; omega] at n13
        rw [show opB 15 c = true by simp [opB]; omega] at n15
        exact compares_core x y trueO (boolO false) (boolO false) (boolO false) trueO trueO true false false false vx vy ha n14 n12 n16 n17 n13 n15 ns
          (nn trueO rfl (hI _ rfl)) (nn (boolO false) rfl (hI _ rfl)) (nn (boolO false) rfl (hI _ rfl)) rfl rfl rfl rfl rfl rfl 1 1 1 rfl rfl rfl (.inr ⟨hn, rfl, rfl⟩)
      · rw [show opB 14 c = false by simp [opB]; omega] at n14
        rw [show opB 12 c = true by simp [opB, h]] at n12
        rw [show opB 16 c = false by simp [opB]; omega] at n16
        rw [show opB 17 c = true by simp [opB]; omega] at n17
        rw [show opB 13 c = false by simp [opB, h]] at n13
        rw [show opB 15 c = true by simp [opB]; omega] at n15
        exact compares_core x y (boolO false) trueO (boolO false) trueO (boolO false) trueO false true false false vx vy ha n14 n12 n16 n17 n13 n15 ns
          (nn (boolO false) rfl (hI _ rfl)) (nn trueO rfl (hI _ rfl)) (nn (boolO false) rfl (hI _ rfl)) rfl rfl rfl rfl rfl rfl 0 1 1 rfl rfl rfl (.inr ⟨hn, rfl, rfl⟩)
      · rw [show opB 14 c = false by simp [opB]; omega] at n14
        rw [show opB 12 c = false by simp [opB]; omega] at n12
        rw [show opB 16 c = true by simp [opB, h]] at n16
        rw [show opB 17 c = true by simp [opB]; omega] at n17
        rw [show opB 13 c = true by simp [opB]; omega] at n13
        rw [show opB 15 c = false by simp [opB]; omega] at n15
        exact compares_core x y (boolO false) (boolO false) trueO trueO trueO (boolO false) false false true false vx vy ha n14 n12 n16 n17 n13 n15 ns
          (nn (boolO false) rfl (hI _ rfl)) (nn (boolO false) rfl (hI _ rfl)) (nn trueO rfl (hI _ rfl)) rfl rfl rfl rfl rfl rfl 0 0 1 rfl rfl rfl (.inr ⟨hn, rfl, rfl⟩)
  · generalize vOk x.kind x.int x.text = a at q1 hv
    generalize vOk y.kind y.int y.text = b at q2 hv
    generalize agree x.kind y.kind = c at q3 hv
    cases a <;> cases b <;> cases c <;> first
      | exact absurd ⟨rfl, rfl, rfl⟩ hv
      | skip
    all_goals
      refine acalls_k Tryd.func6 rfl (by kernel_rfl) (congrArg Array.toList Tryd.results6) Tryd.ntmps6 ?_
      intro R hR
      simp only [st0, List.length_cons, List.length_nil, Nat.reduceAdd, Nat.reduceSub, List.replicate_succ, List.replicate_zero, List.cons_append, List.nil_append]
      repeat' (first
          | (with_reducible refine a_seq_k ?_; intro K hK)
          | (with_reducible refine a_region (by kernel_rfl) ?_; simp (maxSteps := 10000000) (implicitDefEqProofs := false) only [go_sem, Val.enc,  ↓reduceIte, reduceCtorEq, Nat.reduceAdd, Nat.reduceSub, Nat.reduceLeDiff, Nat.reduceEqDiff, Nat.reduceMul, Nat.reduceLT, Nat.reducePow, Int.reduceEq, Int.reduceLT, Int.reduceLE, Int.reduceGT, Int.reduceGE, Int.reduceAdd, Int.reduceSub, Int.reduceNeg, Int.reduceToNat])
          | (with_reducible refine a_draw mixed (by kernel_rfl) ?_; intro C hC; simp (maxSteps := 10000000) (implicitDefEqProofs := false) only [go_sem, Val.enc,  ↓reduceIte, reduceCtorEq, Nat.reduceAdd, Nat.reduceSub, Nat.reduceLeDiff, Nat.reduceEqDiff, Nat.reduceMul, Nat.reduceLT, Nat.reducePow, Int.reduceEq, Int.reduceLT, Int.reduceLE, Int.reduceGT, Int.reduceGE, Int.reduceAdd, Int.reduceSub, Int.reduceNeg, Int.reduceToNat])
          | with_reducible refine a_block ?_
          | with_reducible refine a_ret ?_
          | with_reducible refine a_exit ?_
          | with_reducible refine a_skip ?_
          | (with_reducible refine a_cond_k ?_; intro X Y hX hY; simp (maxSteps := 10000000) (implicitDefEqProofs := false) only [go_sem, Val.enc,  ↓reduceIte, reduceCtorEq, Nat.reduceAdd, Nat.reduceSub, Nat.reduceLeDiff, Nat.reduceEqDiff, Nat.reduceMul, Nat.reduceLT, Nat.reducePow, Int.reduceEq, Int.reduceLT, Int.reduceLE, Int.reduceGT, Int.reduceGE, Int.reduceAdd, Int.reduceSub, Int.reduceNeg, Int.reduceToNat])
          | with_reducible exact ConfOk.mk (by kernel_rfl)
          | (with_reducible refine eqT_of (eq33 _ _ _ _ _ _) ?_; simp)
          | (with_reducible refine eqT_of (eq35 _ _ _ _ _ _ _ _) ?_; simp)
          | (with_reducible refine RetOk.mk ?_; simp (maxSteps := 10000000) (implicitDefEqProofs := false) only [go_sem, Val.enc,  ↓reduceIte, reduceCtorEq, Nat.reduceAdd, Nat.reduceSub, Nat.reduceLeDiff, Nat.reduceEqDiff, Nat.reduceMul, Nat.reduceLT, Nat.reducePow, Int.reduceEq, Int.reduceLT, Int.reduceLE, Int.reduceGT, Int.reduceGE, Int.reduceAdd, Int.reduceSub, Int.reduceNeg, Int.reduceToNat])
          | (with_reducible refine CallS.intro (q1) ?_; simp (maxSteps := 10000000) (implicitDefEqProofs := false) only [go_sem, Val.enc,  ↓reduceIte, reduceCtorEq, Nat.reduceAdd, Nat.reduceSub, Nat.reduceLeDiff, Nat.reduceEqDiff, Nat.reduceMul, Nat.reduceLT, Nat.reducePow, Int.reduceEq, Int.reduceLT, Int.reduceLE, Int.reduceGT, Int.reduceGE, Int.reduceAdd, Int.reduceSub, Int.reduceNeg, Int.reduceToNat])
          | (with_reducible refine CallD.intro (q1) ?_; simp (maxSteps := 10000000) (implicitDefEqProofs := false) only [go_sem, Val.enc,  ↓reduceIte, reduceCtorEq, Nat.reduceAdd, Nat.reduceSub, Nat.reduceLeDiff, Nat.reduceEqDiff, Nat.reduceMul, Nat.reduceLT, Nat.reducePow, Int.reduceEq, Int.reduceLT, Int.reduceLE, Int.reduceGT, Int.reduceGE, Int.reduceAdd, Int.reduceSub, Int.reduceNeg, Int.reduceToNat])
          | (with_reducible refine CallS.intro (q2) ?_; simp (maxSteps := 10000000) (implicitDefEqProofs := false) only [go_sem, Val.enc,  ↓reduceIte, reduceCtorEq, Nat.reduceAdd, Nat.reduceSub, Nat.reduceLeDiff, Nat.reduceEqDiff, Nat.reduceMul, Nat.reduceLT, Nat.reducePow, Int.reduceEq, Int.reduceLT, Int.reduceLE, Int.reduceGT, Int.reduceGE, Int.reduceAdd, Int.reduceSub, Int.reduceNeg, Int.reduceToNat])
          | (with_reducible refine CallD.intro (q2) ?_; simp (maxSteps := 10000000) (implicitDefEqProofs := false) only [go_sem, Val.enc,  ↓reduceIte, reduceCtorEq, Nat.reduceAdd, Nat.reduceSub, Nat.reduceLeDiff, Nat.reduceEqDiff, Nat.reduceMul, Nat.reduceLT, Nat.reducePow, Int.reduceEq, Int.reduceLT, Int.reduceLE, Int.reduceGT, Int.reduceGE, Int.reduceAdd, Int.reduceSub, Int.reduceNeg, Int.reduceToNat])
          | (with_reducible refine CallS.intro (q3) ?_; simp (maxSteps := 10000000) (implicitDefEqProofs := false) only [go_sem, Val.enc,  ↓reduceIte, reduceCtorEq, Nat.reduceAdd, Nat.reduceSub, Nat.reduceLeDiff, Nat.reduceEqDiff, Nat.reduceMul, Nat.reduceLT, Nat.reducePow, Int.reduceEq, Int.reduceLT, Int.reduceLE, Int.reduceGT, Int.reduceGE, Int.reduceAdd, Int.reduceSub, Int.reduceNeg, Int.reduceToNat])
          | (with_reducible refine CallD.intro (q3) ?_; simp (maxSteps := 10000000) (implicitDefEqProofs := false) only [go_sem, Val.enc,  ↓reduceIte, reduceCtorEq, Nat.reduceAdd, Nat.reduceSub, Nat.reduceLeDiff, Nat.reduceEqDiff, Nat.reduceMul, Nat.reduceLT, Nat.reducePow, Int.reduceEq, Int.reduceLT, Int.reduceLE, Int.reduceGT, Int.reduceGE, Int.reduceAdd, Int.reduceSub, Int.reduceNeg, Int.reduceToNat])
          | (with_reducible refine CallS.intro (law_awake) ?_; simp (maxSteps := 10000000) (implicitDefEqProofs := false) only [go_sem, Val.enc,  ↓reduceIte, reduceCtorEq, Nat.reduceAdd, Nat.reduceSub, Nat.reduceLeDiff, Nat.reduceEqDiff, Nat.reduceMul, Nat.reduceLT, Nat.reducePow, Int.reduceEq, Int.reduceLT, Int.reduceLE, Int.reduceGT, Int.reduceGE, Int.reduceAdd, Int.reduceSub, Int.reduceNeg, Int.reduceToNat])
          | (with_reducible refine CallD.intro (law_awake) ?_; simp (maxSteps := 10000000) (implicitDefEqProofs := false) only [go_sem, Val.enc,  ↓reduceIte, reduceCtorEq, Nat.reduceAdd, Nat.reduceSub, Nat.reduceLeDiff, Nat.reduceEqDiff, Nat.reduceMul, Nat.reduceLT, Nat.reducePow, Int.reduceEq, Int.reduceLT, Int.reduceLE, Int.reduceGT, Int.reduceGE, Int.reduceAdd, Int.reduceSub, Int.reduceNeg, Int.reduceToNat])
          | ((fail_if_success with_reducible show False); with_reducible apply_assumption (exfalso := false) (symm := false) only [*, rfl, trivial, congrArg])
          | with_reducible refine And.intro ?_ ?_
          | (intro h; contradiction)
          | (intro h; subst h)
          | intro h
          | simp (maxSteps := 10000000) (implicitDefEqProofs := false) only [go_sem, Val.enc,  ↓reduceIte, reduceCtorEq, Nat.reduceAdd, Nat.reduceSub, Nat.reduceLeDiff, Nat.reduceEqDiff, Nat.reduceMul, Nat.reduceLT, Nat.reducePow, Int.reduceEq, Int.reduceLT, Int.reduceLE, Int.reduceGT, Int.reduceGE, Int.reduceAdd, Int.reduceSub, Int.reduceNeg, Int.reduceToNat])
end
set_option maxRecDepth 100000 in
theorem calcCompares_returns (os : Os) (started : os.Started) (H : Type) (enc : TypeId × Value → H) (F : Stop.Interp) :
    ReturnsInHanded {} Tryd.checked os 6 .any (Rows.calcComparesRow.pre enc Tryd.prog Tryd.f6 (OpenSpec.ofChange Rows.calcComparesSpec)) (((OpenSpec.ofChange Rows.calcComparesSpec).at F).post enc Tryd.prog Tryd.f6 false true false false) := by
  refine law_returns (C := Tryd.checked) (fn := Tryd.f6) (s := (OpenSpec.ofChange Rows.calcComparesSpec)) (c := Rows.calcComparesRow) (F := F) (tb := 4) (K := fun ds gs => True ∧ (DataW.weightsEach Tryd.prog (Tryd.f6.params.toList ++ (OpenSpec.ofChange Rows.calcComparesSpec).bare.plain.varTypes Tryd.prog) (ds ++ gs)).all (· ≤ reachBytes) = true) (fun w args h => all_pre rfl h) seatOwn started (by kernel_rfl) Tryd.func6 seatLaidOut (by kernel_rfl) (by kernel_rfl) (by kernel_rfl) rfl ?_ ?_
  · exact law_witness (P := Tryd.prog) rfl rfl rfl #[.agg #[.int .u8 0, .int .i64 0, .string ⟨#[]⟩], .agg #[.int .u8 0, .int .i64 0, .string ⟨#[]⟩]] 8 (y := ([.agg [.lit (.int .u8 0), .lit (.int .i64 0), .lit (.string [])], .agg [.lit (.int .u8 0), .lit (.int .i64 0), .lit (.string [])]], [], [])) (World.shaped_of_ZipB (by kernel_rfl) (by kernel_rfl)) (by kernel_rfl) (by kernel_rfl) (fun k hk => by cases hk) (by kernel_rfl)
      (by rw [MakeChecks.laidMetH_plain _ _ _ (by kernel_rfl)]; exact laidMet_laidAll _ (by kernel_rfl) (by kernel_rfl))
  · intro W base args ds gs before hval0 hW hK
    have hval : ∀ (j : Nat) t v, Tryd.f6.params[j]? = some t → args[j]? = some v → Value.okWide Tryd.prog W .any base t v := hval0
    obtain ⟨p, q, hA0, hV, rfl, _, _⟩ := hW
    have hA : DataW.TrodAll enc Tryd.prog W 0 (fun _ => true) true Tryd.f6.params.toList args.toList ds p := hA0
    rw [Tryd.params6] at hA hval
    have hw := hK.2
    rw [Tryd.params6] at hw
    obtain ⟨v0, v1, d0, d1, p0, p1, rfl, rfl, rfl, h0, h1⟩ := ChangeShapes.trodAll_two hA
    obtain ⟨rfl, rfl⟩ := ChangeShapes.trodVars_none hV
    obtain ⟨w0, w1⟩ := weights_two hw
    obtain ⟨xs0, ty0, r0⟩ := open_arg (n := 9) (T := ttV) (by kernel_rfl) (hval 0 33 v0 rfl rfl) h0 w0
    obtain ⟨xs1, ty1, r1⟩ := open_arg (n := 9) (T := ttV) (by kernel_rfl) (hval 1 33 v1 rfl rfl) h1 w1
    obtain ⟨x, rfl, hx⟩ := ty_val _ _ ty0
    obtain ⟨y, rfl, hy⟩ := ty_val _ _ ty1
    exact ⟨rfl, calls_of_acalls (law_compares x y hx hy) (.cons r0 (.cons r1 .nil))⟩
theorem calcCompares_holds : Rows.CalcComparesSaid :=
  OpenClaim.holds_of_cond 6 Tryd.f6 rfl rfl rfl rfl rfl rfl rfl ⟨rfl, rfl, rfl, rfl, rfl⟩ rfl rfl rfl rfl rfl (by kernel_rfl) Tryd.func6 (by kernel_rfl)
    (of_decide_eq_true (by kernel_rfl)) (by unfold Func.isWrapper; first | (rw [if_pos (by decide +kernel)]; kernel_rfl) | (rw [if_neg (by decide +kernel)]; exact ⟨rfl, rfl⟩))
    (fun os started H enc _ F => calcCompares_returns os started H enc F)
theorem calcCompares_card : Rows.CalcComparesCardSaid :=
  Claim7.holds_tied_plain_at .later [] [.data, .pinned] true (true, "bd67f24882592499edb56b6875a22e02bd77f63e18e8888de302a9fcdb1261f8") false
    calcCompares_holds (fun _ h => by cases h) (by kernel_rfl) (fun _ h => by cases h) calcCompares_row_tie rfl ⟨rfl, rfl⟩ (by kernel_rfl) rfl
    (fun f fn hf hfn => by
      obtain rfl : f = 6 := Option.some.inj ((show Tryd.prog.funcNamed "jointer/jointerlaw05.CalcCompares" = some 6 by kernel_rfl).symm.trans hf) |>.symm
      obtain rfl : fn = Tryd.f6 := (Option.some.inj (Tryd.func6.symm.trans hfn)).symm
      refine ⟨by kernel_rfl, fun j t ht => ?_⟩
      rw [Tryd.params6] at ht
      match j, ht with
      | 0, ht => cases ht; exact (show Tryd.prog.wantsStandIn 33 = false by kernel_rfl)
      | 1, ht => cases ht; exact (show Tryd.prog.wantsStandIn 33 = false by kernel_rfl)
      | n + 2, ht => simp at ht)
    (by kernel_rfl)
#print axioms calcCompares_card
end Go.Proofs.YtmlaogjndaeihaaDoor

