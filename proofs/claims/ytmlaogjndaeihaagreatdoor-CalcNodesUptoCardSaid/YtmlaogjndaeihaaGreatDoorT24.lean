/- strings.Trim with one byte. value.Matches. -/
import Derived.Test.YtmlaogjndaeihaaGreatDoorT7
import Derived.Test.YtmlaogjndaeihaaGreatDoorM0
section
namespace Go.Proofs.YtmlaogjndaeihaaGreatDoor
open Go Go.Ab
attribute [local go_sem ↓] parts_tt parts_ff parts_tf parts_ft
attribute [local go_sem] parts_eq learnT aops_nil aops_cons aopsD_nil aopsD_cons stepS stepD gval St.learn skipR St.after putτ applyUpd List.foldl_cons List.foldl_nil pureOp memOp callOf litA closeO closeK List.flatMap_cons List.flatMap_nil Option.map_none decide_false opnd ofConst leaf binA unA lenA indexA indexAddrA fieldAddrA fieldA sliceA convertA pickV fillA placeS cellsA setA partA loadM storeM appendM srcEls lookBox lookRow lookMap closeL closeV scalarB scalarL killed buildEls lookupA leafEq eqAll resA resL tupA retA thenA blockA isInt loA hiA foldA maxA minA okSize leafB closedB Res.foot List.getD_cons_zero List.getD_cons_succ List.set_cons_zero List.set_cons_succ List.map_cons List.map_nil List.append_nil List.nil_append List.cons_append List.length_cons List.length_nil List.take_succ_cons List.take_zero List.drop_succ_cons List.drop_zero List.take_nil List.drop_nil List.all_cons List.all_nil List.getElem?_toArray List.getElem?_cons_zero List.getElem?_cons_succ Option.bind_some Option.map_some true_and and_true true_implies ne_eq not_true_eq_false not_false_eq_true Bool.true_eq_false Bool.false_eq_true Bool.not_true Bool.not_false decide_eq_true_eq decide_eq_false_iff_not false_implies implies_true and_self ite_true ite_false cond_true cond_false Option.some.injEq List.reverse_cons List.reverse_nil Bool.and_self Bool.true_and Bool.and_true Bool.false_and Bool.and_false Bool.or_true Bool.true_or Bool.or_false Bool.false_or Bool.not_eq_eq_eq_not Bool.not_not Bool.or_self beq_self_eq_true and_false false_and or_true true_or or_false false_or not_true not_false_iff Decidable.not_not lookT lookR tabT tabR Int.toNat_natCast List.length_map List.map_append List.length_append decide_true decide_false tmod2 List.mem_singleton forall_eq elOk1 elOk3 elOk4 castn0 castn1 castn2 castn3 getD_mid getD_mid_map at_lt at_end mid_lt mid_lt' nat_ge List.size_toArray Array.size_empty Nat.add_zero Nat.zero_add
attribute [local irreducible] ASpec ACalls retA ti EqT
set_option linter.unusedSimpArgs false
set_option maxHeartbeats 4000000
set_option maxRecDepth 100000
set_option linter.unusedVariables false
attribute [local go_sem] ti2 ti3 ti4 ti5 ti9 ti21 ti22 ti23 ti24 ti26 ti27 ti29 ti41 ti47 ti49 ti56 ti59 ti63 ti67 ti71 ti75 ti78 ti79 ti80 ti86 ti90 ti110
theorem ext_all (s : ByteArray) : s.extract 0 s.size = s := by
  apply ByteArray.ext
  rw [ByteArray.data_extract]
  exact Array.extract_size
theorem wrap_pred (n : Nat) (h : n + 1 < 2 ^ 62) : IntKind.i64.wrap (((n + 1 : Nat) : Int) - 1) = (n : Int) := by
  rw [show ((n + 1 : Nat) : Int) - 1 = (n : Int) by omega]
  simp [IntKind.wrap, IntKind.signed, IntKind.bits] <;> omega
theorem str_trimRight (s : ByteArray) (c : Int) (hs : s.size < 2 ^ 62) : ACalls Tryz.prog 88 [.str s, .int .u8 c] (.str (trimR c s)) := by
  have e0 := ext_all s
  refine acalls_k Tryz.func88 rfl (by kernel_rfl) (congrArg Array.toList Tryz.results88) Tryz.ntmps88 ?_
  intro R hR
  simp only [st0, List.length_cons, List.length_nil, Nat.reduceAdd, Nat.reduceSub, List.replicate_succ, List.replicate_zero, List.cons_append, List.nil_append]
  repeat' (first
      | (with_reducible refine a_seq_k ?_; intro K hK)
      | ((first | with_reducible refine a_region (by kernel_rfl) ?_ | (with_reducible refine a_draw mixed (by kernel_rfl) ?_; intro C hC) | (with_reducible refine a_cond_k ?_; intro X Y hX hY) | with_reducible refine RetOk.mk ?_); simp (maxSteps := 10000000) (implicitDefEqProofs := false) only [go_sem,  ↓reduceIte, reduceCtorEq, Nat.reduceAdd, Nat.reduceSub, Nat.reduceLeDiff, Nat.reduceEqDiff, Nat.reduceMul, Nat.reduceLT, Nat.reducePow, Int.reduceEq, Int.reduceLT, Int.reduceLE, Int.reduceGT, Int.reduceGE, Int.reduceAdd, Int.reduceSub, Int.reduceNeg, Int.reduceToNat])
      | with_reducible refine a_block ?_
      | with_reducible refine a_ret ?_
      | with_reducible refine a_exit ?_
      | with_reducible refine a_skip ?_
      | with_reducible exact ConfOk.mk (by kernel_rfl)
      | (with_reducible refine eqT_of (eq33 _ _ _ _ _ _) ?_; simp)
      | (with_reducible refine eqT_of (eq35 _ _ _ _ _ _ _ _) ?_; simp)
      | ((fail_if_success with_reducible show False); with_reducible apply_assumption (exfalso := false) (symm := false) only [*, rfl, trivial, congrArg])
      | with_reducible refine And.intro ?_ ?_
      | (intro h; contradiction)
      | (intro h; subst h)
      | intro h
      | simp (maxSteps := 10000000) (implicitDefEqProofs := false) only [go_sem,  ↓reduceIte, reduceCtorEq, Nat.reduceAdd, Nat.reduceSub, Nat.reduceLeDiff, Nat.reduceEqDiff, Nat.reduceMul, Nat.reduceLT, Nat.reducePow, Int.reduceEq, Int.reduceLT, Int.reduceLE, Int.reduceGT, Int.reduceGE, Int.reduceAdd, Int.reduceSub, Int.reduceNeg, Int.reduceToNat])
  refine a_loop_k (fun n st => (jR c (LB s) n = jR c (LB s) s.size ∧ n ≤ s.size) ∧ Has st 23 [(0, .str (s.extract 0 n)), (1, .int .u8 c)] []) s.size ⟨⟨rfl, Nat.le_refl _⟩, ⟨rfl, rfl, by simp [e0], by simp⟩⟩ ?_
  rintro n st ⟨⟨h1, h2⟩, hh⟩ K hK
  refine a_has hh fun τ σ γ => ?_
  have hz : (s.extract 0 n).size = n := by rw [ByteArray.size_extract]; omega
  rcases n with _ | n
  · have hpos : ¬ (0 : Int) < ((0 : Nat) : Int) := by omega
    repeat' (first
        | (with_reducible refine a_seq_k ?_; intro K hK)
        | ((first | with_reducible refine a_region (by kernel_rfl) ?_ | (with_reducible refine a_draw mixed (by kernel_rfl) ?_; intro C hC) | (with_reducible refine a_cond_k ?_; intro X Y hX hY) | with_reducible refine RetOk.mk ?_); simp (maxSteps := 10000000) (implicitDefEqProofs := false) only [go_sem, hz, hpos,  ↓reduceIte, reduceCtorEq, Nat.reduceAdd, Nat.reduceSub, Nat.reduceLeDiff, Nat.reduceEqDiff, Nat.reduceMul, Nat.reduceLT, Nat.reducePow, Int.reduceEq, Int.reduceLT, Int.reduceLE, Int.reduceGT, Int.reduceGE, Int.reduceAdd, Int.reduceSub, Int.reduceNeg, Int.reduceToNat])
        | with_reducible refine a_block ?_
        | with_reducible refine a_ret ?_
        | with_reducible refine a_exit ?_
        | with_reducible refine a_skip ?_
        | with_reducible exact ConfOk.mk (by kernel_rfl)
        | (with_reducible refine eqT_of (eq33 _ _ _ _ _ _) ?_; simp)
        | (with_reducible refine eqT_of (eq35 _ _ _ _ _ _ _ _) ?_; simp)
        | ((fail_if_success with_reducible show False); with_reducible apply_assumption (exfalso := false) (symm := false) only [*, rfl, trivial, congrArg])
        | with_reducible refine And.intro ?_ ?_
        | (intro h; contradiction)
        | (intro h; subst h)
        | intro h
        | simp (maxSteps := 10000000) (implicitDefEqProofs := false) only [go_sem, hz, hpos,  ↓reduceIte, reduceCtorEq, Nat.reduceAdd, Nat.reduceSub, Nat.reduceLeDiff, Nat.reduceEqDiff, Nat.reduceMul, Nat.reduceLT, Nat.reducePow, Int.reduceEq, Int.reduceLT, Int.reduceLE, Int.reduceGT, Int.reduceGE, Int.reduceAdd, Int.reduceSub, Int.reduceNeg, Int.reduceToNat])
    all_goals (unfold trimR; rw [← h1]; rfl)
  · have hw := wrap_pred n (by omega)
    have hb : bt (s.extract 0 (n + 1)) (n : Int) = (LB s).getD n 0 := by
      rw [bt_LB, LB_extract, List.drop_zero, List.getD_eq_getElem?_getD, List.getD_eq_getElem?_getD, List.getElem?_take_of_lt (by omega)]
    have hx : (s.extract 0 (n + 1)).extract 0 n = s.extract 0 n := extract_extract0 s (n + 1) n (by omega)
    have hpos : (0 : Int) < ((n + 1 : Nat) : Int) := by omega
    generalize hd : (LB s).getD n 0 = d at hb
    repeat' (first
        | (with_reducible refine a_seq_k ?_; intro K hK)
        | ((first | with_reducible refine a_region (by kernel_rfl) ?_ | (with_reducible refine a_draw mixed (by kernel_rfl) ?_; intro C hC) | (with_reducible refine a_cond_k ?_; intro X Y hX hY) | with_reducible refine RetOk.mk ?_); simp (maxSteps := 10000000) (implicitDefEqProofs := false) only [go_sem, hz, hw, hb, hx, hpos,  ↓reduceIte, reduceCtorEq, Nat.reduceAdd, Nat.reduceSub, Nat.reduceLeDiff, Nat.reduceEqDiff, Nat.reduceMul, Nat.reduceLT, Nat.reducePow, Int.reduceEq, Int.reduceLT, Int.reduceLE, Int.reduceGT, Int.reduceGE, Int.reduceAdd, Int.reduceSub, Int.reduceNeg, Int.reduceToNat])
        | with_reducible refine a_block ?_
        | with_reducible refine a_ret ?_
        | with_reducible refine a_exit ?_
        | with_reducible refine a_skip ?_
        | with_reducible exact ConfOk.mk (by kernel_rfl)
        | (with_reducible refine eqT_of (eq33 _ _ _ _ _ _) ?_; simp)
        | (with_reducible refine eqT_of (eq35 _ _ _ _ _ _ _ _) ?_; simp)
        | ((fail_if_success with_reducible show False); with_reducible apply_assumption (exfalso := false) (symm := false) only [*, rfl, trivial, congrArg])
        | with_reducible refine And.intro ?_ ?_
        | (intro h; contradiction)
        | (intro h; subst h)
        | intro h
        | simp (maxSteps := 10000000) (implicitDefEqProofs := false) only [go_sem, hz, hw, hb, hx, hpos,  ↓reduceIte, reduceCtorEq, Nat.reduceAdd, Nat.reduceSub, Nat.reduceLeDiff, Nat.reduceEqDiff, Nat.reduceMul, Nat.reduceLT, Nat.reducePow, Int.reduceEq, Int.reduceLT, Int.reduceLE, Int.reduceGT, Int.reduceGE, Int.reduceAdd, Int.reduceSub, Int.reduceNeg, Int.reduceToNat])
    · omega
    · exact ⟨⟨n, by omega, ⟨by rw [← h1, jR, if_pos hd], by omega⟩, ⟨rfl, rfl, by simp, by simp⟩⟩⟩
    · rw [← h1, jR, if_neg (by rw [hd]; assumption)]
theorem str_trimLeft (s : ByteArray) (c : Int) (hs : s.size < 2 ^ 62) : ACalls Tryz.prog 87 [.str s, .int .u8 c] (.str (trimL c s)) := by
  have e0 := ext_all s
  refine acalls_k Tryz.func87 rfl (by kernel_rfl) (congrArg Array.toList Tryz.results87) Tryz.ntmps87 ?_
  intro R hR
  simp only [st0, List.length_cons, List.length_nil, Nat.reduceAdd, Nat.reduceSub, List.replicate_succ, List.replicate_zero, List.cons_append, List.nil_append]
  repeat' (first
      | (with_reducible refine a_seq_k ?_; intro K hK)
      | ((first | with_reducible refine a_region (by kernel_rfl) ?_ | (with_reducible refine a_draw mixed (by kernel_rfl) ?_; intro C hC) | (with_reducible refine a_cond_k ?_; intro X Y hX hY) | with_reducible refine RetOk.mk ?_); simp (maxSteps := 10000000) (implicitDefEqProofs := false) only [go_sem,  ↓reduceIte, reduceCtorEq, Nat.reduceAdd, Nat.reduceSub, Nat.reduceLeDiff, Nat.reduceEqDiff, Nat.reduceMul, Nat.reduceLT, Nat.reducePow, Int.reduceEq, Int.reduceLT, Int.reduceLE, Int.reduceGT, Int.reduceGE, Int.reduceAdd, Int.reduceSub, Int.reduceNeg, Int.reduceToNat])
      | with_reducible refine a_block ?_
      | with_reducible refine a_ret ?_
      | with_reducible refine a_exit ?_
      | with_reducible refine a_skip ?_
      | with_reducible exact ConfOk.mk (by kernel_rfl)
      | (with_reducible refine eqT_of (eq33 _ _ _ _ _ _) ?_; simp)
      | (with_reducible refine eqT_of (eq35 _ _ _ _ _ _ _ _) ?_; simp)
      | ((fail_if_success with_reducible show False); with_reducible apply_assumption (exfalso := false) (symm := false) only [*, rfl, trivial, congrArg])
      | with_reducible refine And.intro ?_ ?_
      | (intro h; contradiction)
      | (intro h; subst h)
      | intro h
      | simp (maxSteps := 10000000) (implicitDefEqProofs := false) only [go_sem,  ↓reduceIte, reduceCtorEq, Nat.reduceAdd, Nat.reduceSub, Nat.reduceLeDiff, Nat.reduceEqDiff, Nat.reduceMul, Nat.reduceLT, Nat.reducePow, Int.reduceEq, Int.reduceLT, Int.reduceLE, Int.reduceGT, Int.reduceGE, Int.reduceAdd, Int.reduceSub, Int.reduceNeg, Int.reduceToNat])
  refine a_loop_k (fun n st => (jL c (LB s) n (s.size - n) = jL c (LB s) s.size 0 ∧ n ≤ s.size) ∧ Has st 17 [(0, .str (s.extract (s.size - n) s.size)), (1, .int .u8 c)] []) s.size ⟨⟨by rw [Nat.sub_self], Nat.le_refl _⟩, ⟨rfl, rfl, by simp [e0], by simp⟩⟩ ?_
  rintro n st ⟨⟨h1, h2⟩, hh⟩ K hK
  refine a_has hh fun τ σ γ => ?_
  have hz : (s.extract (s.size - n) s.size).size = n := by rw [ByteArray.size_extract]; omega
  rcases n with _ | n
  · have hpos : ¬ (0 : Int) < ((0 : Nat) : Int) := by omega
    repeat' (first
        | (with_reducible refine a_seq_k ?_; intro K hK)
        | ((first | with_reducible refine a_region (by kernel_rfl) ?_ | (with_reducible refine a_draw mixed (by kernel_rfl) ?_; intro C hC) | (with_reducible refine a_cond_k ?_; intro X Y hX hY) | with_reducible refine RetOk.mk ?_); simp (maxSteps := 10000000) (implicitDefEqProofs := false) only [go_sem, hz, hpos,  ↓reduceIte, reduceCtorEq, Nat.reduceAdd, Nat.reduceSub, Nat.reduceLeDiff, Nat.reduceEqDiff, Nat.reduceMul, Nat.reduceLT, Nat.reducePow, Int.reduceEq, Int.reduceLT, Int.reduceLE, Int.reduceGT, Int.reduceGE, Int.reduceAdd, Int.reduceSub, Int.reduceNeg, Int.reduceToNat])
        | with_reducible refine a_block ?_
        | with_reducible refine a_ret ?_
        | with_reducible refine a_exit ?_
        | with_reducible refine a_skip ?_
        | with_reducible exact ConfOk.mk (by kernel_rfl)
        | (with_reducible refine eqT_of (eq33 _ _ _ _ _ _) ?_; simp)
        | (with_reducible refine eqT_of (eq35 _ _ _ _ _ _ _ _) ?_; simp)
        | ((fail_if_success with_reducible show False); with_reducible apply_assumption (exfalso := false) (symm := false) only [*, rfl, trivial, congrArg])
        | with_reducible refine And.intro ?_ ?_
        | (intro h; contradiction)
        | (intro h; subst h)
        | intro h
        | simp (maxSteps := 10000000) (implicitDefEqProofs := false) only [go_sem, hz, hpos,  ↓reduceIte, reduceCtorEq, Nat.reduceAdd, Nat.reduceSub, Nat.reduceLeDiff, Nat.reduceEqDiff, Nat.reduceMul, Nat.reduceLT, Nat.reducePow, Int.reduceEq, Int.reduceLT, Int.reduceLE, Int.reduceGT, Int.reduceGE, Int.reduceAdd, Int.reduceSub, Int.reduceNeg, Int.reduceToNat])
    · unfold trimL; rw [← h1]; rfl
  · have hw := wrap_pred n (by omega)
    have hb : bt (s.extract (s.size - (n + 1)) s.size) 0 = (LB s).getD (s.size - (n + 1)) 0 := by
      rw [show (0 : Int) = ((0 : Nat) : Int) from rfl, bt_LB, LB_extract, List.getD_eq_getElem?_getD, List.getD_eq_getElem?_getD, List.getElem?_drop, List.getElem?_take_of_lt (by omega)]
      rfl
    have hx : (s.extract (s.size - (n + 1)) s.size).extract 1 (n + 1) = s.extract (s.size - n) s.size := by
      have h := extract_extract1 s (s.size - (n + 1)) (by omega)
      rw [show s.size - (s.size - (n + 1)) = n + 1 by omega, show s.size - (n + 1) + 1 = s.size - n by omega] at h
      exact h
    have hpos : (0 : Int) < ((n + 1 : Nat) : Int) := by omega
    generalize hd : (LB s).getD (s.size - (n + 1)) 0 = d at hb
    repeat' (first
        | (with_reducible refine a_seq_k ?_; intro K hK)
        | ((first | with_reducible refine a_region (by kernel_rfl) ?_ | (with_reducible refine a_draw mixed (by kernel_rfl) ?_; intro C hC) | (with_reducible refine a_cond_k ?_; intro X Y hX hY) | with_reducible refine RetOk.mk ?_); simp (maxSteps := 10000000) (implicitDefEqProofs := false) only [go_sem, hz, hw, hb, hx, hpos,  ↓reduceIte, reduceCtorEq, Nat.reduceAdd, Nat.reduceSub, Nat.reduceLeDiff, Nat.reduceEqDiff, Nat.reduceMul, Nat.reduceLT, Nat.reducePow, Int.reduceEq, Int.reduceLT, Int.reduceLE, Int.reduceGT, Int.reduceGE, Int.reduceAdd, Int.reduceSub, Int.reduceNeg, Int.reduceToNat])
        | with_reducible refine a_block ?_
        | with_reducible refine a_ret ?_
        | with_reducible refine a_exit ?_
        | with_reducible refine a_skip ?_
        | with_reducible exact ConfOk.mk (by kernel_rfl)
        | (with_reducible refine eqT_of (eq33 _ _ _ _ _ _) ?_; simp)
        | (with_reducible refine eqT_of (eq35 _ _ _ _ _ _ _ _) ?_; simp)
        | ((fail_if_success with_reducible show False); with_reducible apply_assumption (exfalso := false) (symm := false) only [*, rfl, trivial, congrArg])
        | with_reducible refine And.intro ?_ ?_
        | (intro h; contradiction)
        | (intro h; subst h)
        | intro h
        | simp (maxSteps := 10000000) (implicitDefEqProofs := false) only [go_sem, hz, hw, hb, hx, hpos,  ↓reduceIte, reduceCtorEq, Nat.reduceAdd, Nat.reduceSub, Nat.reduceLeDiff, Nat.reduceEqDiff, Nat.reduceMul, Nat.reduceLT, Nat.reducePow, Int.reduceEq, Int.reduceLT, Int.reduceLE, Int.reduceGT, Int.reduceGE, Int.reduceAdd, Int.reduceSub, Int.reduceNeg, Int.reduceToNat])
    · omega
    · refine ⟨⟨n, by omega, ⟨?_, by omega⟩, ⟨rfl, rfl, by simp, by simp⟩⟩⟩
      rw [← h1, jL, if_pos hd, show s.size - (n + 1) + 1 = s.size - n by omega]
    · unfold trimL; rw [← h1, jL, if_neg (by rw [hd]; assumption)]
theorem str_Trim (s : ByteArray) (hs : s.size < 2 ^ 62) : ACalls Tryz.prog 70 [.str s, .str ⟨#[37]⟩] (.str (trimO 37 s)) := by
  have tR := str_trimRight s 37 hs
  have tL := str_trimLeft (trimR 37 s) 37 (by
    have h := jR_le 37 (LB s) s.size
    unfold trimR
    rw [ByteArray.size_extract]; omega)
  have hc : bt ⟨#[37]⟩ 0 = 37 := rfl
  have hz : (⟨#[37]⟩ : ByteArray).size = 1 := rfl
  have hy : (⟨#[37]⟩ : ByteArray) ≠ ⟨#[]⟩ := by intro h; cases h
  unfold trimO
  by_cases he : s = ⟨#[]⟩
  · rw [if_pos he]
    refine acalls_k Tryz.func70 rfl (by kernel_rfl) (congrArg Array.toList Tryz.results70) Tryz.ntmps70 ?_
    intro R hR
    simp only [st0, List.length_cons, List.length_nil, Nat.reduceAdd, Nat.reduceSub, List.replicate_succ, List.replicate_zero, List.cons_append, List.nil_append]
    repeat' (first
        | (with_reducible refine a_seq_k ?_; intro K hK)
        | ((first | with_reducible refine a_region (by kernel_rfl) ?_ | (with_reducible refine a_draw mixed (by kernel_rfl) ?_; intro C hC) | (with_reducible refine a_cond_k ?_; intro X Y hX hY) | with_reducible refine RetOk.mk ?_ | with_reducible refine CallS.intro (tR) ?_ | with_reducible refine CallD.intro (tR) ?_ | with_reducible refine CallS.intro (tL) ?_ | with_reducible refine CallD.intro (tL) ?_); simp (maxSteps := 10000000) (implicitDefEqProofs := false) only [go_sem, hc, hz, hy, he,  ↓reduceIte, reduceCtorEq, Nat.reduceAdd, Nat.reduceSub, Nat.reduceLeDiff, Nat.reduceEqDiff, Nat.reduceMul, Nat.reduceLT, Nat.reducePow, Int.reduceEq, Int.reduceLT, Int.reduceLE, Int.reduceGT, Int.reduceGE, Int.reduceAdd, Int.reduceSub, Int.reduceNeg, Int.reduceToNat])
        | with_reducible refine a_block ?_
        | with_reducible refine a_ret ?_
        | with_reducible refine a_exit ?_
        | with_reducible refine a_skip ?_
        | with_reducible exact ConfOk.mk (by kernel_rfl)
        | (with_reducible refine eqT_of (eq33 _ _ _ _ _ _) ?_; simp)
        | (with_reducible refine eqT_of (eq35 _ _ _ _ _ _ _ _) ?_; simp)
        | ((fail_if_success with_reducible show False); with_reducible apply_assumption (exfalso := false) (symm := false) only [*, rfl, trivial, congrArg])
        | with_reducible refine And.intro ?_ ?_
        | (intro h; contradiction)
        | (intro h; subst h)
        | intro h
        | simp (maxSteps := 10000000) (implicitDefEqProofs := false) only [go_sem, hc, hz, hy, he,  ↓reduceIte, reduceCtorEq, Nat.reduceAdd, Nat.reduceSub, Nat.reduceLeDiff, Nat.reduceEqDiff, Nat.reduceMul, Nat.reduceLT, Nat.reducePow, Int.reduceEq, Int.reduceLT, Int.reduceLE, Int.reduceGT, Int.reduceGE, Int.reduceAdd, Int.reduceSub, Int.reduceNeg, Int.reduceToNat])
  · rw [if_neg he]
    refine acalls_k Tryz.func70 rfl (by kernel_rfl) (congrArg Array.toList Tryz.results70) Tryz.ntmps70 ?_
    intro R hR
    simp only [st0, List.length_cons, List.length_nil, Nat.reduceAdd, Nat.reduceSub, List.replicate_succ, List.replicate_zero, List.cons_append, List.nil_append]
    repeat' (first
        | (with_reducible refine a_seq_k ?_; intro K hK)
        | ((first | with_reducible refine a_region (by kernel_rfl) ?_ | (with_reducible refine a_draw mixed (by kernel_rfl) ?_; intro C hC) | (with_reducible refine a_cond_k ?_; intro X Y hX hY) | with_reducible refine RetOk.mk ?_ | with_reducible refine CallS.intro (tR) ?_ | with_reducible refine CallD.intro (tR) ?_ | with_reducible refine CallS.intro (tL) ?_ | with_reducible refine CallD.intro (tL) ?_); simp (maxSteps := 10000000) (implicitDefEqProofs := false) only [go_sem, hc, hz, hy, he,  ↓reduceIte, reduceCtorEq, Nat.reduceAdd, Nat.reduceSub, Nat.reduceLeDiff, Nat.reduceEqDiff, Nat.reduceMul, Nat.reduceLT, Nat.reducePow, Int.reduceEq, Int.reduceLT, Int.reduceLE, Int.reduceGT, Int.reduceGE, Int.reduceAdd, Int.reduceSub, Int.reduceNeg, Int.reduceToNat])
        | with_reducible refine a_block ?_
        | with_reducible refine a_ret ?_
        | with_reducible refine a_exit ?_
        | with_reducible refine a_skip ?_
        | with_reducible exact ConfOk.mk (by kernel_rfl)
        | (with_reducible refine eqT_of (eq33 _ _ _ _ _ _) ?_; simp)
        | (with_reducible refine eqT_of (eq35 _ _ _ _ _ _ _ _) ?_; simp)
        | ((fail_if_success with_reducible show False); with_reducible apply_assumption (exfalso := false) (symm := false) only [*, rfl, trivial, congrArg])
        | with_reducible refine And.intro ?_ ?_
        | (intro h; contradiction)
        | (intro h; subst h)
        | intro h
        | simp (maxSteps := 10000000) (implicitDefEqProofs := false) only [go_sem, hc, hz, hy, he,  ↓reduceIte, reduceCtorEq, Nat.reduceAdd, Nat.reduceSub, Nat.reduceLeDiff, Nat.reduceEqDiff, Nat.reduceMul, Nat.reduceLT, Nat.reducePow, Int.reduceEq, Int.reduceLT, Int.reduceLE, Int.reduceGT, Int.reduceGE, Int.reduceAdd, Int.reduceSub, Int.reduceNeg, Int.reduceToNat])
end Go.Proofs.YtmlaogjndaeihaaGreatDoor
end

section
namespace Go.Proofs.YtmlaogjndaeihaaGreatDoor
open Go Go.Ab
attribute [local go_sem ↓] parts_tt parts_ff parts_tf parts_ft
attribute [local go_sem] parts_eq learnT aops_nil aops_cons aopsD_nil aopsD_cons stepS stepD gval St.learn skipR St.after putτ applyUpd List.foldl_cons List.foldl_nil pureOp memOp callOf litA closeO closeK List.flatMap_cons List.flatMap_nil Option.map_none decide_false opnd ofConst leaf binA unA lenA indexA indexAddrA fieldAddrA fieldA sliceA convertA pickV fillA placeS cellsA setA partA loadM storeM appendM srcEls lookBox lookRow lookMap closeL closeV scalarB scalarL killed buildEls lookupA leafEq eqAll resA resL tupA retA thenA blockA isInt loA hiA foldA maxA minA okSize leafB closedB Res.foot List.getD_cons_zero List.getD_cons_succ List.set_cons_zero List.set_cons_succ List.map_cons List.map_nil List.append_nil List.nil_append List.cons_append List.length_cons List.length_nil List.take_succ_cons List.take_zero List.drop_succ_cons List.drop_zero List.take_nil List.drop_nil List.all_cons List.all_nil List.getElem?_toArray List.getElem?_cons_zero List.getElem?_cons_succ Option.bind_some Option.map_some true_and and_true true_implies ne_eq not_true_eq_false not_false_eq_true Bool.true_eq_false Bool.false_eq_true Bool.not_true Bool.not_false decide_eq_true_eq decide_eq_false_iff_not false_implies implies_true and_self ite_true ite_false cond_true cond_false Option.some.injEq List.reverse_cons List.reverse_nil Bool.and_self Bool.true_and Bool.and_true Bool.false_and Bool.and_false Bool.or_true Bool.true_or Bool.or_false Bool.false_or Bool.not_eq_eq_eq_not Bool.not_not Bool.or_self beq_self_eq_true and_false false_and or_true true_or or_false false_or not_true not_false_iff Decidable.not_not lookT lookR tabT tabR Int.toNat_natCast List.length_map List.map_append List.length_append decide_true decide_false tmod2 List.mem_singleton forall_eq elOk1 elOk3 elOk4 castn0 castn1 castn2 castn3 getD_mid getD_mid_map at_lt at_end mid_lt mid_lt' nat_ge List.size_toArray Array.size_empty Nat.add_zero Nat.zero_add
attribute [local irreducible] ASpec ACalls retA ti EqT
set_option linter.unusedSimpArgs false
set_option maxHeartbeats 4000000
set_option maxRecDepth 100000
set_option linter.unusedVariables false
attribute [local go_sem] ti2 ti3 ti4 ti5 ti9 ti21 ti22 ti23 ti24 ti26 ti27 ti29 ti41 ti47 ti49 ti56 ti59 ti63 ti67 ti71 ti75 ti78 ti79 ti80 ti86 ti90 ti110
theorem value_Matches (a b : ByteArray) (ha : a.size < 2 ^ 62) (hb : b.size < 2 ^ 62) : ACalls Tryz.prog 50 [.str a, .str b] (.bool (gm (LB b) (LB a))) := by
  refine acalls_k Tryz.func50 rfl (by kernel_rfl) (congrArg Array.toList Tryz.results50) Tryz.ntmps50 ?_
  intro R hR
  simp only [st0, List.length_cons, List.length_nil, Nat.reduceAdd, Nat.reduceSub, List.replicate_succ, List.replicate_zero, List.cons_append, List.nil_append]
  repeat' (first
      | (with_reducible refine a_seq_k ?_; intro K hK)
      | ((first | with_reducible refine a_region (by kernel_rfl) ?_ | (with_reducible refine a_draw mixed (by kernel_rfl) ?_; intro C hC) | (with_reducible refine a_cond_k ?_; intro X Y hX hY) | with_reducible refine RetOk.mk ?_); simp (maxSteps := 10000000) (implicitDefEqProofs := false) only [go_sem,  ↓reduceIte, reduceCtorEq, Nat.reduceAdd, Nat.reduceSub, Nat.reduceLeDiff, Nat.reduceEqDiff, Nat.reduceMul, Nat.reduceLT, Nat.reducePow, Int.reduceEq, Int.reduceLT, Int.reduceLE, Int.reduceGT, Int.reduceGE, Int.reduceAdd, Int.reduceSub, Int.reduceNeg, Int.reduceToNat])
      | with_reducible refine a_block ?_
      | with_reducible refine a_ret ?_
      | with_reducible refine a_exit ?_
      | with_reducible refine a_skip ?_
      | with_reducible exact ConfOk.mk (by kernel_rfl)
      | (with_reducible refine eqT_of (eq33 _ _ _ _ _ _) ?_; simp)
      | (with_reducible refine eqT_of (eq35 _ _ _ _ _ _ _ _) ?_; simp)
      | ((fail_if_success with_reducible show False); with_reducible apply_assumption (exfalso := false) (symm := false) only [*, rfl, trivial, congrArg])
      | with_reducible refine And.intro ?_ ?_
      | (intro h; contradiction)
      | (intro h; subst h)
      | intro h
      | simp (maxSteps := 10000000) (implicitDefEqProofs := false) only [go_sem,  ↓reduceIte, reduceCtorEq, Nat.reduceAdd, Nat.reduceSub, Nat.reduceLeDiff, Nat.reduceEqDiff, Nat.reduceMul, Nat.reduceLT, Nat.reducePow, Int.reduceEq, Int.reduceLT, Int.reduceLE, Int.reduceGT, Int.reduceGE, Int.reduceAdd, Int.reduceSub, Int.reduceNeg, Int.reduceToNat])
  refine a_loop_k (fun n st => ∃ p t s f : Nat, MInv (LB b) (LB a) p t s f ∧ n = msr (a.size + 1) (b.size + 1 - s) (a.size - f) (a.size - t) ∧ Has st 65 [(0, .str a), (1, .str b), (5, .int .i64 t), (6, .int .i64 p), (7, .int .i64 ((s : Int) - 1)), (8, .int .i64 f)] []) (msr (a.size + 1) (b.size + 1 - 0) (a.size - 0) (a.size - 0)) ⟨0, 0, 0, 0, minv0 _ _, rfl, ⟨rfl, rfl, by simp, by simp⟩⟩ ?_
  rintro n st ⟨p, t, s, f, hi, rfl, hh⟩ K hK
  refine a_has hh fun τ σ γ => ?_
  have hi0 := hi
  obtain ⟨i1, i2, i3, i4, -⟩ := hi0
  rw [LB_len] at i1 i2
  have hwt := wrap_nat t (by omega)
  have hwp := wrap_nat p (by omega)
  have hwf := wrap_nat f (by omega)
  have hws : IntKind.i64.wrap ((s : Int) - 1 + 1) = (s : Int) := by
    rw [show (s : Int) - 1 + 1 = (s : Int) by omega]
    simp [IntKind.wrap, IntKind.signed, IntKind.bits] <;> omega
  have bP : ∀ i : Nat, bt b i = (LB b).getD i 0 := bt_LB b
  have bT : ∀ i : Nat, bt a i = (LB a).getD i 0 := bt_LB a
  have lP := LB_len b
  have lT := LB_len a
  have hT := str_Trim (b.extract p b.size) (by rw [ByteArray.size_extract]; omega)
  repeat' (first
      | (with_reducible refine a_seq_k ?_; intro K hK)
      | ((first | with_reducible refine a_region (by kernel_rfl) ?_ | (with_reducible refine a_draw mixed (by kernel_rfl) ?_; intro C hC) | (with_reducible refine a_cond_k ?_; intro X Y hX hY) | with_reducible refine RetOk.mk ?_ | with_reducible refine CallS.intro (hT) ?_ | with_reducible refine CallD.intro (hT) ?_); simp (maxSteps := 10000000) (implicitDefEqProofs := false) only [go_sem, hwt, hwp, hwf, hws,  ↓reduceIte, reduceCtorEq, Nat.reduceAdd, Nat.reduceSub, Nat.reduceLeDiff, Nat.reduceEqDiff, Nat.reduceMul, Nat.reduceLT, Nat.reducePow, Int.reduceEq, Int.reduceLT, Int.reduceLE, Int.reduceGT, Int.reduceGE, Int.reduceAdd, Int.reduceSub, Int.reduceNeg, Int.reduceToNat])
      | with_reducible refine a_block ?_
      | with_reducible refine a_ret ?_
      | with_reducible refine a_exit ?_
      | with_reducible refine a_skip ?_
      | with_reducible exact ConfOk.mk (by kernel_rfl)
      | (with_reducible refine eqT_of (eq33 _ _ _ _ _ _) ?_; simp)
      | (with_reducible refine eqT_of (eq35 _ _ _ _ _ _ _ _) ?_; simp)
      | ((fail_if_success with_reducible show False); with_reducible apply_assumption (exfalso := false) (symm := false) only [*, rfl, trivial, congrArg])
      | with_reducible refine And.intro ?_ ?_
      | (intro h; contradiction)
      | (intro h; subst h)
      | intro h
      | simp (maxSteps := 10000000) (implicitDefEqProofs := false) only [go_sem, hwt, hwp, hwf, hws,  ↓reduceIte, reduceCtorEq, Nat.reduceAdd, Nat.reduceSub, Nat.reduceLeDiff, Nat.reduceEqDiff, Nat.reduceMul, Nat.reduceLT, Nat.reducePow, Int.reduceEq, Int.reduceLT, Int.reduceLE, Int.reduceGT, Int.reduceGE, Int.reduceAdd, Int.reduceSub, Int.reduceNeg, Int.reduceToNat])
  · clear bP bT
    have bP := bt_LB b p
    refine ⟨⟨_, ?_, p + 1, t, p + 1, t, minv_star hi (by omega) (by rw [← bP]; assumption) (by omega), rfl, ⟨rfl, rfl, by simp, by simp⟩⟩⟩
    by_cases e : b.size + 1 - (p + 1) < b.size + 1 - s
    · exact msr1 e (by omega) (by omega)
    · omega
  · refine ⟨⟨_, ?_, p + 1, t + 1, s, f, minv_eat hi (by omega) (by rw [← bP]; assumption) (.inr (by rw [← bP, ← bT]; assumption)) (by omega), rfl, ⟨rfl, rfl, by simp, by simp⟩⟩⟩
    exact msr3 (by omega)
  · refine ⟨⟨_, ?_, s, f + 1, s, f + 1, minv_back hi (by omega) (fun _ => ⟨by rw [← bP]; assumption, by rw [← bP]; assumption, by rw [← bP, ← bT]; assumption⟩) (by omega), rfl, ⟨rfl, rfl, by simp, by simp⟩⟩⟩
    exact msr2 (by omega) (by omega)
  · have e : s = 0 := by omega
    subst e
    exact (minv_fail hi (by omega) (fun _ => ⟨by rw [← bP]; assumption, by rw [← bP]; assumption, by rw [← bP, ← bT]; assumption⟩)).symm
  · refine ⟨⟨_, ?_, p + 1, t + 1, s, f, minv_eat hi (by omega) (by rw [← bP]; assumption) (.inl (by rw [← bP]; assumption)) (by omega), rfl, ⟨rfl, rfl, by simp, by simp⟩⟩⟩
    exact msr3 (by omega)
  · refine ⟨⟨_, ?_, s, f + 1, s, f + 1, minv_back hi (by omega) (fun _ => by omega) (by omega), rfl, ⟨rfl, rfl, by simp, by simp⟩⟩⟩
    exact msr2 (by omega) (by omega)
  · have e : s = 0 := by omega
    subst e
    exact (minv_fail hi (by omega) (fun _ => by omega)).symm
  · omega
  · omega
  · rw [minv_end hi (by omega), Bool.eq_iff_iff, decide_eq_true_eq, trimO_emp, gm_rest, LB_extract, ← lP, List.take_length]
end Go.Proofs.YtmlaogjndaeihaaGreatDoor
end
