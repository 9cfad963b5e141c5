/- Ends of exact integers in the document: jointerref12.at, below, plus, minus, times, over; comparisons of domains. Intervals in the document: jointerref12.gives, remains, joins, divides. Quotients in the document: jointerref12.divides. -/
import Derived.Test.YtoggbjfjmbjegaaGreatDoorHA
set_option linter.unusedSimpArgs false
set_option linter.unusedVariables false
set_option linter.unusedSimpArgs false
set_option linter.unusedVariables false
namespace Go.Proofs.YtoggbjfjmbjegaaGreatDoor
open Go Go.Ab
-- @enc(Dom.enc, En.enc, kd, dZ)@
attribute [local go_sem ↓] parts_tt parts_ff parts_tf parts_ft reduceIte
attribute [local go_sem] reduceCtorEq Nat.reduceAdd Nat.reduceSub Nat.reduceLeDiff Nat.reduceEqDiff Nat.reduceMul Nat.reduceLT Nat.reducePow Int.reduceEq Int.reduceLT Int.reduceLE Int.reduceGT Int.reduceGE Int.reduceAdd Int.reduceSub Int.reduceNeg Int.reduceToNat parts_eq learnT aops_nil aops_cons aopsD_nil aopsD_cons stepS stepD gval St.learn skipR St.after putτ applyUpd List.foldl_cons List.foldl_nil pureOp memOp callOf litA closeO closeK List.flatMap_cons List.flatMap_nil Option.map_none decide_false opnd ofConst leaf binA unA lenA indexA indexAddrA fieldAddrA fieldA weak_slice weak_nils weak_str weak_view weak_viewF weak_sliceF weak_ptr weak_cptr weak_rptr weak_sl weak_sl0 weak_any sliceFA_slice sliceFA_str sliceFA_view sliceFA_none sliceFA_some sameO sliceA convertA pickV fillA placeS cellsA setA partA loadM storeM appendM srcEls lookBox lookRow lookMap closeL closeV scalarB scalarL killed buildEls lookupA leafEq eqAll resA resL tupA retA thenA blockA isInt loA hiA foldA maxA minA okSize leafB closedB Res.foot List.getD_cons_zero List.getD_cons_succ List.set_cons_zero List.set_cons_succ List.map_cons List.map_nil List.append_nil List.nil_append List.cons_append List.length_cons List.length_nil List.take_succ_cons List.take_zero List.drop_succ_cons List.drop_zero List.take_nil List.drop_nil List.all_cons List.all_nil List.getElem?_toArray List.getElem?_cons_zero List.getElem?_cons_succ Option.bind_some Option.map_some true_and and_true true_implies ne_eq not_true_eq_false not_false_eq_true Bool.true_eq_false Bool.false_eq_true Bool.not_true Bool.not_false decide_eq_true_eq decide_eq_false_iff_not false_implies implies_true and_self ite_true ite_false cond_true cond_false Option.some.injEq List.reverse_cons List.reverse_nil Bool.and_self Bool.true_and Bool.and_true Bool.false_and Bool.and_false Bool.or_true Bool.true_or Bool.or_false Bool.false_or Bool.not_eq_eq_eq_not Bool.not_not Bool.or_self beq_self_eq_true and_false false_and or_true true_or or_false false_or not_true not_false_iff Decidable.not_not lookT lookR tabT tabR Int.toNat_natCast List.length_map List.map_append List.length_append decide_true decide_false tmod2 List.mem_singleton forall_eq elOk1 elOk3 elOk4 castn0 castn1 castn2 castn3 getD_mid getD_mid_map at_lt at_end mid_lt mid_lt' nat_ge List.size_toArray Array.size_empty Nat.add_zero Nat.zero_add
attribute [local irreducible] ASpec ACalls retA ti EqT
set_option linter.unusedSimpArgs false
set_option maxHeartbeats 4000000
set_option maxRecDepth 100000
set_option linter.unusedVariables false
attribute [local go_sem] ti2 ti3 ti4 ti5 ti9 ti21 ti22 ti23 ti24 ti26 ti27 ti28 ti30 ti33 ti34 ti37 ti41 ti42 ti46 ti52 ti56 ti68 ti69 ti73 ti78 ti86 ti89 ti99 ti117 ti122 ti123 ti124 ti144 ti166 ti173 ti174 ti190 ti191 ti199 ti245 ti247 ti257 ti271 ti288 ti290 ti343
@[reducible] def enA (e : En) : AV := .agg [.int .i64 e.side, .int .i64 e.n]
theorem ref_at (n : Int) : ACalls Tryz.prog 279 [.int .i64 n] (.agg [.int .i64 0, .int .i64 n]) := by
  refine acalls_k Tryz.func279 rfl (by kernel_rfl) (congrArg Array.toList Tryz.results279) Tryz.ntmps279 ?_
  intro R hR
  simp only [st0, List.length_cons, List.length_nil, Nat.reduceAdd, Nat.reduceSub, List.replicate_succ, List.replicate_zero, List.cons_append, List.nil_append]
  repeat' (first | (with_reducible refine a_seq_k ?_; intro K hK) | (with_reducible first | refine a_block ?_ | refine a_ret ?_ | refine a_exit ?_ | refine a_skip ?_ | exact ConfOk.mk (by kernel_rfl)) | ((fail_if_success with_reducible show False); with_reducible apply_assumption (exfalso := false) (symm := false) only [*, rfl, trivial, congrArg]) | with_reducible refine And.intro ?_ ?_ | (intro h; contradiction) | (intro h; subst h) | intro h | ((try (with_reducible first | refine a_region (by kernel_rfl) ?_ | (refine a_draw mixed (by kernel_rfl) ?_; intro C hC) | (refine a_cond_k ?_; intro X Y hX hY) | refine RetOk.mk ?_)); simp (maxSteps := 10000000) (implicitDefEqProofs := false) only [go_sem]))
theorem ref_below (a b : En) : ACalls Tryz.prog 277 [enA a, enA b] (.bool (belowE a b)) := by
  obtain ⟨s, n⟩ := a
  obtain ⟨s', n'⟩ := b
  refine acalls_k Tryz.func277 rfl (by kernel_rfl) (congrArg Array.toList Tryz.results277) Tryz.ntmps277 ?_
  intro R hR
  simp only [st0, List.length_cons, List.length_nil, Nat.reduceAdd, Nat.reduceSub, List.replicate_succ, List.replicate_zero, List.cons_append, List.nil_append]
  repeat' (first | (with_reducible refine a_seq_k ?_; intro K hK) | (with_reducible first | refine a_block ?_ | refine a_ret ?_ | refine a_exit ?_ | refine a_skip ?_ | exact ConfOk.mk (by kernel_rfl)) | ((fail_if_success with_reducible show False); with_reducible apply_assumption (exfalso := false) (symm := false) only [*, rfl, trivial, congrArg]) | with_reducible refine And.intro ?_ ?_ | (intro h; contradiction) | (intro h; subst h) | intro h | ((try (with_reducible first | refine a_region (by kernel_rfl) ?_ | (refine a_draw mixed (by kernel_rfl) ?_; intro C hC) | (refine a_cond_k ?_; intro X Y hX hY) | refine RetOk.mk ?_)); simp (maxSteps := 10000000) (implicitDefEqProofs := false) only [go_sem]))
  all_goals simp [belowE, *]
theorem end_in {v : Int} (h : In64 v) : endOf v = ⟨0, v⟩ := by
  obtain ⟨h1, h2⟩ := h
  unfold endOf
  rw [if_neg (by simp only [mI]; omega), if_neg (by simp only [xI]; omega)]
theorem end_hi {v : Int} (h : 9223372036854775807 < v) : endOf v = ⟨1, 0⟩ := by
  unfold endOf
  rw [if_neg (by simp only [mI]; omega), if_pos (by simp only [xI]; omega)]
theorem end_lo {v : Int} (h : v < -9223372036854775808) : endOf v = ⟨-1, 0⟩ := by
  unfold endOf
  rw [if_pos (by simp only [mI]; omega)]
theorem arI_in {n : Int} (h : In64 n) : arI n = (n, 0) := if_pos h
theorem arI_out {n : Int} (h : ¬ In64 n) : arI n = (0, 4) := if_neg h
theorem ref_plus (a b : Int) (ha : In64 a) (hb : In64 b) : ACalls Tryz.prog 227 [.int .i64 a, .int .i64 b] (enA (endOf (a + b))) := by
  have hadd := ref_Add a b ha hb
  by_cases hi : In64 (a + b)
  · have ht := ref_at (a + b)
    rw [arI_in hi] at hadd
    rw [end_in hi]
    clear hi ha hb
    refine acalls_k Tryz.func227 rfl (by kernel_rfl) (congrArg Array.toList Tryz.results227) Tryz.ntmps227 ?_
    intro R hR
    simp only [st0, List.length_cons, List.length_nil, Nat.reduceAdd, Nat.reduceSub, List.replicate_succ, List.replicate_zero, List.cons_append, List.nil_append]
    repeat' (first | (with_reducible refine a_seq_k ?_; intro K hK) | (with_reducible first | refine a_block ?_ | refine a_ret ?_ | refine a_exit ?_ | refine a_skip ?_ | exact ConfOk.mk (by kernel_rfl)) | ((fail_if_success with_reducible show False); with_reducible apply_assumption (exfalso := false) (symm := false) only [*, rfl, trivial, congrArg]) | with_reducible refine And.intro ?_ ?_ | (intro h; contradiction) | (intro h; subst h) | intro h | ((try (with_reducible first | refine a_region (by kernel_rfl) ?_ | (refine a_draw mixed (by kernel_rfl) ?_; intro C hC) | (refine a_cond_k ?_; intro X Y hX hY) | refine RetOk.mk ?_ | refine CallS.intro (hadd) ?_ | refine CallD.intro (hadd) ?_ | refine CallS.intro (ht) ?_ | refine CallD.intro (ht) ?_)); simp (maxSteps := 10000000) (implicitDefEqProofs := false) only [go_sem]))
  · rw [arI_out hi] at hadd
    by_cases hp : 0 < a
    · rw [end_hi (by unfold In64 at *; omega)]
      clear hi ha hb
      refine acalls_k Tryz.func227 rfl (by kernel_rfl) (congrArg Array.toList Tryz.results227) Tryz.ntmps227 ?_
      intro R hR
      simp only [st0, List.length_cons, List.length_nil, Nat.reduceAdd, Nat.reduceSub, List.replicate_succ, List.replicate_zero, List.cons_append, List.nil_append]
      repeat' (first | (with_reducible refine a_seq_k ?_; intro K hK) | (with_reducible first | refine a_block ?_ | refine a_ret ?_ | refine a_exit ?_ | refine a_skip ?_ | exact ConfOk.mk (by kernel_rfl)) | ((fail_if_success with_reducible show False); with_reducible apply_assumption (exfalso := false) (symm := false) only [*, rfl, trivial, congrArg]) | with_reducible refine And.intro ?_ ?_ | (intro h; contradiction) | (intro h; subst h) | intro h | ((try (with_reducible first | refine a_region (by kernel_rfl) ?_ | (refine a_draw mixed (by kernel_rfl) ?_; intro C hC) | (refine a_cond_k ?_; intro X Y hX hY) | refine RetOk.mk ?_ | refine CallS.intro (hadd) ?_ | refine CallD.intro (hadd) ?_)); simp (maxSteps := 10000000) (implicitDefEqProofs := false) only [go_sem, hp]))
    · rw [end_lo (by unfold In64 at *; omega)]
      clear hi ha hb
      refine acalls_k Tryz.func227 rfl (by kernel_rfl) (congrArg Array.toList Tryz.results227) Tryz.ntmps227 ?_
      intro R hR
      simp only [st0, List.length_cons, List.length_nil, Nat.reduceAdd, Nat.reduceSub, List.replicate_succ, List.replicate_zero, List.cons_append, List.nil_append]
      repeat' (first | (with_reducible refine a_seq_k ?_; intro K hK) | (with_reducible first | refine a_block ?_ | refine a_ret ?_ | refine a_exit ?_ | refine a_skip ?_ | exact ConfOk.mk (by kernel_rfl)) | ((fail_if_success with_reducible show False); with_reducible apply_assumption (exfalso := false) (symm := false) only [*, rfl, trivial, congrArg]) | with_reducible refine And.intro ?_ ?_ | (intro h; contradiction) | (intro h; subst h) | intro h | ((try (with_reducible first | refine a_region (by kernel_rfl) ?_ | (refine a_draw mixed (by kernel_rfl) ?_; intro C hC) | (refine a_cond_k ?_; intro X Y hX hY) | refine RetOk.mk ?_ | refine CallS.intro (hadd) ?_ | refine CallD.intro (hadd) ?_)); simp (maxSteps := 10000000) (implicitDefEqProofs := false) only [go_sem, hp]))
theorem ref_minus (a b : Int) (ha : In64 a) (hb : In64 b) : ACalls Tryz.prog 226 [.int .i64 a, .int .i64 b] (enA (endOf (a - b))) := by
  have hadd := ref_Sub a b ha hb
  by_cases hi : In64 (a - b)
  · have ht := ref_at (a - b)
    rw [arI_in hi] at hadd
    rw [end_in hi]
    clear hi ha hb
    refine acalls_k Tryz.func226 rfl (by kernel_rfl) (congrArg Array.toList Tryz.results226) Tryz.ntmps226 ?_
    intro R hR
    simp only [st0, List.length_cons, List.length_nil, Nat.reduceAdd, Nat.reduceSub, List.replicate_succ, List.replicate_zero, List.cons_append, List.nil_append]
    repeat' (first | (with_reducible refine a_seq_k ?_; intro K hK) | (with_reducible first | refine a_block ?_ | refine a_ret ?_ | refine a_exit ?_ | refine a_skip ?_ | exact ConfOk.mk (by kernel_rfl)) | ((fail_if_success with_reducible show False); with_reducible apply_assumption (exfalso := false) (symm := false) only [*, rfl, trivial, congrArg]) | with_reducible refine And.intro ?_ ?_ | (intro h; contradiction) | (intro h; subst h) | intro h | ((try (with_reducible first | refine a_region (by kernel_rfl) ?_ | (refine a_draw mixed (by kernel_rfl) ?_; intro C hC) | (refine a_cond_k ?_; intro X Y hX hY) | refine RetOk.mk ?_ | refine CallS.intro (hadd) ?_ | refine CallD.intro (hadd) ?_ | refine CallS.intro (ht) ?_ | refine CallD.intro (ht) ?_)); simp (maxSteps := 10000000) (implicitDefEqProofs := false) only [go_sem]))
  · rw [arI_out hi] at hadd
    by_cases hp : 0 ≤ a
    · rw [end_hi (by unfold In64 at *; omega)]
      clear hi ha hb
      refine acalls_k Tryz.func226 rfl (by kernel_rfl) (congrArg Array.toList Tryz.results226) Tryz.ntmps226 ?_
      intro R hR
      simp only [st0, List.length_cons, List.length_nil, Nat.reduceAdd, Nat.reduceSub, List.replicate_succ, List.replicate_zero, List.cons_append, List.nil_append]
      repeat' (first | (with_reducible refine a_seq_k ?_; intro K hK) | (with_reducible first | refine a_block ?_ | refine a_ret ?_ | refine a_exit ?_ | refine a_skip ?_ | exact ConfOk.mk (by kernel_rfl)) | ((fail_if_success with_reducible show False); with_reducible apply_assumption (exfalso := false) (symm := false) only [*, rfl, trivial, congrArg]) | with_reducible refine And.intro ?_ ?_ | (intro h; contradiction) | (intro h; subst h) | intro h | ((try (with_reducible first | refine a_region (by kernel_rfl) ?_ | (refine a_draw mixed (by kernel_rfl) ?_; intro C hC) | (refine a_cond_k ?_; intro X Y hX hY) | refine RetOk.mk ?_ | refine CallS.intro (hadd) ?_ | refine CallD.intro (hadd) ?_)); simp (maxSteps := 10000000) (implicitDefEqProofs := false) only [go_sem, hp]))
    · rw [end_lo (by unfold In64 at *; omega)]
      clear hi ha hb
      refine acalls_k Tryz.func226 rfl (by kernel_rfl) (congrArg Array.toList Tryz.results226) Tryz.ntmps226 ?_
      intro R hR
      simp only [st0, List.length_cons, List.length_nil, Nat.reduceAdd, Nat.reduceSub, List.replicate_succ, List.replicate_zero, List.cons_append, List.nil_append]
      repeat' (first | (with_reducible refine a_seq_k ?_; intro K hK) | (with_reducible first | refine a_block ?_ | refine a_ret ?_ | refine a_exit ?_ | refine a_skip ?_ | exact ConfOk.mk (by kernel_rfl)) | ((fail_if_success with_reducible show False); with_reducible apply_assumption (exfalso := false) (symm := false) only [*, rfl, trivial, congrArg]) | with_reducible refine And.intro ?_ ?_ | (intro h; contradiction) | (intro h; subst h) | intro h | ((try (with_reducible first | refine a_region (by kernel_rfl) ?_ | (refine a_draw mixed (by kernel_rfl) ?_; intro C hC) | (refine a_cond_k ?_; intro X Y hX hY) | refine RetOk.mk ?_ | refine CallS.intro (hadd) ?_ | refine CallD.intro (hadd) ?_)); simp (maxSteps := 10000000) (implicitDefEqProofs := false) only [go_sem, hp]))
theorem mul_pos_out {a b : Int} (hp : 0 < a) (hq : 0 < b) (hi : ¬ In64 (a * b)) : 9223372036854775807 < a * b := by
  have := Int.mul_pos hp hq
  unfold In64 at hi; omega
theorem mul_nn_out {a b : Int} (hp : ¬ 0 < a) (hq : ¬ 0 < b) (hi : ¬ In64 (a * b)) : 9223372036854775807 < a * b := by
  have := Int.mul_nonneg_of_nonpos_of_nonpos (show a ≤ 0 by omega) (show b ≤ 0 by omega)
  unfold In64 at hi; omega
theorem mul_pn_out {a b : Int} (hp : 0 < a) (hq : ¬ 0 < b) (hi : ¬ In64 (a * b)) : a * b < -9223372036854775808 := by
  have := Int.mul_nonpos_of_nonneg_of_nonpos (show 0 ≤ a by omega) (show b ≤ 0 by omega)
  unfold In64 at hi; omega
theorem mul_np_out {a b : Int} (hp : ¬ 0 < a) (hq : 0 < b) (hi : ¬ In64 (a * b)) : a * b < -9223372036854775808 := by
  have := Int.mul_nonpos_of_nonpos_of_nonneg (show a ≤ 0 by omega) (show 0 ≤ b by omega)
  unfold In64 at hi; omega
theorem ref_times (a b : Int) (ha : In64 a) (hb : In64 b) : ACalls Tryz.prog 228 [.int .i64 a, .int .i64 b] (enA (endOf (a * b))) := by
  have hadd := ref_Mul a b ha hb
  unfold mulI at hadd
  by_cases hi : In64 (a * b)
  · have ht := ref_at (a * b)
    rw [arI_in hi] at hadd
    rw [end_in hi]
    clear hi ha hb
    generalize a * b = p at *
    refine acalls_k Tryz.func228 rfl (by kernel_rfl) (congrArg Array.toList Tryz.results228) Tryz.ntmps228 ?_
    intro R hR
    simp only [st0, List.length_cons, List.length_nil, Nat.reduceAdd, Nat.reduceSub, List.replicate_succ, List.replicate_zero, List.cons_append, List.nil_append]
    repeat' (first | (with_reducible refine a_seq_k ?_; intro K hK) | (with_reducible first | refine a_block ?_ | refine a_ret ?_ | refine a_exit ?_ | refine a_skip ?_ | exact ConfOk.mk (by kernel_rfl)) | ((fail_if_success with_reducible show False); with_reducible apply_assumption (exfalso := false) (symm := false) only [*, rfl, trivial, congrArg]) | with_reducible refine And.intro ?_ ?_ | (intro h; contradiction) | (intro h; subst h) | intro h | ((try (with_reducible first | refine a_region (by kernel_rfl) ?_ | (refine a_draw mixed (by kernel_rfl) ?_; intro C hC) | (refine a_cond_k ?_; intro X Y hX hY) | refine RetOk.mk ?_ | refine CallS.intro (hadd) ?_ | refine CallD.intro (hadd) ?_ | refine CallS.intro (ht) ?_ | refine CallD.intro (ht) ?_)); simp (maxSteps := 10000000) (implicitDefEqProofs := false) only [go_sem]))
  · rw [arI_out hi] at hadd
    obtain ⟨r, hr⟩ : ∃ r, r = enA (endOf (a * b)) := ⟨_, rfl⟩
    rw [← hr]
    by_cases hp : 0 < a
    · by_cases hq : 0 < b
      · rw [end_hi (mul_pos_out hp hq hi)] at hr
        clear hi ha hb
        subst hr
        refine acalls_k Tryz.func228 rfl (by kernel_rfl) (congrArg Array.toList Tryz.results228) Tryz.ntmps228 ?_
        intro R hR
        simp only [st0, List.length_cons, List.length_nil, Nat.reduceAdd, Nat.reduceSub, List.replicate_succ, List.replicate_zero, List.cons_append, List.nil_append]
        repeat' (first | (with_reducible refine a_seq_k ?_; intro K hK) | (with_reducible first | refine a_block ?_ | refine a_ret ?_ | refine a_exit ?_ | refine a_skip ?_ | exact ConfOk.mk (by kernel_rfl)) | ((fail_if_success with_reducible show False); with_reducible apply_assumption (exfalso := false) (symm := false) only [*, rfl, trivial, congrArg]) | with_reducible refine And.intro ?_ ?_ | (intro h; contradiction) | (intro h; subst h) | intro h | ((try (with_reducible first | refine a_region (by kernel_rfl) ?_ | (refine a_draw mixed (by kernel_rfl) ?_; intro C hC) | (refine a_cond_k ?_; intro X Y hX hY) | refine RetOk.mk ?_ | refine CallS.intro (hadd) ?_ | refine CallD.intro (hadd) ?_)); simp (maxSteps := 10000000) (implicitDefEqProofs := false) only [go_sem, hp, hq]))
      · rw [end_lo (mul_pn_out hp hq hi)] at hr
        clear hi ha hb
        subst hr
        refine acalls_k Tryz.func228 rfl (by kernel_rfl) (congrArg Array.toList Tryz.results228) Tryz.ntmps228 ?_
        intro R hR
        simp only [st0, List.length_cons, List.length_nil, Nat.reduceAdd, Nat.reduceSub, List.replicate_succ, List.replicate_zero, List.cons_append, List.nil_append]
        repeat' (first | (with_reducible refine a_seq_k ?_; intro K hK) | (with_reducible first | refine a_block ?_ | refine a_ret ?_ | refine a_exit ?_ | refine a_skip ?_ | exact ConfOk.mk (by kernel_rfl)) | ((fail_if_success with_reducible show False); with_reducible apply_assumption (exfalso := false) (symm := false) only [*, rfl, trivial, congrArg]) | with_reducible refine And.intro ?_ ?_ | (intro h; contradiction) | (intro h; subst h) | intro h | ((try (with_reducible first | refine a_region (by kernel_rfl) ?_ | (refine a_draw mixed (by kernel_rfl) ?_; intro C hC) | (refine a_cond_k ?_; intro X Y hX hY) | refine RetOk.mk ?_ | refine CallS.intro (hadd) ?_ | refine CallD.intro (hadd) ?_)); simp (maxSteps := 10000000) (implicitDefEqProofs := false) only [go_sem, hp, hq]))
    · by_cases hq : 0 < b
      · rw [end_lo (mul_np_out hp hq hi)] at hr
        clear hi ha hb
        subst hr
        refine acalls_k Tryz.func228 rfl (by kernel_rfl) (congrArg Array.toList Tryz.results228) Tryz.ntmps228 ?_
        intro R hR
        simp only [st0, List.length_cons, List.length_nil, Nat.reduceAdd, Nat.reduceSub, List.replicate_succ, List.replicate_zero, List.cons_append, List.nil_append]
        repeat' (first | (with_reducible refine a_seq_k ?_; intro K hK) | (with_reducible first | refine a_block ?_ | refine a_ret ?_ | refine a_exit ?_ | refine a_skip ?_ | exact ConfOk.mk (by kernel_rfl)) | ((fail_if_success with_reducible show False); with_reducible apply_assumption (exfalso := false) (symm := false) only [*, rfl, trivial, congrArg]) | with_reducible refine And.intro ?_ ?_ | (intro h; contradiction) | (intro h; subst h) | intro h | ((try (with_reducible first | refine a_region (by kernel_rfl) ?_ | (refine a_draw mixed (by kernel_rfl) ?_; intro C hC) | (refine a_cond_k ?_; intro X Y hX hY) | refine RetOk.mk ?_ | refine CallS.intro (hadd) ?_ | refine CallD.intro (hadd) ?_)); simp (maxSteps := 10000000) (implicitDefEqProofs := false) only [go_sem, hp, hq]))
      · rw [end_hi (mul_nn_out hp hq hi)] at hr
        clear hi ha hb
        subst hr
        refine acalls_k Tryz.func228 rfl (by kernel_rfl) (congrArg Array.toList Tryz.results228) Tryz.ntmps228 ?_
        intro R hR
        simp only [st0, List.length_cons, List.length_nil, Nat.reduceAdd, Nat.reduceSub, List.replicate_succ, List.replicate_zero, List.cons_append, List.nil_append]
        repeat' (first | (with_reducible refine a_seq_k ?_; intro K hK) | (with_reducible first | refine a_block ?_ | refine a_ret ?_ | refine a_exit ?_ | refine a_skip ?_ | exact ConfOk.mk (by kernel_rfl)) | ((fail_if_success with_reducible show False); with_reducible apply_assumption (exfalso := false) (symm := false) only [*, rfl, trivial, congrArg]) | with_reducible refine And.intro ?_ ?_ | (intro h; contradiction) | (intro h; subst h) | intro h | ((try (with_reducible first | refine a_region (by kernel_rfl) ?_ | (refine a_draw mixed (by kernel_rfl) ?_; intro C hC) | (refine a_cond_k ?_; intro X Y hX hY) | refine RetOk.mk ?_ | refine CallS.intro (hadd) ?_ | refine CallD.intro (hadd) ?_)); simp (maxSteps := 10000000) (implicitDefEqProofs := false) only [go_sem, hp, hq]))
theorem ref_over (a b : Int) (ha : In64 a) (hb : In64 b) (h0 : b ≠ 0) : ACalls Tryz.prog 282 [.int .i64 a, .int .i64 b] (enA (endOf (Int.tdiv a b))) := by
  have hadd := ref_Div a b ha hb
  unfold divI at hadd
  rw [if_neg h0] at hadd
  by_cases hi : In64 (Int.tdiv a b)
  · have ht := ref_at (Int.tdiv a b)
    rw [arI_in hi] at hadd
    rw [end_in hi]
    clear hi ha hb
    generalize Int.tdiv a b = p at *
    refine acalls_k Tryz.func282 rfl (by kernel_rfl) (congrArg Array.toList Tryz.results282) Tryz.ntmps282 ?_
    intro R hR
    simp only [st0, List.length_cons, List.length_nil, Nat.reduceAdd, Nat.reduceSub, List.replicate_succ, List.replicate_zero, List.cons_append, List.nil_append]
    repeat' (first | (with_reducible refine a_seq_k ?_; intro K hK) | (with_reducible first | refine a_block ?_ | refine a_ret ?_ | refine a_exit ?_ | refine a_skip ?_ | exact ConfOk.mk (by kernel_rfl)) | ((fail_if_success with_reducible show False); with_reducible apply_assumption (exfalso := false) (symm := false) only [*, rfl, trivial, congrArg]) | with_reducible refine And.intro ?_ ?_ | (intro h; contradiction) | (intro h; subst h) | intro h | ((try (with_reducible first | refine a_region (by kernel_rfl) ?_ | (refine a_draw mixed (by kernel_rfl) ?_; intro C hC) | (refine a_cond_k ?_; intro X Y hX hY) | refine RetOk.mk ?_ | refine CallS.intro (hadd) ?_ | refine CallD.intro (hadd) ?_ | refine CallS.intro (ht) ?_ | refine CallD.intro (ht) ?_)); simp (maxSteps := 10000000) (implicitDefEqProofs := false) only [go_sem]))
  · rw [arI_out hi] at hadd
    have h1 : b = -1 := Classical.byContradiction fun h => hi (tdiv_in ha h0 h)
    have h2 : Int.tdiv a b = -a := by subst h1; simp [Int.tdiv_neg]
    rw [h2] at hi ⊢
    rw [end_hi (by unfold In64 at *; omega)]
    clear hi ha hb h2
    refine acalls_k Tryz.func282 rfl (by kernel_rfl) (congrArg Array.toList Tryz.results282) Tryz.ntmps282 ?_
    intro R hR
    simp only [st0, List.length_cons, List.length_nil, Nat.reduceAdd, Nat.reduceSub, List.replicate_succ, List.replicate_zero, List.cons_append, List.nil_append]
    repeat' (first | (with_reducible refine a_seq_k ?_; intro K hK) | (with_reducible first | refine a_block ?_ | refine a_ret ?_ | refine a_exit ?_ | refine a_skip ?_ | exact ConfOk.mk (by kernel_rfl)) | ((fail_if_success with_reducible show False); with_reducible apply_assumption (exfalso := false) (symm := false) only [*, rfl, trivial, congrArg]) | with_reducible refine And.intro ?_ ?_ | (intro h; contradiction) | (intro h; subst h) | intro h | ((try (with_reducible first | refine a_region (by kernel_rfl) ?_ | (refine a_draw mixed (by kernel_rfl) ?_; intro C hC) | (refine a_cond_k ?_; intro X Y hX hY) | refine RetOk.mk ?_ | refine CallS.intro (hadd) ?_ | refine CallD.intro (hadd) ?_)); simp (maxSteps := 10000000) (implicitDefEqProofs := false) only [go_sem]))
theorem ref_alike (c d : Dom) : ACalls Tryz.prog 64 [dA c, dA d] (.tuple [.bool (alike c d).1, .bool (alike c d).2]) := by
  obtain ⟨k, n, f, s, lo, hi⟩ := c
  obtain ⟨k', n', f', s', lo', hi'⟩ := d
  refine acalls_k Tryz.func64 rfl (by kernel_rfl) (congrArg Array.toList Tryz.results64) Tryz.ntmps64 ?_
  intro R hR
  simp only [st0, List.length_cons, List.length_nil, Nat.reduceAdd, Nat.reduceSub, List.replicate_succ, List.replicate_zero, List.cons_append, List.nil_append]
  repeat' (first | (with_reducible refine a_seq_k ?_; intro K hK) | (with_reducible first | refine a_block ?_ | refine a_ret ?_ | refine a_exit ?_ | refine a_skip ?_ | exact ConfOk.mk (by kernel_rfl)) | ((fail_if_success with_reducible show False); with_reducible apply_assumption (exfalso := false) (symm := false) only [*, rfl, trivial, congrArg]) | with_reducible refine And.intro ?_ ?_ | (intro h; contradiction) | (intro h; subst h) | intro h | ((try (with_reducible first | refine a_region (by kernel_rfl) ?_ | (refine a_draw mixed (by kernel_rfl) ?_; intro C hC) | (refine a_cond_k ?_; intro X Y hX hY) | refine RetOk.mk ?_)); simp (maxSteps := 10000000) (implicitDefEqProofs := false) only [go_sem, Dom.enc]))
  all_goals simp [alike, *]
theorem ref_less (c d : Dom) : ACalls Tryz.prog 284 [dA c, dA d] (.tuple [.bool (beforeD c d).1, .bool (beforeD c d).2]) := by
  obtain ⟨k, n, f, s, lo, hi⟩ := c
  obtain ⟨k', n', f', s', lo', hi'⟩ := d
  refine acalls_k Tryz.func284 rfl (by kernel_rfl) (congrArg Array.toList Tryz.results284) Tryz.ntmps284 ?_
  intro R hR
  simp only [st0, List.length_cons, List.length_nil, Nat.reduceAdd, Nat.reduceSub, List.replicate_succ, List.replicate_zero, List.cons_append, List.nil_append]
  repeat' (first | (with_reducible refine a_seq_k ?_; intro K hK) | (with_reducible first | refine a_block ?_ | refine a_ret ?_ | refine a_exit ?_ | refine a_skip ?_ | exact ConfOk.mk (by kernel_rfl)) | ((fail_if_success with_reducible show False); with_reducible apply_assumption (exfalso := false) (symm := false) only [*, rfl, trivial, congrArg]) | with_reducible refine And.intro ?_ ?_ | (intro h; contradiction) | (intro h; subst h) | intro h | ((try (with_reducible first | refine a_region (by kernel_rfl) ?_ | (refine a_draw mixed (by kernel_rfl) ?_; intro C hC) | (refine a_cond_k ?_; intro X Y hX hY) | refine RetOk.mk ?_)); simp (maxSteps := 10000000) (implicitDefEqProofs := false) only [go_sem, Dom.enc]))
  all_goals simp [beforeD, *]
theorem ref_compares (op : Int) (hop : 12 ≤ op ∧ op ≤ 17) (c d : Dom) : ACalls Tryz.prog 232 [.int .u8 op, dA c, dA d] (.tuple [.bool (cmpWith (alike c d) op c d).1, .bool (cmpWith (alike c d) op c d).2]) := by
  have h1 := ref_alike c d
  have h2 := ref_less c d
  have h3 := ref_less d c
  obtain ⟨k, n, f, s, lo, hi⟩ := c
  obtain ⟨k', n', f', s', lo', hi'⟩ := d
  simp only [dA, Dom.enc] at h1 h2 h3
  unfold cmpWith
  generalize alike _ _ = p1 at *
  generalize beforeD ⟨k, n, f, s, lo, hi⟩ _ = p2 at *
  generalize beforeD ⟨k', n', f', s', lo', hi'⟩ _ = p3 at *
  have ho : op = 12 ∨ op = 13 ∨ op = 14 ∨ op = 15 ∨ op = 16 ∨ op = 17 := by omega
  clear hop
  rcases ho with rfl | rfl | rfl | rfl | rfl | rfl
  all_goals
    refine acalls_k Tryz.func232 rfl (by kernel_rfl) (congrArg Array.toList Tryz.results232) Tryz.ntmps232 ?_
    intro R hR
    simp only [st0, List.length_cons, List.length_nil, Nat.reduceAdd, Nat.reduceSub, List.replicate_succ, List.replicate_zero, List.cons_append, List.nil_append]
    repeat' (first | (with_reducible refine a_seq_k ?_; intro K hK) | (with_reducible first | refine a_block ?_ | refine a_ret ?_ | refine a_exit ?_ | refine a_skip ?_ | exact ConfOk.mk (by kernel_rfl)) | ((fail_if_success with_reducible show False); with_reducible apply_assumption (exfalso := false) (symm := false) only [*, rfl, trivial, congrArg]) | with_reducible refine And.intro ?_ ?_ | (intro h; contradiction) | (intro h; subst h) | intro h | ((try (with_reducible first | refine a_region (by kernel_rfl) ?_ | (refine a_draw mixed (by kernel_rfl) ?_; intro C hC) | (refine a_cond_k ?_; intro X Y hX hY) | refine RetOk.mk ?_ | refine CallS.intro (h1) ?_ | refine CallD.intro (h1) ?_ | refine CallS.intro (h2) ?_ | refine CallD.intro (h2) ?_ | refine CallS.intro (h3) ?_ | refine CallD.intro (h3) ?_)); simp (maxSteps := 10000000) (implicitDefEqProofs := false) only [go_sem, Dom.enc]))
    all_goals simp [*]
theorem ref_size (n : Int) (h : In64 n) (h0 : n ≠ 0) : ACalls Tryz.prog 283 [.int .i64 n] (.int .i64 (sizeI n)) := by
  obtain ⟨h1, h2⟩ := h
  by_cases hn : n < 0
  · have w1 := wrapI (n + 1) (by omega)
    have w2 := wrapI (0 - (n + 1)) (by omega)
    have e : (0 : Int) - (n + 1) = sizeI n := by unfold sizeI; rw [if_pos hn]; omega
    rw [← e]
    clear h1 h2 h0 e
    refine acalls_k Tryz.func283 rfl (by kernel_rfl) (congrArg Array.toList Tryz.results283) Tryz.ntmps283 ?_
    intro R hR
    simp only [st0, List.length_cons, List.length_nil, Nat.reduceAdd, Nat.reduceSub, List.replicate_succ, List.replicate_zero, List.cons_append, List.nil_append]
    repeat' (first | (with_reducible refine a_seq_k ?_; intro K hK) | (with_reducible first | refine a_block ?_ | refine a_ret ?_ | refine a_exit ?_ | refine a_skip ?_ | exact ConfOk.mk (by kernel_rfl)) | ((fail_if_success with_reducible show False); with_reducible apply_assumption (exfalso := false) (symm := false) only [*, rfl, trivial, congrArg]) | with_reducible refine And.intro ?_ ?_ | (intro h; contradiction) | (intro h; subst h) | intro h | ((try (with_reducible first | refine a_region (by kernel_rfl) ?_ | (refine a_draw mixed (by kernel_rfl) ?_; intro C hC) | (refine a_cond_k ?_; intro X Y hX hY) | refine RetOk.mk ?_)); simp (maxSteps := 10000000) (implicitDefEqProofs := false) only [go_sem, hn, w1, w2]))
  · have w1 := wrapI (n - 1) (by omega)
    have e : n - 1 = sizeI n := by unfold sizeI; rw [if_neg hn]
    rw [← e]
    clear h1 h2 h0 e
    refine acalls_k Tryz.func283 rfl (by kernel_rfl) (congrArg Array.toList Tryz.results283) Tryz.ntmps283 ?_
    intro R hR
    simp only [st0, List.length_cons, List.length_nil, Nat.reduceAdd, Nat.reduceSub, List.replicate_succ, List.replicate_zero, List.cons_append, List.nil_append]
    repeat' (first | (with_reducible refine a_seq_k ?_; intro K hK) | (with_reducible first | refine a_block ?_ | refine a_ret ?_ | refine a_exit ?_ | refine a_skip ?_ | exact ConfOk.mk (by kernel_rfl)) | ((fail_if_success with_reducible show False); with_reducible apply_assumption (exfalso := false) (symm := false) only [*, rfl, trivial, congrArg]) | with_reducible refine And.intro ?_ ?_ | (intro h; contradiction) | (intro h; subst h) | intro h | ((try (with_reducible first | refine a_region (by kernel_rfl) ?_ | (refine a_draw mixed (by kernel_rfl) ?_; intro C hC) | (refine a_cond_k ?_; intro X Y hX hY) | refine RetOk.mk ?_)); simp (maxSteps := 10000000) (implicitDefEqProofs := false) only [go_sem, hn, w1]))
-- @enc(Dom.enc, En.enc, kd, dZ)@
theorem ref_givesE (d : Dom) (e : En) (es : List En) (hl : es.length < 2 ^ 40) : ACalls Tryz.prog 225 [dA d, .slice ((e :: es).map En.enc)] (dA (givesD d (minE e es) (maxE e es))) := by
  have hb := ref_below
  simp only [enA] at hb
  obtain ⟨mn, hmn⟩ : ∃ z, z = minE e es := ⟨_, rfl⟩
  obtain ⟨mx, hmx⟩ : ∃ z, z = maxE e es := ⟨_, rfl⟩
  rw [← hmn, ← hmx]
  have hlen : (0 : Int) < ((es.length + 1 : Nat) : Int) := by omega
  have hlen2 : (((es.length + 1 : Nat) : Int) = 0) = False := by simp; omega
  obtain ⟨L, hL⟩ : ∃ L, L = e :: es := ⟨_, rfl⟩
  refine acalls_k Tryz.func225 rfl (by kernel_rfl) (congrArg Array.toList Tryz.results225) Tryz.ntmps225 ?_
  intro R hR
  simp only [st0, List.length_cons, List.length_nil, Nat.reduceAdd, Nat.reduceSub, List.replicate_succ, List.replicate_zero, List.cons_append, List.nil_append]
  repeat' (first | (with_reducible refine a_seq_k ?_; intro K hK) | (with_reducible first | refine a_block ?_ | refine a_ret ?_ | refine a_exit ?_ | refine a_skip ?_ | exact ConfOk.mk (by kernel_rfl)) | ((fail_if_success with_reducible show False); with_reducible apply_assumption (exfalso := false) (symm := false) only [*, rfl, trivial, congrArg]) | with_reducible refine And.intro ?_ ?_ | (intro h; contradiction) | (intro h; subst h) | intro h | ((try (with_reducible first | refine a_region (by kernel_rfl) ?_ | (refine a_draw mixed (by kernel_rfl) ?_; intro C hC) | (refine a_cond_k ?_; intro X Y hX hY) | refine RetOk.mk ?_)); simp (maxSteps := 10000000) (implicitDefEqProofs := false) only [go_sem, Dom.enc, En.enc, hlen, hlen2]))
  rw [show ([AV.int .i64 e.side, AV.int .i64 e.n] :: es.map En.enc) = L.map En.enc by rw [hL]; rfl]
  refine a_loop_k (fun m st => ∃ (pre rest : List En) (lo hi : En), L = pre ++ rest ∧ m = rest.length ∧ minE lo rest = mn ∧ maxE hi rest = mx ∧ Has st 82 [(1, .slice (L.map En.enc)), (2, .ptr 2 0 0), (4, .ptr 4 0 0), (5, .ptr 5 2 0), (6, .ptr 6 2 0), (7, .int .i64 pre.length)] [(2, .box 0 d.enc), (4, .box 0 dZ), (5, .box 2 lo.enc), (6, .box 2 hi.enc)]) es.length ⟨[e], es, e, e, hL, rfl, hmn.symm, hmx.symm, ⟨rfl, rfl, by simp [hL, En.enc], by simp [Dom.enc, En.enc]⟩⟩ ?_
  rintro m st ⟨pre, rest, lo, hi, he, rfl, hp1, hp2, hs⟩ K hK
  have hw := wrap_nat pre.length (by have := congrArg List.length he; rw [hL] at this; simp at this; omega)
  clear hmn hmx hL hlen hlen2
  subst he
  refine a_has hs fun τ σ γ => ?_
  rcases rest with _ | ⟨x, rest⟩
  · have e1 : lo = mn := hp1
    have e2 : hi = mx := hp2
    subst e1 e2
    simp only [List.append_nil] at *
    repeat' (first | (with_reducible refine a_seq_k ?_; intro K hK) | (with_reducible first | refine a_block ?_ | refine a_ret ?_ | refine a_exit ?_ | refine a_skip ?_ | exact ConfOk.mk (by kernel_rfl)) | ((fail_if_success with_reducible show False); with_reducible apply_assumption (exfalso := false) (symm := false) only [*, rfl, trivial, congrArg]) | with_reducible refine And.intro ?_ ?_ | (intro h; contradiction) | (intro h; subst h) | intro h | ((try (with_reducible first | refine a_region (by kernel_rfl) ?_ | (refine a_draw mixed (by kernel_rfl) ?_; intro C hC) | (refine a_cond_k ?_; intro X Y hX hY) | refine RetOk.mk ?_)); simp (maxSteps := 10000000) (implicitDefEqProofs := false) only [go_sem, Dom.enc, En.enc]))
    all_goals simp [givesD, mI, xI, *]
  · have e1 : minE (if belowE x lo = true then x else lo) rest = mn := hp1
    have e2 : maxE (if belowE hi x = true then x else hi) rest = mx := hp2
    have b1 := hb x lo
    have b2 := hb hi x
    obtain ⟨xs, xn⟩ := x
    simp only at b1 b2
    generalize belowE ⟨xs, xn⟩ lo = c1 at *
    generalize belowE hi ⟨xs, xn⟩ = c2 at *
    cases c1 <;> cases c2
    all_goals
      simp only [if_true, Bool.false_eq_true, if_false] at e1 e2
      repeat' (first | (with_reducible refine a_seq_k ?_; intro K hK) | (with_reducible first | refine a_block ?_ | refine a_ret ?_ | refine a_exit ?_ | refine a_skip ?_ | exact ConfOk.mk (by kernel_rfl)) | ((fail_if_success with_reducible show False); with_reducible apply_assumption (exfalso := false) (symm := false) only [*, rfl, trivial, congrArg]) | with_reducible refine And.intro ?_ ?_ | (intro h; contradiction) | (intro h; subst h) | intro h | ((try (with_reducible first | refine a_region (by kernel_rfl) ?_ | (refine a_draw mixed (by kernel_rfl) ?_; intro C hC) | (refine a_cond_k ?_; intro X Y hX hY) | refine RetOk.mk ?_ | refine CallS.intro (b1) ?_ | refine CallD.intro (b1) ?_ | refine CallS.intro (b2) ?_ | refine CallD.intro (b2) ?_)); simp (maxSteps := 10000000) (implicitDefEqProofs := false) only [go_sem, En.enc, hw]))
      all_goals exact ⟨⟨rest.length, by simp, pre ++ [⟨xs, xn⟩], rest, _, _, by simp, rfl, e1, e2, ⟨rfl, rfl, by simp [En.enc], by simp [En.enc, Dom.enc]⟩⟩⟩
theorem ref_gives (d : Dom) (l : List Int) (hl : l.length < 2 ^ 40) : ACalls Tryz.prog 225 [dA d, .slice (l.map fun v => (endOf v).enc)] (dA (interL d l)) := by
  rcases l with _ | ⟨v, vs⟩
  · simp only [interL, List.map_nil]
    refine acalls_k Tryz.func225 rfl (by kernel_rfl) (congrArg Array.toList Tryz.results225) Tryz.ntmps225 ?_
    intro R hR
    simp only [st0, List.length_cons, List.length_nil, Nat.reduceAdd, Nat.reduceSub, List.replicate_succ, List.replicate_zero, List.cons_append, List.nil_append]
    repeat' (first | (with_reducible refine a_seq_k ?_; intro K hK) | (with_reducible first | refine a_block ?_ | refine a_ret ?_ | refine a_exit ?_ | refine a_skip ?_ | exact ConfOk.mk (by kernel_rfl)) | ((fail_if_success with_reducible show False); with_reducible apply_assumption (exfalso := false) (symm := false) only [*, rfl, trivial, congrArg]) | with_reducible refine And.intro ?_ ?_ | (intro h; contradiction) | (intro h; subst h) | intro h | ((try (with_reducible first | refine a_region (by kernel_rfl) ?_ | (refine a_draw mixed (by kernel_rfl) ?_; intro C hC) | (refine a_cond_k ?_; intro X Y hX hY) | refine RetOk.mk ?_)); simp (maxSteps := 10000000) (implicitDefEqProofs := false) only [go_sem, Dom.enc]))
  · have h := ref_givesE d (endOf v) (vs.map endOf) (by simp at hl ⊢; omega)
    rw [gives_inter] at h
    simpa [List.map_map, Function.comp_def, interL] using h
theorem mR_in {b : Dom} (hb : b.In) : 0 ≤ mR b ∧ mR b ≤ 9223372036854775807 := by
  obtain ⟨_, ⟨a1, a2⟩, b1, b2⟩ := hb
  unfold mR sizeI
  simp only
  split <;> split <;> (try split) <;> (try split) <;> (try split) <;> omega
theorem ref_remains (d a b : Dom) (ha : a.In) (hb : b.In) (hl : b.lo ≤ b.hi) : ACalls Tryz.prog 230 [dA d, dA a, dA b] (dA (if byOf b = [] then addFail d (zeroIn b) else remD (addFail d (zeroIn b)) a (mR b))) := by
  have s1 := fun h => ref_size b.lo hb.2.1 h
  have s2 := fun h => ref_size b.hi hb.2.2 h
  have hm := mR_in hb
  obtain ⟨e, he⟩ : ∃ e, e = addFail d (zeroIn b) := ⟨_, rfl⟩
  obtain ⟨res, hres⟩ : ∃ r, r = if byOf b = [] then e else remD e a (mR b) := ⟨_, rfl⟩
  have hn := by_nil hl
  rw [← he, ← hres]
  obtain ⟨m, hmm⟩ : ∃ m, m = mR b := ⟨_, rfl⟩
  rw [← hmm] at hres hm
  refine acalls_k Tryz.func230 rfl (by kernel_rfl) (congrArg Array.toList Tryz.results230) Tryz.ntmps230 ?_
  intro R hR
  simp only [st0, List.length_cons, List.length_nil, Nat.reduceAdd, Nat.reduceSub, List.replicate_succ, List.replicate_zero, List.cons_append, List.nil_append]
  refine a_cut (fun st => (True) ∧ Has st 79 [(3, .ptr 3 0 0), (4, .ptr 4 0 0), (5, .ptr 5 0 0), (6, .ptr 6 0 0)] [(3, .box 0 d.enc), (4, .box 0 a.enc), (5, .box 0 b.enc), (6, .box 0 dZ)]) (fun K hK => ?_) ?_
  · repeat' (first | (with_reducible refine a_seq_k ?_; intro K hK) | (with_reducible first | refine a_block ?_ | refine a_ret ?_ | refine a_exit ?_ | refine a_skip ?_ | exact ConfOk.mk (by kernel_rfl)) | ((fail_if_success with_reducible show False); with_reducible apply_assumption (exfalso := false) (symm := false) only [*, rfl, trivial, congrArg]) | with_reducible refine And.intro ?_ ?_ | (intro h; contradiction) | (intro h; subst h) | intro h | ((try (with_reducible first | refine a_region (by kernel_rfl) ?_ | (refine a_draw mixed (by kernel_rfl) ?_; intro C hC) | (refine a_cond_k ?_; intro X Y hX hY) | refine RetOk.mk ?_)); simp (maxSteps := 10000000) (implicitDefEqProofs := false) only [go_sem, Dom.enc]))
    exact ⟨⟨rfl, rfl, by simp, by simp [Dom.enc]⟩⟩
  rintro st ⟨hm, hs⟩
  refine a_has hs fun τ σ γ => ?_
  refine a_cut (fun st => (True) ∧ Has st 79 [(3, .ptr 3 0 0), (4, .ptr 4 0 0), (5, .ptr 5 0 0), (6, .ptr 6 0 0)] [(3, .box 0 e.enc), (4, .box 0 a.enc), (5, .box 0 b.enc), (6, .box 0 dZ)]) (fun K hK => ?_) ?_
  · repeat' (first | (with_reducible refine a_seq_k ?_; intro K hK) | (with_reducible first | refine a_block ?_ | refine a_ret ?_ | refine a_exit ?_ | refine a_skip ?_ | exact ConfOk.mk (by kernel_rfl)) | ((fail_if_success with_reducible show False); with_reducible apply_assumption (exfalso := false) (symm := false) only [*, rfl, trivial, congrArg]) | with_reducible refine And.intro ?_ ?_ | (intro h; contradiction) | (intro h; subst h) | intro h | ((try (with_reducible first | refine a_region (by kernel_rfl) ?_ | (refine a_draw mixed (by kernel_rfl) ?_; intro C hC) | (refine a_cond_k ?_; intro X Y hX hY) | refine RetOk.mk ?_)); simp (maxSteps := 10000000) (implicitDefEqProofs := false) only [go_sem, Dom.enc]))
    all_goals exact ⟨⟨rfl, rfl, by simp, by simp [Dom.enc, he, zeroIn, *]⟩⟩
  rintro st ⟨hm, hs⟩
  refine a_has hs fun τ σ γ => ?_
  clear he
  by_cases h0 : b.lo = 0 ∧ b.hi = 0
  · rw [if_pos (hn.2 h0)] at hres
    obtain ⟨h1, h2⟩ := h0
    subst hres
    clear s1 s2 hn
    repeat' (first | (with_reducible refine a_seq_k ?_; intro K hK) | (with_reducible first | refine a_block ?_ | refine a_ret ?_ | refine a_exit ?_ | refine a_skip ?_ | exact ConfOk.mk (by kernel_rfl)) | ((fail_if_success with_reducible show False); with_reducible apply_assumption (exfalso := false) (symm := false) only [*, rfl, trivial, congrArg]) | with_reducible refine And.intro ?_ ?_ | (intro h; contradiction) | (intro h; subst h) | intro h | ((try (with_reducible first | refine a_region (by kernel_rfl) ?_ | (refine a_draw mixed (by kernel_rfl) ?_; intro C hC) | (refine a_cond_k ?_; intro X Y hX hY) | refine RetOk.mk ?_)); simp (maxSteps := 10000000) (implicitDefEqProofs := false) only [go_sem, Dom.enc, h1, h2]))
  · rw [if_neg (fun h => h0 (hn.1 h))] at hres
    clear hn
    have hwm := wrapI (0 - m) (by omega)
    refine a_cut (fun st => (True) ∧ Has st 79 [(3, .ptr 3 0 0), (4, .ptr 4 0 0), (5, .ptr 5 0 0), (6, .ptr 6 0 0)] [(3, .box 0 e.enc), (4, .box 0 a.enc), (5, .box 0 b.enc), (6, .box 0 dZ)]) (fun K hK => ?_) ?_
    · repeat' (first | (with_reducible refine a_seq_k ?_; intro K hK) | (with_reducible first | refine a_block ?_ | refine a_ret ?_ | refine a_exit ?_ | refine a_skip ?_ | exact ConfOk.mk (by kernel_rfl)) | ((fail_if_success with_reducible show False); with_reducible apply_assumption (exfalso := false) (symm := false) only [*, rfl, trivial, congrArg]) | with_reducible refine And.intro ?_ ?_ | (intro h; contradiction) | (intro h; subst h) | intro h | ((try (with_reducible first | refine a_region (by kernel_rfl) ?_ | (refine a_draw mixed (by kernel_rfl) ?_; intro C hC) | (refine a_cond_k ?_; intro X Y hX hY) | refine RetOk.mk ?_)); simp (maxSteps := 10000000) (implicitDefEqProofs := false) only [go_sem, Dom.enc]))
      all_goals first
        | exact ⟨⟨rfl, rfl, by simp, by simp [Dom.enc]⟩⟩
        | (exfalso; simp_all; done)
    rintro st ⟨hm, hs⟩
    refine a_has hs fun τ σ γ => ?_
    obtain ⟨m1, hm1⟩ : ∃ m1, m1 = if b.lo ≠ 0 then sizeI b.lo else 0 := ⟨_, rfl⟩
    unfold mR at hmm
    simp only [← hm1] at hmm
    refine a_cut (fun st => (True) ∧ Has st 79 [(3, .ptr 3 0 0), (4, .ptr 4 0 0), (5, .ptr 5 0 0), (6, .ptr 6 0 0), (7, .int .i64 0)] [(3, .box 0 e.enc), (4, .box 0 a.enc), (5, .box 0 b.enc), (6, .box 0 dZ)]) (fun K hK => ?_) ?_
    · repeat' (first | (with_reducible refine a_seq_k ?_; intro K hK) | (with_reducible first | refine a_block ?_ | refine a_ret ?_ | refine a_exit ?_ | refine a_skip ?_ | exact ConfOk.mk (by kernel_rfl)) | ((fail_if_success with_reducible show False); with_reducible apply_assumption (exfalso := false) (symm := false) only [*, rfl, trivial, congrArg]) | with_reducible refine And.intro ?_ ?_ | (intro h; contradiction) | (intro h; subst h) | intro h | ((try (with_reducible first | refine a_region (by kernel_rfl) ?_ | (refine a_draw mixed (by kernel_rfl) ?_; intro C hC) | (refine a_cond_k ?_; intro X Y hX hY) | refine RetOk.mk ?_)); simp (maxSteps := 10000000) (implicitDefEqProofs := false) only [go_sem]))
      all_goals exact ⟨⟨rfl, rfl, by simp, by simp [Dom.enc]⟩⟩
    rintro st ⟨hm, hs⟩
    refine a_has hs fun τ σ γ => ?_
    refine a_cut (fun st => (True) ∧ Has st 79 [(3, .ptr 3 0 0), (4, .ptr 4 0 0), (5, .ptr 5 0 0), (6, .ptr 6 0 0), (7, .int .i64 m1)] [(3, .box 0 e.enc), (4, .box 0 a.enc), (5, .box 0 b.enc), (6, .box 0 dZ)]) (fun K hK => ?_) ?_
    · by_cases h1 : b.lo = 0
      · have e1 : m1 = 0 := by rw [hm1, if_neg (by simp [h1])]
        subst e1
        clear s1 s2 hm1 hmm
        repeat' (first | (with_reducible refine a_seq_k ?_; intro K hK) | (with_reducible first | refine a_block ?_ | refine a_ret ?_ | refine a_exit ?_ | refine a_skip ?_ | exact ConfOk.mk (by kernel_rfl)) | ((fail_if_success with_reducible show False); with_reducible apply_assumption (exfalso := false) (symm := false) only [*, rfl, trivial, congrArg]) | with_reducible refine And.intro ?_ ?_ | (intro h; contradiction) | (intro h; subst h) | intro h | ((try (with_reducible first | refine a_region (by kernel_rfl) ?_ | (refine a_draw mixed (by kernel_rfl) ?_; intro C hC) | (refine a_cond_k ?_; intro X Y hX hY) | refine RetOk.mk ?_)); simp (maxSteps := 10000000) (implicitDefEqProofs := false) only [go_sem, Dom.enc, h1]))
        all_goals exact ⟨⟨rfl, rfl, by simp, by simp [Dom.enc, *]⟩⟩
      · have s1 := s1 h1
        rw [if_pos h1] at hm1
        rw [← hm1] at s1
        clear s2 hm1 hmm
        repeat' (first | (with_reducible refine a_seq_k ?_; intro K hK) | (with_reducible first | refine a_block ?_ | refine a_ret ?_ | refine a_exit ?_ | refine a_skip ?_ | exact ConfOk.mk (by kernel_rfl)) | ((fail_if_success with_reducible show False); with_reducible apply_assumption (exfalso := false) (symm := false) only [*, rfl, trivial, congrArg]) | with_reducible refine And.intro ?_ ?_ | (intro h; contradiction) | (intro h; subst h) | intro h | ((try (with_reducible first | refine a_region (by kernel_rfl) ?_ | (refine a_draw mixed (by kernel_rfl) ?_; intro C hC) | (refine a_cond_k ?_; intro X Y hX hY) | refine RetOk.mk ?_ | refine CallS.intro (s1) ?_ | refine CallD.intro (s1) ?_)); simp (maxSteps := 10000000) (implicitDefEqProofs := false) only [go_sem, Dom.enc, h1]))
        all_goals exact ⟨⟨rfl, rfl, by simp, by simp [Dom.enc, *]⟩⟩
    rintro st ⟨hm, hs⟩
    refine a_has hs fun τ σ γ => ?_
    refine a_cut (fun st => (True) ∧ Has st 79 [(3, .ptr 3 0 0), (4, .ptr 4 0 0), (5, .ptr 5 0 0), (6, .ptr 6 0 0), (7, .int .i64 m)] [(3, .box 0 e.enc), (4, .box 0 a.enc), (5, .box 0 b.enc), (6, .box 0 dZ)]) (fun K hK => ?_) ?_
    · by_cases h2 : b.hi = 0
      · have e1 : m = m1 := by rw [hmm, if_neg (by simp [h2])]
        subst e1
        clear s1 s2 hm1 hmm
        repeat' (first | (with_reducible refine a_seq_k ?_; intro K hK) | (with_reducible first | refine a_block ?_ | refine a_ret ?_ | refine a_exit ?_ | refine a_skip ?_ | exact ConfOk.mk (by kernel_rfl)) | ((fail_if_success with_reducible show False); with_reducible apply_assumption (exfalso := false) (symm := false) only [*, rfl, trivial, congrArg]) | with_reducible refine And.intro ?_ ?_ | (intro h; contradiction) | (intro h; subst h) | intro h | ((try (with_reducible first | refine a_region (by kernel_rfl) ?_ | (refine a_draw mixed (by kernel_rfl) ?_; intro C hC) | (refine a_cond_k ?_; intro X Y hX hY) | refine RetOk.mk ?_)); simp (maxSteps := 10000000) (implicitDefEqProofs := false) only [go_sem, Dom.enc, h2]))
        all_goals exact ⟨⟨rfl, rfl, by simp, by simp [Dom.enc, *]⟩⟩
      · have s2 := s2 h2
        clear s1 hm1
        generalize sizeI b.hi = q at *
        by_cases h3 : m1 < q
        · rw [if_pos ⟨h2, h3⟩] at hmm
          subst hmm
          repeat' (first | (with_reducible refine a_seq_k ?_; intro K hK) | (with_reducible first | refine a_block ?_ | refine a_ret ?_ | refine a_exit ?_ | refine a_skip ?_ | exact ConfOk.mk (by kernel_rfl)) | ((fail_if_success with_reducible show False); with_reducible apply_assumption (exfalso := false) (symm := false) only [*, rfl, trivial, congrArg]) | with_reducible refine And.intro ?_ ?_ | (intro h; contradiction) | (intro h; subst h) | intro h | ((try (with_reducible first | refine a_region (by kernel_rfl) ?_ | (refine a_draw mixed (by kernel_rfl) ?_; intro C hC) | (refine a_cond_k ?_; intro X Y hX hY) | refine RetOk.mk ?_ | refine CallS.intro (s2) ?_ | refine CallD.intro (s2) ?_)); simp (maxSteps := 10000000) (implicitDefEqProofs := false) only [go_sem, Dom.enc, h2, h3]))
          all_goals exact ⟨⟨rfl, rfl, by simp, by simp [Dom.enc, *]⟩⟩
        · rw [if_neg (fun h => h3 h.2)] at hmm
          subst hmm
          repeat' (first | (with_reducible refine a_seq_k ?_; intro K hK) | (with_reducible first | refine a_block ?_ | refine a_ret ?_ | refine a_exit ?_ | refine a_skip ?_ | exact ConfOk.mk (by kernel_rfl)) | ((fail_if_success with_reducible show False); with_reducible apply_assumption (exfalso := false) (symm := false) only [*, rfl, trivial, congrArg]) | with_reducible refine And.intro ?_ ?_ | (intro h; contradiction) | (intro h; subst h) | intro h | ((try (with_reducible first | refine a_region (by kernel_rfl) ?_ | (refine a_draw mixed (by kernel_rfl) ?_; intro C hC) | (refine a_cond_k ?_; intro X Y hX hY) | refine RetOk.mk ?_ | refine CallS.intro (s2) ?_ | refine CallD.intro (s2) ?_)); simp (maxSteps := 10000000) (implicitDefEqProofs := false) only [go_sem, Dom.enc, h2, h3]))
          all_goals exact ⟨⟨rfl, rfl, by simp, by simp [Dom.enc, *]⟩⟩
    rintro st ⟨hm, hs⟩
    refine a_has hs fun τ σ γ => ?_
    clear hmm h0 s1 s2 hm1
    repeat' (first | (with_reducible refine a_seq_k ?_; intro K hK) | (with_reducible first | refine a_block ?_ | refine a_ret ?_ | refine a_exit ?_ | refine a_skip ?_ | exact ConfOk.mk (by kernel_rfl)) | ((fail_if_success with_reducible show False); with_reducible apply_assumption (exfalso := false) (symm := false) only [*, rfl, trivial, congrArg]) | with_reducible refine And.intro ?_ ?_ | (intro h; contradiction) | (intro h; subst h) | intro h | ((try (with_reducible first | refine a_region (by kernel_rfl) ?_ | (refine a_draw mixed (by kernel_rfl) ?_; intro C hC) | (refine a_cond_k ?_; intro X Y hX hY) | refine RetOk.mk ?_)); simp (maxSteps := 10000000) (implicitDefEqProofs := false) only [go_sem, Dom.enc, hwm]))
    all_goals (simp [hres, remD, *] <;> (intros; omega))
def concatD (d a b : Dom) : Dom :=
  let e := addFail d (decide (100 < IntKind.wrap .i64 (a.hi + b.hi)))
  if 100 < IntKind.wrap .i64 (a.lo + b.lo) then e else { e with some := true, lo := IntKind.wrap .i64 (a.lo + b.lo), hi := if 100 < IntKind.wrap .i64 (a.hi + b.hi) then 100 else IntKind.wrap .i64 (a.hi + b.hi) }
theorem ref_joins (d a b : Dom) (ha : a.In) (hb : b.In) : ACalls Tryz.prog 231 [dA d, dA a, dA b] (dA (concatD d a b)) := by
  obtain ⟨res, hres⟩ : ∃ r, r = concatD d a b := ⟨_, rfl⟩
  rw [← hres]
  unfold concatD at hres
  simp only at hres
  obtain ⟨L, hL⟩ : ∃ L, L = IntKind.wrap .i64 (a.lo + b.lo) := ⟨_, rfl⟩
  obtain ⟨H, hH⟩ : ∃ H, H = IntKind.wrap .i64 (a.hi + b.hi) := ⟨_, rfl⟩
  rw [← hL, ← hH] at hres
  replace hL := hL.symm
  replace hH := hH.symm
  refine acalls_k Tryz.func231 rfl (by kernel_rfl) (congrArg Array.toList Tryz.results231) Tryz.ntmps231 ?_
  intro R hR
  simp only [st0, List.length_cons, List.length_nil, Nat.reduceAdd, Nat.reduceSub, List.replicate_succ, List.replicate_zero, List.cons_append, List.nil_append]
  repeat' (first | (with_reducible refine a_seq_k ?_; intro K hK) | (with_reducible first | refine a_block ?_ | refine a_ret ?_ | refine a_exit ?_ | refine a_skip ?_ | exact ConfOk.mk (by kernel_rfl)) | ((fail_if_success with_reducible show False); with_reducible apply_assumption (exfalso := false) (symm := false) only [*, rfl, trivial, congrArg]) | with_reducible refine And.intro ?_ ?_ | (intro h; contradiction) | (intro h; subst h) | intro h | ((try (with_reducible first | refine a_region (by kernel_rfl) ?_ | (refine a_draw mixed (by kernel_rfl) ?_; intro C hC) | (refine a_cond_k ?_; intro X Y hX hY) | refine RetOk.mk ?_)); simp (maxSteps := 10000000) (implicitDefEqProofs := false) only [go_sem, Dom.enc, hL, hH]))
  all_goals (rw [hres]; simp [addFail, *]; try omega)
-- @enc(Dom.enc, En.enc, kd, dZ, k64)@
theorem ref_gives0 (d : Dom) : ACalls Tryz.prog 225 [dA d, .nils] (dA d) := by
  refine acalls_k Tryz.func225 rfl (by kernel_rfl) (congrArg Array.toList Tryz.results225) Tryz.ntmps225 ?_
  intro R hR
  simp only [st0, List.length_cons, List.length_nil, Nat.reduceAdd, Nat.reduceSub, List.replicate_succ, List.replicate_zero, List.cons_append, List.nil_append]
  repeat' (first | (with_reducible refine a_seq_k ?_; intro K hK) | (with_reducible first | refine a_block ?_ | refine a_ret ?_ | refine a_exit ?_ | refine a_skip ?_ | exact ConfOk.mk (by kernel_rfl)) | ((fail_if_success with_reducible show False); with_reducible apply_assumption (exfalso := false) (symm := false) only [*, rfl, trivial, congrArg]) | with_reducible refine And.intro ?_ ?_ | (intro h; contradiction) | (intro h; subst h) | intro h | ((try (with_reducible first | refine a_region (by kernel_rfl) ?_ | (refine a_draw mixed (by kernel_rfl) ?_; intro C hC) | (refine a_cond_k ?_; intro X Y hX hY) | refine RetOk.mk ?_)); simp (maxSteps := 10000000) (implicitDefEqProofs := false) only [go_sem, Dom.enc]))
theorem all2i (a b c d : Int) : (∀ y ∈ [[AV.int .i64 a, AV.int .i64 b], [AV.int .i64 c, AV.int .i64 d]], elOk 2 y = true) = True := by simp [elOk, leafB]
@[reducible] def enE (v : Int) : List AV := [.int .i64 (endOf v).side, .int .i64 (endOf v).n]
@[reducible] def endsG (a : Dom) (l : List Int) : List Int := l.flatMap fun n => [Int.tdiv a.lo n, Int.tdiv a.hi n]
theorem endsG_len (a : Dom) (l : List Int) : (endsG a l).length = 2 * l.length := by
  induction l with
  | nil => rfl
  | cons x r ih => simp only [endsG, List.flatMap_cons, List.length_append, List.length_cons, List.length_nil] at ih ⊢; omega
theorem ref_divides (d a b : Dom) (ha : a.In) (hb : b.In) : ACalls Tryz.prog 229 [dA d, dA a, dA b] (dA (interL (addFail d (zeroIn b)) (endsOf a b))) := by
  have hmem : ∀ x ∈ byOf b, x ≠ 0 ∧ In64 x := fun x hx => exs_mem hb hx
  obtain ⟨bs, hbs⟩ : ∃ bs : List Int, bs = [b.lo, b.hi, 1, -1] := ⟨_, rfl⟩
  have hby : bs.filter (exs b.lo b.hi) = byOf b := by rw [hbs]; rfl
  have hbl : bs.length = 4 := by rw [hbs]; rfl
  obtain ⟨e, he⟩ : ∃ e : Dom, e = addFail d (zeroIn b) := ⟨_, rfl⟩
  have hE0 : endsOf a b = endsG a (byOf b) := rfl
  rw [hE0, ← he, ← hby]
  have hmem2 : ∀ x ∈ bs, exs b.lo b.hi x = true → x ≠ 0 ∧ In64 x := by rw [← hby] at hmem; exact fun x h1 h2 => hmem x (List.mem_filter.2 ⟨h1, h2⟩)
  obtain ⟨_, il, ih⟩ := ha
  have hgv := ref_gives e (endsG a (bs.filter (exs b.lo b.hi))) (by rw [endsG_len]; have := List.length_filter_le (exs b.lo b.hi) bs; omega)
  have hg0 := ref_gives0 e
  clear hby hmem hE0 hb
  obtain ⟨fx, hfx⟩ : ∃ fx, fx = exs b.lo b.hi := ⟨_, rfl⟩
  rw [← hfx] at hgv hmem2 ⊢
  simp only [dA, Dom.enc, En.enc] at hgv hg0
  refine acalls_k Tryz.func229 rfl (by kernel_rfl) (congrArg Array.toList Tryz.results229) Tryz.ntmps229 ?_
  intro R hR
  simp only [st0, List.length_cons, List.length_nil, Nat.reduceAdd, Nat.reduceSub, List.replicate_succ, List.replicate_zero, List.cons_append, List.nil_append]
  refine a_cut (fun st => (True) ∧ Has st 77 [(3, .ptr 3 0 0), (4, .ptr 4 0 0), (5, .ptr 5 0 0), (6, .ptr 6 0 0)] [(3, .box 0 d.enc), (4, .box 0 a.enc), (5, .box 0 b.enc), (6, .box 0 dZ)]) (fun K hK => ?_) ?_
  · repeat' (first | (with_reducible refine a_seq_k ?_; intro K hK) | (with_reducible first | refine a_block ?_ | refine a_ret ?_ | refine a_exit ?_ | refine a_skip ?_ | exact ConfOk.mk (by kernel_rfl)) | ((fail_if_success with_reducible show False); with_reducible apply_assumption (exfalso := false) (symm := false) only [*, rfl, trivial, congrArg]) | with_reducible refine And.intro ?_ ?_ | (intro h; contradiction) | (intro h; subst h) | intro h | ((try (with_reducible first | refine a_region (by kernel_rfl) ?_ | (refine a_draw mixed (by kernel_rfl) ?_; intro C hC) | (refine a_cond_k ?_; intro X Y hX hY) | refine RetOk.mk ?_)); simp (maxSteps := 10000000) (implicitDefEqProofs := false) only [go_sem, Dom.enc]))
    exact ⟨⟨rfl, rfl, by simp, by simp [Dom.enc]⟩⟩
  rintro st ⟨hm, hs⟩
  refine a_has hs fun τ σ γ => ?_
  refine a_cut (fun st => (True) ∧ Has st 77 [(3, .ptr 3 0 0), (4, .ptr 4 0 0), (5, .ptr 5 0 0), (6, .ptr 6 0 0)] [(3, .box 0 e.enc), (4, .box 0 a.enc), (5, .box 0 b.enc), (6, .box 0 dZ)]) (fun K hK => ?_) ?_
  · repeat' (first | (with_reducible refine a_seq_k ?_; intro K hK) | (with_reducible first | refine a_block ?_ | refine a_ret ?_ | refine a_exit ?_ | refine a_skip ?_ | exact ConfOk.mk (by kernel_rfl)) | ((fail_if_success with_reducible show False); with_reducible apply_assumption (exfalso := false) (symm := false) only [*, rfl, trivial, congrArg]) | with_reducible refine And.intro ?_ ?_ | (intro h; contradiction) | (intro h; subst h) | intro h | ((try (with_reducible first | refine a_region (by kernel_rfl) ?_ | (refine a_draw mixed (by kernel_rfl) ?_; intro C hC) | (refine a_cond_k ?_; intro X Y hX hY) | refine RetOk.mk ?_)); simp (maxSteps := 10000000) (implicitDefEqProofs := false) only [go_sem, Dom.enc]))
    all_goals exact ⟨⟨rfl, rfl, by simp, by simp [Dom.enc, he, zeroIn, *]⟩⟩
  rintro st ⟨hm, hs⟩
  refine a_has hs fun τ σ γ => ?_
  clear he
  repeat' (first | (with_reducible refine a_seq_k ?_; intro K hK) | (with_reducible first | refine a_block ?_ | refine a_ret ?_ | refine a_exit ?_ | refine a_skip ?_ | exact ConfOk.mk (by kernel_rfl)) | ((fail_if_success with_reducible show False); with_reducible apply_assumption (exfalso := false) (symm := false) only [*, rfl, trivial, congrArg]) | with_reducible refine And.intro ?_ ?_ | (intro h; contradiction) | (intro h; subst h) | intro h | ((try (with_reducible first | refine a_region (by kernel_rfl) ?_ | (refine a_draw mixed (by kernel_rfl) ?_; intro C hC) | (refine a_cond_k ?_; intro X Y hX hY) | refine RetOk.mk ?_)); simp (maxSteps := 10000000) (implicitDefEqProofs := false) only [go_sem, Dom.enc]))
  refine a_loop_k (fun m st => ∃ (g1 : Nat) (pre rest : List Int), bs = pre ++ rest ∧ m = rest.length ∧ ((pre.filter fx = [] ∧ Has st 77 [(3, .ptr 3 0 0), (4, .ptr 4 0 0), (5, .ptr 5 0 0), (6, .ptr 6 0 0), (7, .view 27 g1), (8, .nils), (9, .int .i64 pre.length)] [(3, .box 0 e.enc), (4, .box 0 a.enc), (5, .box 0 b.enc), (6, .box 0 dZ), (27, .row g1 1 (bs.map k64))]) ∨ (pre.filter fx ≠ [] ∧ ∃ g, Has st 77 [(3, .ptr 3 0 0), (4, .ptr 4 0 0), (5, .ptr 5 0 0), (6, .ptr 6 0 0), (7, .view 27 g1), (8, .view 73 g), (9, .int .i64 pre.length)] [(3, .box 0 e.enc), (4, .box 0 a.enc), (5, .box 0 b.enc), (6, .box 0 dZ), (27, .row g1 1 (bs.map k64)), (73, .row g 2 ((endsG a (pre.filter fx)).map enE))]))) bs.length ⟨γ, [], bs, rfl, rfl, .inl ⟨rfl, ⟨rfl, rfl, by simp [hbl], by simp [Dom.enc, hbs, k64]⟩⟩⟩ ?_
  rintro m st ⟨g1, pre, rest, he0, rfl, hst⟩ K2 hK2
  have hw := wrap_nat pre.length (by have := congrArg List.length he0; simp at this; omega)
  have hlen : (pre.filter fx).length ≤ 4 := by have := List.length_filter_le fx pre; have h2 := congrArg List.length he0; simp at h2; omega
  have hel := endsG_len a (pre.filter fx)
  clear hbs
  rcases rest with _ | ⟨x, rest⟩
  · rw [List.append_nil] at he0
    subst he0
    rcases hst with ⟨hp, hs⟩ | ⟨hp, g, hs⟩
    · refine a_has hs fun τ σ γ => ?_
      have e1 : interL e (endsG a (bs.filter fx)) = e := by rw [hp]; rfl
      repeat' (first | (with_reducible refine a_seq_k ?_; intro K hK) | (with_reducible first | refine a_block ?_ | refine a_ret ?_ | refine a_exit ?_ | refine a_skip ?_ | exact ConfOk.mk (by kernel_rfl)) | ((fail_if_success with_reducible show False); with_reducible apply_assumption (exfalso := false) (symm := false) only [*, rfl, trivial, congrArg]) | with_reducible refine And.intro ?_ ?_ | (intro h; contradiction) | (intro h; subst h) | intro h | ((try (with_reducible first | refine a_region (by kernel_rfl) ?_ | (refine a_draw mixed (by kernel_rfl) ?_; intro C hC) | (refine a_cond_k ?_; intro X Y hX hY) | refine RetOk.mk ?_ | refine CallS.intro (hg0) ?_ | refine CallD.intro (hg0) ?_)); simp (maxSteps := 10000000) (implicitDefEqProofs := false) only [go_sem, Dom.enc, k64, List.length_map]))
      all_goals rw [e1]
    · refine a_has hs fun τ σ γ => ?_
      generalize interL e (endsG a (bs.filter fx)) = r at *
      generalize endsG a (bs.filter fx) = L at *
      repeat' (first | (with_reducible refine a_seq_k ?_; intro K hK) | (with_reducible first | refine a_block ?_ | refine a_ret ?_ | refine a_exit ?_ | refine a_skip ?_ | exact ConfOk.mk (by kernel_rfl)) | ((fail_if_success with_reducible show False); with_reducible apply_assumption (exfalso := false) (symm := false) only [*, rfl, trivial, congrArg]) | with_reducible refine And.intro ?_ ?_ | (intro h; contradiction) | (intro h; subst h) | intro h | ((try (with_reducible first | refine a_region (by kernel_rfl) ?_ | (refine a_draw mixed (by kernel_rfl) ?_; intro C hC) | (refine a_cond_k ?_; intro X Y hX hY) | refine RetOk.mk ?_ | refine CallS.intro (hgv) ?_ | refine CallD.intro (hgv) ?_)); simp (maxSteps := 10000000) (implicitDefEqProofs := false) only [go_sem, Dom.enc, k64, List.length_map, enE]))
  · have hx2 := hmem2 x (by rw [he0]; simp)
    subst he0
    by_cases hx : fx x = true
    · obtain ⟨x0, xi⟩ := hx2 hx
      have q1 := ref_over a.lo x il xi x0
      have q2 := ref_over a.hi x ih xi x0
      have hx3 := hx
      rw [hfx] at hx3
      simp only [exs, Bool.and_eq_true, decide_eq_true_eq] at hx3
      obtain ⟨_, h2, h3⟩ := hx3
      have e2 : endsG a ((pre ++ [x]).filter fx) = endsG a (pre.filter fx) ++ [Int.tdiv a.lo x, Int.tdiv a.hi x] := by simp [endsG, List.filter_append, List.filter_cons, hx]
      have e3 : List.filter fx [x] = [x] := by simp [List.filter_cons, hx]
      have ne : (pre ++ [x]).filter fx ≠ [] := by simp [List.filter_append, List.filter_cons, hx]
      simp only [enA] at q1 q2
      clear hgv hg0 hx2 hmem2
      rcases hst with ⟨hp, hs⟩ | ⟨hp, g, hs⟩
      · refine a_has hs fun τ σ γ => ?_
        repeat' (first | (with_reducible refine a_seq_k ?_; intro K hK) | (with_reducible first | refine a_block ?_ | refine a_ret ?_ | refine a_exit ?_ | refine a_skip ?_ | exact ConfOk.mk (by kernel_rfl)) | ((fail_if_success with_reducible show False); with_reducible apply_assumption (exfalso := false) (symm := false) only [*, rfl, trivial, congrArg]) | with_reducible refine And.intro ?_ ?_ | (intro h; contradiction) | (intro h; subst h) | intro h | ((try (with_reducible first | refine a_region (by kernel_rfl) ?_ | (refine a_draw mixed (by kernel_rfl) ?_; intro C hC) | (refine a_cond_k ?_; intro X Y hX hY) | refine RetOk.mk ?_ | refine CallS.intro (q1) ?_ | refine CallD.intro (q1) ?_ | refine CallS.intro (q2) ?_ | refine CallD.intro (q2) ?_)); simp (maxSteps := 10000000) (implicitDefEqProofs := false) only [go_sem, k64, hw, Dom.enc, List.length_map, List.map_append, x0, h2, h3, all2i]))
        all_goals exact ⟨⟨rest.length, by simp, g1, pre ++ [x], rest, by simp, rfl, .inr ⟨ne, γ + 1 + 1, ⟨rfl, rfl, by simp, by simp [e2, e3, endsG, hp, enE, k64]⟩⟩⟩⟩
      · refine a_has hs fun τ σ γ => ?_
        repeat' (first | (with_reducible refine a_seq_k ?_; intro K hK) | (with_reducible first | refine a_block ?_ | refine a_ret ?_ | refine a_exit ?_ | refine a_skip ?_ | exact ConfOk.mk (by kernel_rfl)) | ((fail_if_success with_reducible show False); with_reducible apply_assumption (exfalso := false) (symm := false) only [*, rfl, trivial, congrArg]) | with_reducible refine And.intro ?_ ?_ | (intro h; contradiction) | (intro h; subst h) | intro h | ((try (with_reducible first | refine a_region (by kernel_rfl) ?_ | (refine a_draw mixed (by kernel_rfl) ?_; intro C hC) | (refine a_cond_k ?_; intro X Y hX hY) | refine RetOk.mk ?_ | refine CallS.intro (q1) ?_ | refine CallD.intro (q1) ?_ | refine CallS.intro (q2) ?_ | refine CallD.intro (q2) ?_)); simp (maxSteps := 10000000) (implicitDefEqProofs := false) only [go_sem, k64, hw, Dom.enc, List.length_map, List.map_append, x0, h2, h3, all2i]))
        try any_goals omega
        all_goals exact ⟨⟨rest.length, by simp, g1, pre ++ [x], rest, by simp, rfl, .inr ⟨ne, γ + 1 + 1, ⟨rfl, rfl, by simp, by simp [e2, e3, endsG, enE, k64]⟩⟩⟩⟩
    · have e2 : (pre ++ [x]).filter fx = pre.filter fx := by simp [List.filter_append, List.filter_cons, hx]
      have hx3 := hx
      rw [hfx] at hx3
      simp only [exs, Bool.and_eq_true, decide_eq_true_eq] at hx3
      clear hgv hg0 hx2 hmem2
      rcases hst with ⟨hp, hs⟩ | ⟨hp, g, hs⟩
      · refine a_has hs fun τ σ γ => ?_
        repeat' (first | (with_reducible refine a_seq_k ?_; intro K hK) | (with_reducible first | refine a_block ?_ | refine a_ret ?_ | refine a_exit ?_ | refine a_skip ?_ | exact ConfOk.mk (by kernel_rfl)) | ((fail_if_success with_reducible show False); with_reducible apply_assumption (exfalso := false) (symm := false) only [*, rfl, trivial, congrArg]) | with_reducible refine And.intro ?_ ?_ | (intro h; contradiction) | (intro h; subst h) | intro h | ((try (with_reducible first | refine a_region (by kernel_rfl) ?_ | (refine a_draw mixed (by kernel_rfl) ?_; intro C hC) | (refine a_cond_k ?_; intro X Y hX hY) | refine RetOk.mk ?_)); simp (maxSteps := 10000000) (implicitDefEqProofs := false) only [go_sem, k64, hw, Dom.enc, List.length_map, List.map_append]))
        all_goals first
          | (exfalso; apply hx3; simp [*]; done)
          | (exfalso; omega)
          | exact ⟨⟨rest.length, by simp, g1, pre ++ [x], rest, by simp, rfl, .inl ⟨by rw [e2, hp], ⟨rfl, rfl, by simp, by simp [k64]⟩⟩⟩⟩
          | exact ⟨⟨rest.length, by simp, g1, pre ++ [0], rest, by simp, rfl, .inl ⟨by rw [e2, hp], ⟨rfl, rfl, by simp, by simp [k64]⟩⟩⟩⟩
      · refine a_has hs fun τ σ γ => ?_
        repeat' (first | (with_reducible refine a_seq_k ?_; intro K hK) | (with_reducible first | refine a_block ?_ | refine a_ret ?_ | refine a_exit ?_ | refine a_skip ?_ | exact ConfOk.mk (by kernel_rfl)) | ((fail_if_success with_reducible show False); with_reducible apply_assumption (exfalso := false) (symm := false) only [*, rfl, trivial, congrArg]) | with_reducible refine And.intro ?_ ?_ | (intro h; contradiction) | (intro h; subst h) | intro h | ((try (with_reducible first | refine a_region (by kernel_rfl) ?_ | (refine a_draw mixed (by kernel_rfl) ?_; intro C hC) | (refine a_cond_k ?_; intro X Y hX hY) | refine RetOk.mk ?_)); simp (maxSteps := 10000000) (implicitDefEqProofs := false) only [go_sem, k64, hw, Dom.enc, List.length_map, List.map_append]))
        all_goals first
          | (exfalso; apply hx3; simp [*]; done)
          | (exfalso; omega)
          | exact ⟨⟨rest.length, by simp, g1, pre ++ [x], rest, by simp, rfl, .inr ⟨by rw [e2]; exact hp, g, ⟨rfl, rfl, by simp, by simp [k64, e2]⟩⟩⟩⟩
          | exact ⟨⟨rest.length, by simp, g1, pre ++ [0], rest, by simp, rfl, .inr ⟨by rw [e2]; exact hp, g, ⟨rfl, rfl, by simp, by simp [k64, e2]⟩⟩⟩⟩
end Go.Proofs.YtoggbjfjmbjegaaGreatDoor
