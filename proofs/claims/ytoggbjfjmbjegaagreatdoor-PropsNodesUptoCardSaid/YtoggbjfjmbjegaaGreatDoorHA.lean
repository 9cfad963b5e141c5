/- Domains in the document: the small functions of jointerref12. Chains in the document: jointerref12.And, or. -/
import Derived.Test.YtoggbjfjmbjegaaGreatDoorFD
set_option linter.unusedSimpArgs false
set_option linter.unusedVariables false
set_option linter.unusedSimpArgs false
set_option linter.unusedVariables false
namespace Go.Proofs.YtoggbjfjmbjegaaGreatDoor
open Go Go.Ab
-- @enc(Dom.enc, kd, dZ)@
attribute [local go_sem ↓] parts_tt parts_ff parts_tf parts_ft reduceIte
attribute [local go_sem] reduceCtorEq Nat.reduceAdd Nat.reduceSub Nat.reduceLeDiff Nat.reduceEqDiff Nat.reduceMul Nat.reduceLT Nat.reducePow Int.reduceEq Int.reduceLT Int.reduceLE Int.reduceGT Int.reduceGE Int.reduceAdd Int.reduceSub Int.reduceNeg Int.reduceToNat parts_eq learnT aops_nil aops_cons aopsD_nil aopsD_cons stepS stepD gval St.learn skipR St.after putτ applyUpd List.foldl_cons List.foldl_nil pureOp memOp callOf litA closeO closeK List.flatMap_cons List.flatMap_nil Option.map_none decide_false opnd ofConst leaf binA unA lenA indexA indexAddrA fieldAddrA fieldA weak_slice weak_nils weak_str weak_view weak_viewF weak_sliceF weak_ptr weak_cptr weak_rptr weak_sl weak_sl0 weak_any sliceFA_slice sliceFA_str sliceFA_view sliceFA_none sliceFA_some sameO sliceA convertA pickV fillA placeS cellsA setA partA loadM storeM appendM srcEls lookBox lookRow lookMap closeL closeV scalarB scalarL killed buildEls lookupA leafEq eqAll resA resL tupA retA thenA blockA isInt loA hiA foldA maxA minA okSize leafB closedB Res.foot List.getD_cons_zero List.getD_cons_succ List.set_cons_zero List.set_cons_succ List.map_cons List.map_nil List.append_nil List.nil_append List.cons_append List.length_cons List.length_nil List.take_succ_cons List.take_zero List.drop_succ_cons List.drop_zero List.take_nil List.drop_nil List.all_cons List.all_nil List.getElem?_toArray List.getElem?_cons_zero List.getElem?_cons_succ Option.bind_some Option.map_some true_and and_true true_implies ne_eq not_true_eq_false not_false_eq_true Bool.true_eq_false Bool.false_eq_true Bool.not_true Bool.not_false decide_eq_true_eq decide_eq_false_iff_not false_implies implies_true and_self ite_true ite_false cond_true cond_false Option.some.injEq List.reverse_cons List.reverse_nil Bool.and_self Bool.true_and Bool.and_true Bool.false_and Bool.and_false Bool.or_true Bool.true_or Bool.or_false Bool.false_or Bool.not_eq_eq_eq_not Bool.not_not Bool.or_self beq_self_eq_true and_false false_and or_true true_or or_false false_or not_true not_false_iff Decidable.not_not lookT lookR tabT tabR Int.toNat_natCast List.length_map List.map_append List.length_append decide_true decide_false tmod2 List.mem_singleton forall_eq elOk1 elOk3 elOk4 castn0 castn1 castn2 castn3 getD_mid getD_mid_map at_lt at_end mid_lt mid_lt' nat_ge List.size_toArray Array.size_empty Nat.add_zero Nat.zero_add
attribute [local irreducible] ASpec ACalls retA ti EqT
set_option linter.unusedSimpArgs false
set_option maxHeartbeats 4000000
set_option maxRecDepth 100000
set_option linter.unusedVariables false
attribute [local go_sem] ti2 ti3 ti4 ti5 ti9 ti21 ti22 ti23 ti24 ti26 ti27 ti28 ti30 ti33 ti34 ti37 ti41 ti42 ti46 ti52 ti56 ti68 ti69 ti73 ti78 ti86 ti89 ti99 ti117 ti122 ti123 ti124 ti144 ti166 ti173 ti174 ti190 ti191 ti199 ti245 ti247 ti257 ti271 ti288 ti290 ti343
theorem ref_Empty (d : Dom) : ACalls Tryz.prog 62 [dA d] (.bool (emptyD d)) := by
  obtain ⟨k, n, f, s, lo, hi⟩ := d
  refine acalls_k Tryz.func62 rfl (by kernel_rfl) (congrArg Array.toList Tryz.results62) Tryz.ntmps62 ?_
  intro R hR
  simp only [st0, List.length_cons, List.length_nil, Nat.reduceAdd, Nat.reduceSub, List.replicate_succ, List.replicate_zero, List.cons_append, List.nil_append]
  repeat' (first | (with_reducible refine a_seq_k ?_; intro K hK) | (with_reducible first | refine a_block ?_ | refine a_ret ?_ | refine a_exit ?_ | refine a_skip ?_ | exact ConfOk.mk (by kernel_rfl)) | ((fail_if_success with_reducible show False); with_reducible apply_assumption (exfalso := false) (symm := false) only [*, rfl, trivial, congrArg]) | with_reducible refine And.intro ?_ ?_ | (intro h; contradiction) | (intro h; subst h) | intro h | ((try (with_reducible first | refine a_region (by kernel_rfl) ?_ | (refine a_draw mixed (by kernel_rfl) ?_; intro C hC) | (refine a_cond_k ?_; intro X Y hX hY) | refine RetOk.mk ?_)); simp (maxSteps := 10000000) (implicitDefEqProofs := false) only [go_sem, Dom.enc]))
  all_goals simp [emptyD, *]
theorem ref_May (d : Dom) : ACalls Tryz.prog 133 [dA d] (.bool (mayD d)) := by
  obtain ⟨k, n, f, s, lo, hi⟩ := d
  refine acalls_k Tryz.func133 rfl (by kernel_rfl) (congrArg Array.toList Tryz.results133) Tryz.ntmps133 ?_
  intro R hR
  simp only [st0, List.length_cons, List.length_nil, Nat.reduceAdd, Nat.reduceSub, List.replicate_succ, List.replicate_zero, List.cons_append, List.nil_append]
  repeat' (first | (with_reducible refine a_seq_k ?_; intro K hK) | (with_reducible first | refine a_block ?_ | refine a_ret ?_ | refine a_exit ?_ | refine a_skip ?_ | exact ConfOk.mk (by kernel_rfl)) | ((fail_if_success with_reducible show False); with_reducible apply_assumption (exfalso := false) (symm := false) only [*, rfl, trivial, congrArg]) | with_reducible refine And.intro ?_ ?_ | (intro h; contradiction) | (intro h; subst h) | intro h | ((try (with_reducible first | refine a_region (by kernel_rfl) ?_ | (refine a_draw mixed (by kernel_rfl) ?_; intro C hC) | (refine a_cond_k ?_; intro X Y hX hY) | refine RetOk.mk ?_)); simp (maxSteps := 10000000) (implicitDefEqProofs := false) only [go_sem, Dom.enc]))
  all_goals simp [mayD, *]
theorem ref_mayNot (d : Dom) : ACalls Tryz.prog 132 [dA d] (.bool (mayNotD d)) := by
  obtain ⟨k, n, f, s, lo, hi⟩ := d
  refine acalls_k Tryz.func132 rfl (by kernel_rfl) (congrArg Array.toList Tryz.results132) Tryz.ntmps132 ?_
  intro R hR
  simp only [st0, List.length_cons, List.length_nil, Nat.reduceAdd, Nat.reduceSub, List.replicate_succ, List.replicate_zero, List.cons_append, List.nil_append]
  repeat' (first | (with_reducible refine a_seq_k ?_; intro K hK) | (with_reducible first | refine a_block ?_ | refine a_ret ?_ | refine a_exit ?_ | refine a_skip ?_ | exact ConfOk.mk (by kernel_rfl)) | ((fail_if_success with_reducible show False); with_reducible apply_assumption (exfalso := false) (symm := false) only [*, rfl, trivial, congrArg]) | with_reducible refine And.intro ?_ ?_ | (intro h; contradiction) | (intro h; subst h) | intro h | ((try (with_reducible first | refine a_region (by kernel_rfl) ?_ | (refine a_draw mixed (by kernel_rfl) ?_; intro C hC) | (refine a_cond_k ?_; intro X Y hX hY) | refine RetOk.mk ?_)); simp (maxSteps := 10000000) (implicitDefEqProofs := false) only [go_sem, Dom.enc]))
  all_goals simp [mayNotD, *]
theorem ref_maySome (d : Dom) : ACalls Tryz.prog 63 [dA d] (.bool (d.null || d.some)) := by
  obtain ⟨k, n, f, s, lo, hi⟩ := d
  refine acalls_k Tryz.func63 rfl (by kernel_rfl) (congrArg Array.toList Tryz.results63) Tryz.ntmps63 ?_
  intro R hR
  simp only [st0, List.length_cons, List.length_nil, Nat.reduceAdd, Nat.reduceSub, List.replicate_succ, List.replicate_zero, List.cons_append, List.nil_append]
  repeat' (first | (with_reducible refine a_seq_k ?_; intro K hK) | (with_reducible first | refine a_block ?_ | refine a_ret ?_ | refine a_exit ?_ | refine a_skip ?_ | exact ConfOk.mk (by kernel_rfl)) | ((fail_if_success with_reducible show False); with_reducible apply_assumption (exfalso := false) (symm := false) only [*, rfl, trivial, congrArg]) | with_reducible refine And.intro ?_ ?_ | (intro h; contradiction) | (intro h; subst h) | intro h | ((try (with_reducible first | refine a_region (by kernel_rfl) ?_ | (refine a_draw mixed (by kernel_rfl) ?_; intro C hC) | (refine a_cond_k ?_; intro X Y hX hY) | refine RetOk.mk ?_)); simp (maxSteps := 10000000) (implicitDefEqProofs := false) only [go_sem, Dom.enc]))
  all_goals simp [*]
theorem ref_truth (d : Dom) (y n : Bool) : ACalls Tryz.prog 55 [dA d, .bool y, .bool n] (dA (truthD d y n)) := by
  obtain ⟨k, n', f, s, lo, hi⟩ := d
  cases y <;> cases n
  all_goals
    refine acalls_k Tryz.func55 rfl (by kernel_rfl) (congrArg Array.toList Tryz.results55) Tryz.ntmps55 ?_
    intro R hR
    simp only [st0, List.length_cons, List.length_nil, Nat.reduceAdd, Nat.reduceSub, List.replicate_succ, List.replicate_zero, List.cons_append, List.nil_append]
    repeat' (first | (with_reducible refine a_seq_k ?_; intro K hK) | (with_reducible first | refine a_block ?_ | refine a_ret ?_ | refine a_exit ?_ | refine a_skip ?_ | exact ConfOk.mk (by kernel_rfl)) | ((fail_if_success with_reducible show False); with_reducible apply_assumption (exfalso := false) (symm := false) only [*, rfl, trivial, congrArg]) | with_reducible refine And.intro ?_ ?_ | (intro h; contradiction) | (intro h; subst h) | intro h | ((try (with_reducible first | refine a_region (by kernel_rfl) ?_ | (refine a_draw mixed (by kernel_rfl) ?_; intro C hC) | (refine a_cond_k ?_; intro X Y hX hY) | refine RetOk.mk ?_)); simp (maxSteps := 10000000) (implicitDefEqProofs := false) only [go_sem, Dom.enc, truthD]))
theorem ref_Common8 (a b : Int) : ACalls Tryz.prog 224 [.int .u8 a, .int .u8 b] (.int .u8 (if a = 0 then b else a)) := by
  by_cases h : a = 0
  · rw [if_pos h]
    refine acalls_k Tryz.func224 rfl (by kernel_rfl) (congrArg Array.toList Tryz.results224) Tryz.ntmps224 ?_
    intro R hR
    simp only [st0, List.length_cons, List.length_nil, Nat.reduceAdd, Nat.reduceSub, List.replicate_succ, List.replicate_zero, List.cons_append, List.nil_append]
    repeat' (first | (with_reducible refine a_seq_k ?_; intro K hK) | (with_reducible first | refine a_block ?_ | refine a_ret ?_ | refine a_exit ?_ | refine a_skip ?_ | exact ConfOk.mk (by kernel_rfl)) | ((fail_if_success with_reducible show False); with_reducible apply_assumption (exfalso := false) (symm := false) only [*, rfl, trivial, congrArg]) | with_reducible refine And.intro ?_ ?_ | (intro h; contradiction) | (intro h; subst h) | intro h | ((try (with_reducible first | refine a_region (by kernel_rfl) ?_ | (refine a_draw mixed (by kernel_rfl) ?_; intro C hC) | (refine a_cond_k ?_; intro X Y hX hY) | refine RetOk.mk ?_)); simp (maxSteps := 10000000) (implicitDefEqProofs := false) only [go_sem, h]))
  · rw [if_neg h]
    refine acalls_k Tryz.func224 rfl (by kernel_rfl) (congrArg Array.toList Tryz.results224) Tryz.ntmps224 ?_
    intro R hR
    simp only [st0, List.length_cons, List.length_nil, Nat.reduceAdd, Nat.reduceSub, List.replicate_succ, List.replicate_zero, List.cons_append, List.nil_append]
    repeat' (first | (with_reducible refine a_seq_k ?_; intro K hK) | (with_reducible first | refine a_block ?_ | refine a_ret ?_ | refine a_exit ?_ | refine a_skip ?_ | exact ConfOk.mk (by kernel_rfl)) | ((fail_if_success with_reducible show False); with_reducible apply_assumption (exfalso := false) (symm := false) only [*, rfl, trivial, congrArg]) | with_reducible refine And.intro ?_ ?_ | (intro h; contradiction) | (intro h; subst h) | intro h | ((try (with_reducible first | refine a_region (by kernel_rfl) ?_ | (refine a_draw mixed (by kernel_rfl) ?_; intro C hC) | (refine a_cond_k ?_; intro X Y hX hY) | refine RetOk.mk ?_)); simp (maxSteps := 10000000) (implicitDefEqProofs := false) only [go_sem, h]))
theorem ref_Union (c d : Dom) : ACalls Tryz.prog 135 [dA c, dA d] (dA (unionD c d)) := by
  have hc := ref_Common8 c.kind d.kind
  obtain ⟨k, n, f, s, lo, hi⟩ := c
  obtain ⟨k', n', f', s', lo', hi'⟩ := d
  simp only at hc
  cases s <;> cases s'
  all_goals
    refine acalls_k Tryz.func135 rfl (by kernel_rfl) (congrArg Array.toList Tryz.results135) Tryz.ntmps135 ?_
    intro R hR
    simp only [st0, List.length_cons, List.length_nil, Nat.reduceAdd, Nat.reduceSub, List.replicate_succ, List.replicate_zero, List.cons_append, List.nil_append]
    repeat' (first | (with_reducible refine a_seq_k ?_; intro K hK) | (with_reducible first | refine a_block ?_ | refine a_ret ?_ | refine a_exit ?_ | refine a_skip ?_ | exact ConfOk.mk (by kernel_rfl)) | ((fail_if_success with_reducible show False); with_reducible apply_assumption (exfalso := false) (symm := false) only [*, rfl, trivial, congrArg]) | with_reducible refine And.intro ?_ ?_ | (intro h; contradiction) | (intro h; subst h) | intro h | ((try (with_reducible first | refine a_region (by kernel_rfl) ?_ | (refine a_draw mixed (by kernel_rfl) ?_; intro C hC) | (refine a_cond_k ?_; intro X Y hX hY) | refine RetOk.mk ?_ | refine CallS.intro (hc) ?_ | refine CallD.intro (hc) ?_)); simp (maxSteps := 10000000) (implicitDefEqProofs := false) only [go_sem, Dom.enc]))
    all_goals simp [unionD, *]
theorem ref_turned (d : Dom) : ACalls Tryz.prog 134 [dA d] (dA (turnD d)) := by
  have h1 := ref_mayNot d
  have h2 := ref_May d
  have h3 := ref_truth d (mayNotD d) (mayD d)
  unfold turnD
  generalize mayNotD d = y at *
  generalize mayD d = z at *
  obtain ⟨k, n, f, s, lo, hi⟩ := d
  simp only [dA, Dom.enc] at h1 h2 h3
  by_cases hs : s = false ∨ k ≠ 3
  · rw [if_pos hs]
    refine acalls_k Tryz.func134 rfl (by kernel_rfl) (congrArg Array.toList Tryz.results134) Tryz.ntmps134 ?_
    intro R hR
    simp only [st0, List.length_cons, List.length_nil, Nat.reduceAdd, Nat.reduceSub, List.replicate_succ, List.replicate_zero, List.cons_append, List.nil_append]
    repeat' (first | (with_reducible refine a_seq_k ?_; intro K hK) | (with_reducible first | refine a_block ?_ | refine a_ret ?_ | refine a_exit ?_ | refine a_skip ?_ | exact ConfOk.mk (by kernel_rfl)) | ((fail_if_success with_reducible show False); with_reducible apply_assumption (exfalso := false) (symm := false) only [*, rfl, trivial, congrArg]) | with_reducible refine And.intro ?_ ?_ | (intro h; contradiction) | (intro h; subst h) | intro h | ((try (with_reducible first | refine a_region (by kernel_rfl) ?_ | (refine a_draw mixed (by kernel_rfl) ?_; intro C hC) | (refine a_cond_k ?_; intro X Y hX hY) | refine RetOk.mk ?_ | refine CallS.intro (h1) ?_ | refine CallD.intro (h1) ?_ | refine CallS.intro (h2) ?_ | refine CallD.intro (h2) ?_ | refine CallS.intro (h3) ?_ | refine CallD.intro (h3) ?_)); simp (maxSteps := 10000000) (implicitDefEqProofs := false) only [go_sem, Dom.enc]))
    all_goals (exfalso; clear hR; rcases hs with hs | hs <;> first | exact hs | exact hs rfl | contradiction | (subst hs; contradiction) | simp_all)
  · rw [if_neg hs]
    simp only [not_or, Bool.not_eq_false, ne_eq, Decidable.not_not] at hs
    obtain ⟨rfl, rfl⟩ := hs
    refine acalls_k Tryz.func134 rfl (by kernel_rfl) (congrArg Array.toList Tryz.results134) Tryz.ntmps134 ?_
    intro R hR
    simp only [st0, List.length_cons, List.length_nil, Nat.reduceAdd, Nat.reduceSub, List.replicate_succ, List.replicate_zero, List.cons_append, List.nil_append]
    repeat' (first | (with_reducible refine a_seq_k ?_; intro K hK) | (with_reducible first | refine a_block ?_ | refine a_ret ?_ | refine a_exit ?_ | refine a_skip ?_ | exact ConfOk.mk (by kernel_rfl)) | ((fail_if_success with_reducible show False); with_reducible apply_assumption (exfalso := false) (symm := false) only [*, rfl, trivial, congrArg]) | with_reducible refine And.intro ?_ ?_ | (intro h; contradiction) | (intro h; subst h) | intro h | ((try (with_reducible first | refine a_region (by kernel_rfl) ?_ | (refine a_draw mixed (by kernel_rfl) ?_; intro C hC) | (refine a_cond_k ?_; intro X Y hX hY) | refine RetOk.mk ?_ | refine CallS.intro (h1) ?_ | refine CallD.intro (h1) ?_ | refine CallS.intro (h2) ?_ | refine CallD.intro (h2) ?_ | refine CallS.intro (h3) ?_ | refine CallD.intro (h3) ?_)); simp (maxSteps := 10000000) (implicitDefEqProofs := false) only [go_sem, Dom.enc]))
-- @enc(Dom.enc, kd, dZ)@
@[reducible] def nfm (k : Dom) : Bool := k.null || (k.fail || mayD k)
@[reducible] def fm (k : Dom) : Bool := k.fail || mayD k
theorem ref_And (kids : List Dom) (hl : kids.length < 2 ^ 40) : ACalls Tryz.prog 65 [doms kids] (dA (andD kids)) := by
  obtain ⟨res, hres⟩ : ∃ r, r = andD kids := ⟨_, rfl⟩
  rw [← hres]
  unfold andD at hres
  refine acalls_k Tryz.func65 rfl (by kernel_rfl) (congrArg Array.toList Tryz.results65) Tryz.ntmps65 ?_
  intro R hR
  simp only [st0, List.length_cons, List.length_nil, Nat.reduceAdd, Nat.reduceSub, List.replicate_succ, List.replicate_zero, List.cons_append, List.nil_append]
  repeat' (first | (with_reducible refine a_seq_k ?_; intro K hK) | (with_reducible first | refine a_block ?_ | refine a_ret ?_ | refine a_exit ?_ | refine a_skip ?_ | exact ConfOk.mk (by kernel_rfl)) | ((fail_if_success with_reducible show False); with_reducible apply_assumption (exfalso := false) (symm := false) only [*, rfl, trivial, congrArg]) | with_reducible refine And.intro ?_ ?_ | (intro h; contradiction) | (intro h; subst h) | intro h | ((try (with_reducible first | refine a_region (by kernel_rfl) ?_ | (refine a_draw mixed (by kernel_rfl) ?_; intro C hC) | (refine a_cond_k ?_; intro X Y hX hY) | refine RetOk.mk ?_)); simp (maxSteps := 10000000) (implicitDefEqProofs := false) only [go_sem, Dom.enc]))
  refine a_loop_k (fun n st => ∃ (g : Nat) (pre rest : List _) (u : Unit), kids = pre ++ rest ∧ n = rest.length ∧ (pre.any emptyD = false) ∧ Has st 88 [(0, .slice (kids.map Dom.enc)), (2, .ptr 2 0 0), (3, .int .i64 pre.length)] [(2, .box 0 dZ)]) (kids).length ⟨0, [], kids, (), rfl, rfl, rfl, ⟨rfl, rfl, by simp [Dom.enc, kd, dZ], by simp [Dom.enc, kd, dZ]⟩⟩ ?_
  rintro n st ⟨g, pre, rest, u, he, rfl, hp, hs⟩ K hK
  have hw := wrap_nat pre.length (by have := congrArg List.length he; simp at this; omega)
  subst he
  refine a_has hs fun τ σ γ => ?_
  rcases rest with _ | ⟨x, rest⟩
  · simp only [List.append_nil] at *
    rw [if_neg (by simp [hp])] at hres
    repeat' (first | (with_reducible refine a_seq_k ?_; intro K hK) | (with_reducible first | refine a_block ?_ | refine a_ret ?_ | refine a_exit ?_ | refine a_skip ?_ | exact ConfOk.mk (by kernel_rfl)) | ((fail_if_success with_reducible show False); with_reducible apply_assumption (exfalso := false) (symm := false) only [*, rfl, trivial, congrArg]) | with_reducible refine And.intro ?_ ?_ | (intro h; contradiction) | (intro h; subst h) | intro h | ((try (with_reducible first | refine a_region (by kernel_rfl) ?_ | (refine a_draw mixed (by kernel_rfl) ?_; intro C hC) | (refine a_cond_k ?_; intro X Y hX hY) | refine RetOk.mk ?_)); simp (maxSteps := 10000000) (implicitDefEqProofs := false) only [go_sem, Dom.enc]))
    refine a_loop_k (fun n st => ∃ (g : Nat) (pre2 rest2 : List _) (u : Unit), pre = pre2 ++ rest2 ∧ n = rest2.length ∧ (True) ∧ Has st 88 [(0, .slice (pre.map Dom.enc)), (2, .ptr 2 0 0), (4, .bool (pre2.any mayNotD)), (5, .bool (pre2.any (·.null))), (6, .bool (pre2.any (·.fail))), (7, .bool (pre2.all nfm)), (8, .bool (pre2.all fm)), (9, .bool (pre2.all mayD)), (10, .int .i64 pre2.length)] [(2, .box 0 dZ)]) (pre).length ⟨0, [], pre, (), rfl, rfl, trivial, ⟨rfl, rfl, by simp [Dom.enc, kd, dZ], by simp [Dom.enc, kd, dZ]⟩⟩ ?_
    rintro n st ⟨g, pre2, rest2, u, he, rfl, hp2, hs2⟩ K2 hK2
    have hw2 := wrap_nat pre2.length (by have := congrArg List.length he; simp at this; omega)
    subst he
    refine a_has hs2 fun τ σ γ => ?_
    rcases rest2 with _ | ⟨x2, rest2⟩
    · simp only [List.append_nil] at *
      have ht := ref_truth ⟨0, (pre2.any (·.null)) && pre2.all nfm, (pre2.any (·.fail)) && pre2.all fm, false, 0, 0⟩ (pre2.all mayD) (pre2.any mayNotD)
      have er : res = truthD ⟨0, (pre2.any (·.null)) && pre2.all nfm, (pre2.any (·.fail)) && pre2.all fm, false, 0, 0⟩ (pre2.all mayD) (pre2.any mayNotD) := by rw [hres]; rfl
      clear hres
      rw [← er] at ht
      simp only [dA, Dom.enc] at ht
      generalize (pre2.any mayNotD) = s0 at *
      generalize (pre2.any (·.null)) = s1 at *
      generalize (pre2.any (·.fail)) = s2 at *
      generalize (pre2.all nfm) = e1 at *
      generalize (pre2.all fm) = e2 at *
      generalize (pre2.all mayD) = e3 at *
      cases s1 <;> cases s2
      all_goals
        simp only [Bool.false_and, Bool.true_and] at ht
        repeat' (first | (with_reducible refine a_seq_k ?_; intro K hK) | (with_reducible first | refine a_block ?_ | refine a_ret ?_ | refine a_exit ?_ | refine a_skip ?_ | exact ConfOk.mk (by kernel_rfl)) | ((fail_if_success with_reducible show False); with_reducible apply_assumption (exfalso := false) (symm := false) only [*, rfl, trivial, congrArg]) | with_reducible refine And.intro ?_ ?_ | (intro h; contradiction) | (intro h; subst h) | intro h | ((try (with_reducible first | refine a_region (by kernel_rfl) ?_ | (refine a_draw mixed (by kernel_rfl) ?_; intro C hC) | (refine a_cond_k ?_; intro X Y hX hY) | refine RetOk.mk ?_ | refine CallS.intro (ht) ?_ | refine CallD.intro (ht) ?_)); simp (maxSteps := 10000000) (implicitDefEqProofs := false) only [go_sem, Dom.enc]))
    · have m1 := ref_mayNot x2
      have m2 := ref_May x2
      obtain ⟨c0, hc0⟩ : ∃ b, b = mayNotD x2 := ⟨_, rfl⟩
      obtain ⟨c3, hc3⟩ : ∃ b, b = mayD x2 := ⟨_, rfl⟩
      obtain ⟨c1, hc1⟩ : ∃ b, b = x2.null := ⟨_, rfl⟩
      obtain ⟨c2, hc2⟩ : ∃ b, b = x2.fail := ⟨_, rfl⟩
      obtain ⟨xe, hxe⟩ : ∃ b, b = [AV.int .u8 x2.kind, .bool c1, .bool c2, .bool x2.some, .int .i64 x2.lo, .int .i64 x2.hi] := ⟨_, rfl⟩
      have hx : x2.enc = xe := by rw [hxe, hc1, hc2]; rfl
      rw [← hc0] at m1
      rw [← hc3] at m2
      simp only [dA, hx] at m1 m2
      rw [hxe] at m1 m2
      obtain ⟨L, hL⟩ : ∃ L, L = List.map Dom.enc (pre2 ++ x2 :: rest2) := ⟨_, rfl⟩
      have hL2 : L = pre2.map Dom.enc ++ xe :: rest2.map Dom.enc := by rw [hL, List.map_append, List.map_cons, hx]
      obtain ⟨s0, hs0⟩ : ∃ b, b = (pre2.any mayNotD) := ⟨_, rfl⟩
      obtain ⟨s1, hs1⟩ : ∃ b, b = (pre2.any (·.null)) := ⟨_, rfl⟩
      obtain ⟨s2, hs2⟩ : ∃ b, b = (pre2.any (·.fail)) := ⟨_, rfl⟩
      obtain ⟨e1, he1⟩ : ∃ b, b = (pre2.all nfm) := ⟨_, rfl⟩
      obtain ⟨e2, he2⟩ : ∃ b, b = (pre2.all fm) := ⟨_, rfl⟩
      obtain ⟨e3, he3⟩ : ∃ b, b = (pre2.all mayD) := ⟨_, rfl⟩
      rw [← hL, ← hs0, ← hs1, ← hs2, ← he1, ← he2, ← he3]
      refine a_cut (fun st => (True) ∧ Has st 88 [(0, .slice (L)), (2, .ptr 2 0 0), (4, .bool s0), (5, .bool s1), (6, .bool s2), (7, .bool e1), (8, .bool e2), (9, .bool e3), (10, .int .i64 pre2.length)] [(2, .box 0 dZ)]) (fun K hK => ?_) ?_
      · subst hL2
        repeat' (first | (with_reducible refine a_seq_k ?_; intro K hK) | (with_reducible first | refine a_block ?_ | refine a_ret ?_ | refine a_exit ?_ | refine a_skip ?_ | exact ConfOk.mk (by kernel_rfl)) | ((fail_if_success with_reducible show False); with_reducible apply_assumption (exfalso := false) (symm := false) only [*, rfl, trivial, congrArg]) | with_reducible refine And.intro ?_ ?_ | (intro h; contradiction) | (intro h; subst h) | intro h | ((try (with_reducible first | refine a_region (by kernel_rfl) ?_ | (refine a_draw mixed (by kernel_rfl) ?_; intro C hC) | (refine a_cond_k ?_; intro X Y hX hY) | refine RetOk.mk ?_)); simp (maxSteps := 10000000) (implicitDefEqProofs := false) only [go_sem, hxe, hw2]))
        exact ⟨⟨rfl, rfl, by simp, by simp⟩⟩
      rintro st ⟨hm, hs⟩
      refine a_has hs fun τ σ γ => ?_
      refine a_cut (fun st => (True) ∧ Has st 88 [(0, .slice (L)), (2, .ptr 2 0 0), (4, .bool (Bool.or s0 c0)), (5, .bool (Bool.or s1 c1)), (6, .bool (Bool.or s2 c2)), (7, .bool (e1 && (Bool.or c1 (Bool.or c2 c3)))), (8, .bool (e2 && (Bool.or c2 c3))), (9, .bool (e3 && c3)), (10, .int .i64 pre2.length)] [(2, .box 0 dZ)]) (fun K hK => ?_) ?_
      rotate_left
      · rintro st ⟨hm, hs⟩
        refine a_has hs fun τ σ γ => ?_
        rw [hL] at *
        repeat' (first | (with_reducible refine a_seq_k ?_; intro K hK) | (with_reducible first | refine a_block ?_ | refine a_ret ?_ | refine a_exit ?_ | refine a_skip ?_ | exact ConfOk.mk (by kernel_rfl)) | ((fail_if_success with_reducible show False); with_reducible apply_assumption (exfalso := false) (symm := false) only [*, rfl, trivial, congrArg]) | with_reducible refine And.intro ?_ ?_ | (intro h; contradiction) | (intro h; subst h) | intro h | ((try (with_reducible first | refine a_region (by kernel_rfl) ?_ | (refine a_draw mixed (by kernel_rfl) ?_; intro C hC) | (refine a_cond_k ?_; intro X Y hX hY) | refine RetOk.mk ?_)); simp (maxSteps := 10000000) (implicitDefEqProofs := false) only [go_sem, hw2]))
        exact ⟨⟨rest2.length, by simp, 0, pre2 ++ [x2], rest2, (), by simp, rfl, ⟨rfl, rfl, by simp [nfm, fm, *], by simp [*]⟩⟩⟩
      refine a_block ?_
      refine a_cut (fun st => ∃ g : Nat, (True) ∧ Has st 88 [(0, .slice (L)), (2, .ptr 2 0 0), (4, .bool s0), (5, .bool s1), (6, .bool s2), (7, .bool e1), (8, .bool e2), (9, .bool e3), (10, .int .i64 pre2.length), (11, .ptr 11 g 0)] [(2, .box 0 dZ), (11, .box g xe)]) (fun K hK => ?_) ?_
      · subst hL2
        repeat' (first | (with_reducible refine a_seq_k ?_; intro K hK) | (with_reducible first | refine a_block ?_ | refine a_ret ?_ | refine a_exit ?_ | refine a_skip ?_ | exact ConfOk.mk (by kernel_rfl)) | ((fail_if_success with_reducible show False); with_reducible apply_assumption (exfalso := false) (symm := false) only [*, rfl, trivial, congrArg]) | with_reducible refine And.intro ?_ ?_ | (intro h; contradiction) | (intro h; subst h) | intro h | ((try (with_reducible first | refine a_region (by kernel_rfl) ?_ | (refine a_draw mixed (by kernel_rfl) ?_; intro C hC) | (refine a_cond_k ?_; intro X Y hX hY) | refine RetOk.mk ?_)); simp (maxSteps := 10000000) (implicitDefEqProofs := false) only [go_sem, hxe]))
        exact ⟨⟨γ, ⟨rfl, rfl, by simp [*], by simp [*]⟩⟩⟩
      clear hc0 hc1 hc2 hc3 hs0 hs1 hs2 he1 he2 he3 hx hL hL2
      rintro st ⟨g, hm, hs⟩
      refine a_has hs fun τ σ γ => ?_
      refine a_cut (fun st => (True) ∧ Has st 88 [(0, .slice (L)), (2, .ptr 2 0 0), (4, .bool (Bool.or s0 c0)), (5, .bool s1), (6, .bool s2), (7, .bool e1), (8, .bool e2), (9, .bool e3), (10, .int .i64 pre2.length), (11, .ptr 11 g 0)] [(2, .box 0 dZ), (11, .box g xe)]) (fun K hK => ?_) ?_
      · repeat' (first | (with_reducible refine a_seq_k ?_; intro K hK) | (with_reducible first | refine a_block ?_ | refine a_ret ?_ | refine a_exit ?_ | refine a_skip ?_ | exact ConfOk.mk (by kernel_rfl)) | ((fail_if_success with_reducible show False); with_reducible apply_assumption (exfalso := false) (symm := false) only [*, rfl, trivial, congrArg]) | with_reducible refine And.intro ?_ ?_ | (intro h; contradiction) | (intro h; subst h) | intro h | ((try (with_reducible first | refine a_region (by kernel_rfl) ?_ | (refine a_draw mixed (by kernel_rfl) ?_; intro C hC) | (refine a_cond_k ?_; intro X Y hX hY) | refine RetOk.mk ?_ | refine CallS.intro (m1) ?_ | refine CallD.intro (m1) ?_ | refine CallS.intro (m2) ?_ | refine CallD.intro (m2) ?_)); simp (maxSteps := 10000000) (implicitDefEqProofs := false) only [go_sem, hxe]))
        all_goals exact ⟨⟨rfl, rfl, by simp [*], by simp [*]⟩⟩
      rintro st ⟨hm, hs⟩
      refine a_has hs fun τ σ γ => ?_
      refine a_cut (fun st => (True) ∧ Has st 88 [(0, .slice (L)), (2, .ptr 2 0 0), (4, .bool (Bool.or s0 c0)), (5, .bool (Bool.or s1 c1)), (6, .bool s2), (7, .bool e1), (8, .bool e2), (9, .bool e3), (10, .int .i64 pre2.length), (11, .ptr 11 g 0)] [(2, .box 0 dZ), (11, .box g xe)]) (fun K hK => ?_) ?_
      · repeat' (first | (with_reducible refine a_seq_k ?_; intro K hK) | (with_reducible first | refine a_block ?_ | refine a_ret ?_ | refine a_exit ?_ | refine a_skip ?_ | exact ConfOk.mk (by kernel_rfl)) | ((fail_if_success with_reducible show False); with_reducible apply_assumption (exfalso := false) (symm := false) only [*, rfl, trivial, congrArg]) | with_reducible refine And.intro ?_ ?_ | (intro h; contradiction) | (intro h; subst h) | intro h | ((try (with_reducible first | refine a_region (by kernel_rfl) ?_ | (refine a_draw mixed (by kernel_rfl) ?_; intro C hC) | (refine a_cond_k ?_; intro X Y hX hY) | refine RetOk.mk ?_ | refine CallS.intro (m1) ?_ | refine CallD.intro (m1) ?_ | refine CallS.intro (m2) ?_ | refine CallD.intro (m2) ?_)); simp (maxSteps := 10000000) (implicitDefEqProofs := false) only [go_sem, hxe]))
        all_goals exact ⟨⟨rfl, rfl, by simp [*], by simp [*]⟩⟩
      rintro st ⟨hm, hs⟩
      refine a_has hs fun τ σ γ => ?_
      refine a_cut (fun st => (True) ∧ Has st 88 [(0, .slice (L)), (2, .ptr 2 0 0), (4, .bool (Bool.or s0 c0)), (5, .bool (Bool.or s1 c1)), (6, .bool (Bool.or s2 c2)), (7, .bool e1), (8, .bool e2), (9, .bool e3), (10, .int .i64 pre2.length), (11, .ptr 11 g 0)] [(2, .box 0 dZ), (11, .box g xe)]) (fun K hK => ?_) ?_
      · repeat' (first | (with_reducible refine a_seq_k ?_; intro K hK) | (with_reducible first | refine a_block ?_ | refine a_ret ?_ | refine a_exit ?_ | refine a_skip ?_ | exact ConfOk.mk (by kernel_rfl)) | ((fail_if_success with_reducible show False); with_reducible apply_assumption (exfalso := false) (symm := false) only [*, rfl, trivial, congrArg]) | with_reducible refine And.intro ?_ ?_ | (intro h; contradiction) | (intro h; subst h) | intro h | ((try (with_reducible first | refine a_region (by kernel_rfl) ?_ | (refine a_draw mixed (by kernel_rfl) ?_; intro C hC) | (refine a_cond_k ?_; intro X Y hX hY) | refine RetOk.mk ?_ | refine CallS.intro (m1) ?_ | refine CallD.intro (m1) ?_ | refine CallS.intro (m2) ?_ | refine CallD.intro (m2) ?_)); simp (maxSteps := 10000000) (implicitDefEqProofs := false) only [go_sem, hxe]))
        all_goals exact ⟨⟨rfl, rfl, by simp [*], by simp [*]⟩⟩
      rintro st ⟨hm, hs⟩
      refine a_has hs fun τ σ γ => ?_
      refine a_cut (fun st => (True) ∧ Has st 88 [(0, .slice (L)), (2, .ptr 2 0 0), (4, .bool (Bool.or s0 c0)), (5, .bool (Bool.or s1 c1)), (6, .bool (Bool.or s2 c2)), (7, .bool (e1 && (Bool.or c1 (Bool.or c2 c3)))), (8, .bool e2), (9, .bool e3), (10, .int .i64 pre2.length), (11, .ptr 11 g 0)] [(2, .box 0 dZ), (11, .box g xe)]) (fun K hK => ?_) ?_
      · repeat' (first | (with_reducible refine a_seq_k ?_; intro K hK) | (with_reducible first | refine a_block ?_ | refine a_ret ?_ | refine a_exit ?_ | refine a_skip ?_ | exact ConfOk.mk (by kernel_rfl)) | ((fail_if_success with_reducible show False); with_reducible apply_assumption (exfalso := false) (symm := false) only [*, rfl, trivial, congrArg]) | with_reducible refine And.intro ?_ ?_ | (intro h; contradiction) | (intro h; subst h) | intro h | ((try (with_reducible first | refine a_region (by kernel_rfl) ?_ | (refine a_draw mixed (by kernel_rfl) ?_; intro C hC) | (refine a_cond_k ?_; intro X Y hX hY) | refine RetOk.mk ?_ | refine CallS.intro (m1) ?_ | refine CallD.intro (m1) ?_ | refine CallS.intro (m2) ?_ | refine CallD.intro (m2) ?_)); simp (maxSteps := 10000000) (implicitDefEqProofs := false) only [go_sem, hxe]))
        all_goals exact ⟨⟨rfl, rfl, by simp [*], by simp [*]⟩⟩
      rintro st ⟨hm, hs⟩
      refine a_has hs fun τ σ γ => ?_
      refine a_cut (fun st => (True) ∧ Has st 88 [(0, .slice (L)), (2, .ptr 2 0 0), (4, .bool (Bool.or s0 c0)), (5, .bool (Bool.or s1 c1)), (6, .bool (Bool.or s2 c2)), (7, .bool (e1 && (Bool.or c1 (Bool.or c2 c3)))), (8, .bool (e2 && (Bool.or c2 c3))), (9, .bool e3), (10, .int .i64 pre2.length), (11, .ptr 11 g 0)] [(2, .box 0 dZ), (11, .box g xe)]) (fun K hK => ?_) ?_
      · repeat' (first | (with_reducible refine a_seq_k ?_; intro K hK) | (with_reducible first | refine a_block ?_ | refine a_ret ?_ | refine a_exit ?_ | refine a_skip ?_ | exact ConfOk.mk (by kernel_rfl)) | ((fail_if_success with_reducible show False); with_reducible apply_assumption (exfalso := false) (symm := false) only [*, rfl, trivial, congrArg]) | with_reducible refine And.intro ?_ ?_ | (intro h; contradiction) | (intro h; subst h) | intro h | ((try (with_reducible first | refine a_region (by kernel_rfl) ?_ | (refine a_draw mixed (by kernel_rfl) ?_; intro C hC) | (refine a_cond_k ?_; intro X Y hX hY) | refine RetOk.mk ?_ | refine CallS.intro (m1) ?_ | refine CallD.intro (m1) ?_ | refine CallS.intro (m2) ?_ | refine CallD.intro (m2) ?_)); simp (maxSteps := 10000000) (implicitDefEqProofs := false) only [go_sem, hxe]))
        all_goals exact ⟨⟨rfl, rfl, by simp [*], by simp [*]⟩⟩
      rintro st ⟨hm, hs⟩
      refine a_has hs fun τ σ γ => ?_
      repeat' (first | (with_reducible refine a_seq_k ?_; intro K hK) | (with_reducible first | refine a_block ?_ | refine a_ret ?_ | refine a_exit ?_ | refine a_skip ?_ | exact ConfOk.mk (by kernel_rfl)) | ((fail_if_success with_reducible show False); with_reducible apply_assumption (exfalso := false) (symm := false) only [*, rfl, trivial, congrArg]) | with_reducible refine And.intro ?_ ?_ | (intro h; contradiction) | (intro h; subst h) | intro h | ((try (with_reducible first | refine a_region (by kernel_rfl) ?_ | (refine a_draw mixed (by kernel_rfl) ?_; intro C hC) | (refine a_cond_k ?_; intro X Y hX hY) | refine RetOk.mk ?_ | refine CallS.intro (m1) ?_ | refine CallD.intro (m1) ?_ | refine CallS.intro (m2) ?_ | refine CallD.intro (m2) ?_)); simp (maxSteps := 10000000) (implicitDefEqProofs := false) only [go_sem, hxe]))
      all_goals exact ⟨⟨rfl, rfl, by simp [*], by simp [*]⟩⟩
  · have n1 := ref_Empty x
    simp only [dA, Dom.enc] at n1
    repeat' (first | (with_reducible refine a_seq_k ?_; intro K hK) | (with_reducible first | refine a_block ?_ | refine a_ret ?_ | refine a_exit ?_ | refine a_skip ?_ | exact ConfOk.mk (by kernel_rfl)) | ((fail_if_success with_reducible show False); with_reducible apply_assumption (exfalso := false) (symm := false) only [*, rfl, trivial, congrArg]) | with_reducible refine And.intro ?_ ?_ | (intro h; contradiction) | (intro h; subst h) | intro h | ((try (with_reducible first | refine a_region (by kernel_rfl) ?_ | (refine a_draw mixed (by kernel_rfl) ?_; intro C hC) | (refine a_cond_k ?_; intro X Y hX hY) | refine RetOk.mk ?_ | refine CallS.intro (n1) ?_ | refine CallD.intro (n1) ?_)); simp (maxSteps := 10000000) (implicitDefEqProofs := false) only [go_sem, Dom.enc, hw]))
    · rw [if_pos (by simp [*])] at hres
      simp [hres, noneD]
    · exact ⟨⟨rest.length, by simp, 0, pre ++ [x], rest, (), by simp, rfl, by simp [*], ⟨rfl, rfl, by simp [Dom.enc, kd, dZ], by simp [Dom.enc, kd, dZ]⟩⟩⟩
end Go.Proofs.YtoggbjfjmbjegaaGreatDoor
