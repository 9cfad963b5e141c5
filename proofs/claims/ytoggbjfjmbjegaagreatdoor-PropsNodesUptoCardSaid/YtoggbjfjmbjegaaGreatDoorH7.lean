/- CASE, COALESCE, OR in the document: jointerref12.cases, coalesce, or. -/
import Derived.Test.YtoggbjfjmbjegaaGreatDoorHB
set_option linter.unusedSimpArgs false
set_option linter.unusedVariables false
set_option linter.unusedSimpArgs false
set_option linter.unusedVariables false
namespace Go.Proofs.YtoggbjfjmbjegaaGreatDoor
open Go Go.Ab
-- @enc(Dom.enc, En.enc, kd, dZ, noneD)@
attribute [local go_sem ↓] parts_tt parts_ff parts_tf parts_ft reduceIte
attribute [local go_sem] reduceCtorEq Nat.reduceAdd Nat.reduceSub Nat.reduceLeDiff Nat.reduceEqDiff Nat.reduceMul Nat.reduceLT Nat.reducePow Int.reduceEq Int.reduceLT Int.reduceLE Int.reduceGT Int.reduceGE Int.reduceAdd Int.reduceSub Int.reduceNeg Int.reduceToNat parts_eq learnT aops_nil aops_cons aopsD_nil aopsD_cons stepS stepD gval St.learn skipR St.after putτ applyUpd List.foldl_cons List.foldl_nil pureOp memOp callOf litA closeO closeK List.flatMap_cons List.flatMap_nil Option.map_none decide_false opnd ofConst leaf binA unA lenA indexA indexAddrA fieldAddrA fieldA weak_slice weak_nils weak_str weak_view weak_viewF weak_sliceF weak_ptr weak_cptr weak_rptr weak_sl weak_sl0 weak_any sliceFA_slice sliceFA_str sliceFA_view sliceFA_none sliceFA_some sameO sliceA convertA pickV fillA placeS cellsA setA partA loadM storeM appendM srcEls lookBox lookRow lookMap closeL closeV scalarB scalarL killed buildEls lookupA leafEq eqAll resA resL tupA retA thenA blockA isInt loA hiA foldA maxA minA okSize leafB closedB Res.foot List.getD_cons_zero List.getD_cons_succ List.set_cons_zero List.set_cons_succ List.map_cons List.map_nil List.append_nil List.nil_append List.cons_append List.length_cons List.length_nil List.take_succ_cons List.take_zero List.drop_succ_cons List.drop_zero List.take_nil List.drop_nil List.all_cons List.all_nil List.getElem?_toArray List.getElem?_cons_zero List.getElem?_cons_succ Option.bind_some Option.map_some true_and and_true true_implies ne_eq not_true_eq_false not_false_eq_true Bool.true_eq_false Bool.false_eq_true Bool.not_true Bool.not_false decide_eq_true_eq decide_eq_false_iff_not false_implies implies_true and_self ite_true ite_false cond_true cond_false Option.some.injEq List.reverse_cons List.reverse_nil Bool.and_self Bool.true_and Bool.and_true Bool.false_and Bool.and_false Bool.or_true Bool.true_or Bool.or_false Bool.false_or Bool.not_eq_eq_eq_not Bool.not_not Bool.or_self beq_self_eq_true and_false false_and or_true true_or or_false false_or not_true not_false_iff Decidable.not_not lookT lookR tabT tabR Int.toNat_natCast List.length_map List.map_append List.length_append decide_true decide_false tmod2 List.mem_singleton forall_eq elOk1 elOk3 elOk4 castn0 castn1 castn2 castn3 getD_mid getD_mid_map at_lt at_end mid_lt mid_lt' nat_ge List.size_toArray Array.size_empty Nat.add_zero Nat.zero_add
attribute [local irreducible] ASpec ACalls retA ti EqT
set_option linter.unusedSimpArgs false
set_option maxHeartbeats 4000000
set_option maxRecDepth 100000
set_option linter.unusedVariables false
attribute [local go_sem] ti2 ti3 ti4 ti5 ti9 ti21 ti22 ti23 ti24 ti26 ti27 ti28 ti30 ti33 ti34 ti37 ti41 ti42 ti46 ti52 ti56 ti68 ti69 ti73 ti78 ti86 ti89 ti99 ti117 ti122 ti123 ti124 ti144 ti166 ti173 ti174 ti190 ti191 ti199 ti245 ti247 ti257 ti271 ti288 ti290 ti343
theorem getD_next {α : Type} (a : List α) (x y : α) (r : List α) (z : α) : (a ++ x :: y :: r).getD (a.length + 1) z = y := by
  simp [List.getD, List.getElem?_append_right]
theorem wrap_two (n : Nat) (h : n < 2 ^ 41) : IntKind.wrap .i64 ((n : Int) + 2) = ((n + 2 : Nat) : Int) := by
  rw [wrapI _ (by omega)]; omega
theorem ref_cases (kind : Int) (kids : List Dom) (hl : kids.length < 2 ^ 40) : ACalls Tryz.prog 67 [.int .u8 kind, doms kids] (dA (caseD unionD mayD mayNotD (fun d => { d with null := true }) (noneD kind) kids)) := by
  obtain ⟨res, hres⟩ : ∃ r, r = caseD unionD mayD mayNotD (fun d => { d with null := true }) (noneD kind) kids := ⟨_, rfl⟩
  rw [← hres]
  refine acalls_k Tryz.func67 rfl (by kernel_rfl) (congrArg Array.toList Tryz.results67) Tryz.ntmps67 ?_
  intro R hR
  simp only [st0, List.length_cons, List.length_nil, Nat.reduceAdd, Nat.reduceSub, List.replicate_succ, List.replicate_zero, List.cons_append, List.nil_append]
  repeat' (first | (with_reducible refine a_seq_k ?_; intro K hK) | (with_reducible first | refine a_block ?_ | refine a_ret ?_ | refine a_exit ?_ | refine a_skip ?_ | exact ConfOk.mk (by kernel_rfl)) | ((fail_if_success with_reducible show False); with_reducible apply_assumption (exfalso := false) (symm := false) only [*, rfl, trivial, congrArg]) | with_reducible refine And.intro ?_ ?_ | (intro h; contradiction) | (intro h; subst h) | intro h | ((try (with_reducible first | refine a_region (by kernel_rfl) ?_ | (refine a_draw mixed (by kernel_rfl) ?_; intro C hC) | (refine a_cond_k ?_; intro X Y hX hY) | refine RetOk.mk ?_)); simp (maxSteps := 10000000) (implicitDefEqProofs := false) only [go_sem, Dom.enc, noneD]))
  refine a_loop_k (fun m st => ∃ (g : Nat) (d : Dom) (pre r : List Dom), kids = pre ++ r ∧ caseD unionD mayD mayNotD (fun d => { d with null := true }) d r = res ∧ m = r.length ∧ Has st 58 [(1, .slice (kids.map Dom.enc)), (4, .ptr 4 0 0), (5, .ptr 5 g 0), (6, .int .i64 pre.length)] [(4, .box 0 dZ), (5, .box g d.enc)]) kids.length ⟨1, noneD kind, [], kids, rfl, hres.symm, rfl, ⟨rfl, rfl, by simp [Dom.enc, noneD], by simp [Dom.enc, noneD]⟩⟩ ?_
  rintro m st ⟨g, d, pre, r, he, hd, rfl, hs2⟩ K2 hK2
  clear hres
  have hpl : pre.length < 2 ^ 40 := by have := congrArg List.length he; simp at this; omega
  have hw := wrap_nat pre.length (by omega)
  have hwt := wrap_two pre.length (by omega)
  subst he
  refine a_has hs2 fun τ σ γ => ?_
  rcases r with _ | ⟨c, _ | ⟨v, r⟩⟩
  · simp only [caseD] at hd
    subst hd
    simp only [List.append_nil] at *
    have c1 : (((pre.length + 1 : Nat) : Int) < (pre.length : Int)) = False := by simp; omega
    repeat' (first | (with_reducible refine a_seq_k ?_; intro K hK) | (with_reducible first | refine a_block ?_ | refine a_ret ?_ | refine a_exit ?_ | refine a_skip ?_ | exact ConfOk.mk (by kernel_rfl)) | ((fail_if_success with_reducible show False); with_reducible apply_assumption (exfalso := false) (symm := false) only [*, rfl, trivial, congrArg]) | with_reducible refine And.intro ?_ ?_ | (intro h; contradiction) | (intro h; subst h) | intro h | ((try (with_reducible first | refine a_region (by kernel_rfl) ?_ | (refine a_draw mixed (by kernel_rfl) ?_; intro C hC) | (refine a_cond_k ?_; intro X Y hX hY) | refine RetOk.mk ?_)); simp (maxSteps := 10000000) (implicitDefEqProofs := false) only [go_sem, Dom.enc, hw, c1, Int.lt_irrefl]))
  · have j0 := ref_Union d c
    simp only [caseD] at hd
    rw [hd] at j0
    simp only [dA, Dom.enc] at j0
    have c1 : (((pre.length + 1 : Nat) : Int) < ((pre.length + 1 : Nat) : Int)) = False := by simp
    repeat' (first | (with_reducible refine a_seq_k ?_; intro K hK) | (with_reducible first | refine a_block ?_ | refine a_ret ?_ | refine a_exit ?_ | refine a_skip ?_ | exact ConfOk.mk (by kernel_rfl)) | ((fail_if_success with_reducible show False); with_reducible apply_assumption (exfalso := false) (symm := false) only [*, rfl, trivial, congrArg]) | with_reducible refine And.intro ?_ ?_ | (intro h; contradiction) | (intro h; subst h) | intro h | ((try (with_reducible first | refine a_region (by kernel_rfl) ?_ | (refine a_draw mixed (by kernel_rfl) ?_; intro C hC) | (refine a_cond_k ?_; intro X Y hX hY) | refine RetOk.mk ?_ | refine CallS.intro (j0) ?_ | refine CallD.intro (j0) ?_)); simp (maxSteps := 10000000) (implicitDefEqProofs := false) only [go_sem, Dom.enc, hw, c1, Int.lt_irrefl]))
  · have c1 : (((pre.length + 1 : Nat) : Int) < ((pre.length + (r.length + 1 + 1) : Nat) : Int)) = True := by simp; omega
    have hg := getD_next (pre.map Dom.enc) c.enc v.enc (r.map Dom.enc) []
    have m1 := ref_May c
    have m0 := ref_mayNot c
    have j0 := ref_Union (addFail d c.fail) v
    obtain ⟨e, he⟩ : ∃ e, e = (if mayD c = true then unionD (addFail d c.fail) v else addFail d c.fail) := ⟨_, rfl⟩
    simp only [caseD, ← he] at hd
    obtain ⟨dk, dn, df, ds, dl, dh⟩ := d
    simp only [dA, Dom.enc, addFail, List.length_map] at m1 m0 j0 he hg
    generalize mayD c = b1 at *
    generalize mayNotD c = b0 at *
    cases df
    all_goals
      simp only [Bool.false_or, Bool.true_or] at j0 he
      cases b1
      all_goals
        simp only [if_true, Bool.false_eq_true, if_false] at he
        try rw [← he] at j0
        repeat' (first | (with_reducible refine a_seq_k ?_; intro K hK) | (with_reducible first | refine a_block ?_ | refine a_ret ?_ | refine a_exit ?_ | refine a_skip ?_ | exact ConfOk.mk (by kernel_rfl)) | ((fail_if_success with_reducible show False); with_reducible apply_assumption (exfalso := false) (symm := false) only [*, rfl, trivial, congrArg]) | with_reducible refine And.intro ?_ ?_ | (intro h; contradiction) | (intro h; subst h) | intro h | ((try (with_reducible first | refine a_region (by kernel_rfl) ?_ | (refine a_draw mixed (by kernel_rfl) ?_; intro C hC) | (refine a_cond_k ?_; intro X Y hX hY) | refine RetOk.mk ?_ | refine CallS.intro (m1) ?_ | refine CallD.intro (m1) ?_ | refine CallS.intro (j0) ?_ | refine CallD.intro (j0) ?_ | refine CallS.intro (m0) ?_ | refine CallD.intro (m0) ?_)); simp (maxSteps := 10000000) (implicitDefEqProofs := false) only [go_sem, Dom.enc, hw, hwt, c1, hg]))
        try any_goals omega
        all_goals first
          | (rw [if_pos (by simp [*])] at hd; subst hd; first | rfl | (subst he; rfl) | (simp [*]; done))
          | (rw [if_neg (by simp [*])] at hd; exact ⟨⟨r.length, by omega, g, e, pre ++ [c, v], r, by simp, hd, rfl, ⟨rfl, rfl, by simp [Dom.enc, *], by simp [Dom.enc, *]⟩⟩⟩)
theorem ref_coalesce (kind : Int) (kids : List Dom) (hl : kids.length < 2 ^ 40) : ACalls Tryz.prog 68 [.int .u8 kind, doms kids] (dA (coalD unionD (noneD kind) kids)) := by
  obtain ⟨res, hres⟩ : ∃ r, r = coalD unionD (noneD kind) kids := ⟨_, rfl⟩
  rw [← hres]
  refine acalls_k Tryz.func68 rfl (by kernel_rfl) (congrArg Array.toList Tryz.results68) Tryz.ntmps68 ?_
  intro R hR
  simp only [st0, List.length_cons, List.length_nil, Nat.reduceAdd, Nat.reduceSub, List.replicate_succ, List.replicate_zero, List.cons_append, List.nil_append]
  repeat' (first | (with_reducible refine a_seq_k ?_; intro K hK) | (with_reducible first | refine a_block ?_ | refine a_ret ?_ | refine a_exit ?_ | refine a_skip ?_ | exact ConfOk.mk (by kernel_rfl)) | ((fail_if_success with_reducible show False); with_reducible apply_assumption (exfalso := false) (symm := false) only [*, rfl, trivial, congrArg]) | with_reducible refine And.intro ?_ ?_ | (intro h; contradiction) | (intro h; subst h) | intro h | ((try (with_reducible first | refine a_region (by kernel_rfl) ?_ | (refine a_draw mixed (by kernel_rfl) ?_; intro C hC) | (refine a_cond_k ?_; intro X Y hX hY) | refine RetOk.mk ?_)); simp (maxSteps := 10000000) (implicitDefEqProofs := false) only [go_sem, Dom.enc, noneD]))
  refine a_loop_k (fun n st => ∃ (g : Nat) (pre rest : List _) (d : Dom), kids = pre ++ rest ∧ n = rest.length ∧ (coalD unionD d rest = res) ∧ Has st 32 [(1, .slice (kids.map Dom.enc)), (4, .ptr 4 0 0), (5, .ptr 5 g 0), (6, .int .i64 pre.length)] [(4, .box 0 dZ), (5, .box g d.enc)]) (kids).length ⟨1, [], kids, noneD kind, rfl, rfl, hres.symm, ⟨rfl, rfl, by simp [Dom.enc, En.enc, kd, dZ, noneD], by simp [Dom.enc, En.enc, kd, dZ, noneD]⟩⟩ ?_
  rintro n st ⟨g, pre, rest, d, he, rfl, hp, hs⟩ K hK
  have hw := wrap_nat pre.length (by have := congrArg List.length he; simp at this; omega)
  subst he
  refine a_has hs fun τ σ γ => ?_
  rcases rest with _ | ⟨x, rest⟩
  · simp only [coalD] at hp
    subst hp
    simp only [List.append_nil] at *
    repeat' (first | (with_reducible refine a_seq_k ?_; intro K hK) | (with_reducible first | refine a_block ?_ | refine a_ret ?_ | refine a_exit ?_ | refine a_skip ?_ | exact ConfOk.mk (by kernel_rfl)) | ((fail_if_success with_reducible show False); with_reducible apply_assumption (exfalso := false) (symm := false) only [*, rfl, trivial, congrArg]) | with_reducible refine And.intro ?_ ?_ | (intro h; contradiction) | (intro h; subst h) | intro h | ((try (with_reducible first | refine a_region (by kernel_rfl) ?_ | (refine a_draw mixed (by kernel_rfl) ?_; intro C hC) | (refine a_cond_k ?_; intro X Y hX hY) | refine RetOk.mk ?_)); simp (maxSteps := 10000000) (implicitDefEqProofs := false) only [go_sem, Dom.enc]))
  · obtain ⟨xk, xn, xf, xs, xl, xh⟩ := x
    have j0 := ref_Union d ⟨xk, false, xf, xs, xl, xh⟩
    simp only [coalD] at hp
    obtain ⟨e, he⟩ : ∃ e, e = unionD d ⟨xk, false, xf, xs, xl, xh⟩ := ⟨_, rfl⟩
    rw [← he] at j0 hp
    simp only [dA, Dom.enc] at j0
    clear he hres
    cases xn
    · simp only [if_true] at hp
      subst hp
      repeat' (first | (with_reducible refine a_seq_k ?_; intro K hK) | (with_reducible first | refine a_block ?_ | refine a_ret ?_ | refine a_exit ?_ | refine a_skip ?_ | exact ConfOk.mk (by kernel_rfl)) | ((fail_if_success with_reducible show False); with_reducible apply_assumption (exfalso := false) (symm := false) only [*, rfl, trivial, congrArg]) | with_reducible refine And.intro ?_ ?_ | (intro h; contradiction) | (intro h; subst h) | intro h | ((try (with_reducible first | refine a_region (by kernel_rfl) ?_ | (refine a_draw mixed (by kernel_rfl) ?_; intro C hC) | (refine a_cond_k ?_; intro X Y hX hY) | refine RetOk.mk ?_ | refine CallS.intro (j0) ?_ | refine CallD.intro (j0) ?_)); simp (maxSteps := 10000000) (implicitDefEqProofs := false) only [go_sem, Dom.enc, hw]))
    · simp only [Bool.true_eq_false, if_false] at hp
      repeat' (first | (with_reducible refine a_seq_k ?_; intro K hK) | (with_reducible first | refine a_block ?_ | refine a_ret ?_ | refine a_exit ?_ | refine a_skip ?_ | exact ConfOk.mk (by kernel_rfl)) | ((fail_if_success with_reducible show False); with_reducible apply_assumption (exfalso := false) (symm := false) only [*, rfl, trivial, congrArg]) | with_reducible refine And.intro ?_ ?_ | (intro h; contradiction) | (intro h; subst h) | intro h | ((try (with_reducible first | refine a_region (by kernel_rfl) ?_ | (refine a_draw mixed (by kernel_rfl) ?_; intro C hC) | (refine a_cond_k ?_; intro X Y hX hY) | refine RetOk.mk ?_ | refine CallS.intro (j0) ?_ | refine CallD.intro (j0) ?_)); simp (maxSteps := 10000000) (implicitDefEqProofs := false) only [go_sem, Dom.enc, hw]))
      exact ⟨⟨rest.length, by simp, g, pre ++ [⟨xk, true, xf, xs, xl, xh⟩], rest, e, by simp, rfl, hp, ⟨rfl, rfl, by simp [Dom.enc], by simp [Dom.enc]⟩⟩⟩
theorem ref_or (kids : List Dom) (hl : kids.length < 2 ^ 40) (hne : kids ≠ []) : ACalls Tryz.prog 66 [doms kids] (dA (orD kids)) := by
  have ht := fun x => ref_turned x
  have ha := ref_And (kids.map turnD) (by simpa using hl)
  have h2 := ref_turned (andD (kids.map turnD))
  unfold orD
  obtain ⟨r1, hr1⟩ : ∃ r, r = andD (kids.map turnD) := ⟨_, rfl⟩
  rw [← hr1] at ha h2 ⊢
  obtain ⟨r2, hr2⟩ : ∃ r, r = turnD r1 := ⟨_, rfl⟩
  rw [← hr2] at h2 ⊢
  clear hr1 hr2
  simp only [dA, Dom.enc, doms, List.map_map, Function.comp_def] at ha h2 ht
  refine acalls_k Tryz.func66 rfl (by kernel_rfl) (congrArg Array.toList Tryz.results66) Tryz.ntmps66 ?_
  intro R hR
  simp only [st0, List.length_cons, List.length_nil, Nat.reduceAdd, Nat.reduceSub, List.replicate_succ, List.replicate_zero, List.cons_append, List.nil_append]
  repeat' (first | (with_reducible refine a_seq_k ?_; intro K hK) | (with_reducible first | refine a_block ?_ | refine a_ret ?_ | refine a_exit ?_ | refine a_skip ?_ | exact ConfOk.mk (by kernel_rfl)) | ((fail_if_success with_reducible show False); with_reducible apply_assumption (exfalso := false) (symm := false) only [*, rfl, trivial, congrArg]) | with_reducible refine And.intro ?_ ?_ | (intro h; contradiction) | (intro h; subst h) | intro h | ((try (with_reducible first | refine a_region (by kernel_rfl) ?_ | (refine a_draw mixed (by kernel_rfl) ?_; intro C hC) | (refine a_cond_k ?_; intro X Y hX hY) | refine RetOk.mk ?_)); simp (maxSteps := 10000000) (implicitDefEqProofs := false) only [go_sem, Dom.enc]))
  refine a_loop_k (fun m st => (m = kids.length ∧ Has st 22 [(0, .slice (kids.map Dom.enc)), (2, .ptr 2 0 0), (3, .nils), (4, .int .i64 0)] [(2, .box 0 dZ)]) ∨ (∃ (g : Nat) (pre rest : List Dom), kids = pre ++ rest ∧ pre ≠ [] ∧ m = rest.length ∧ Has st 22 [(0, .slice (kids.map Dom.enc)), (2, .ptr 2 0 0), (3, .view 18 g), (4, .int .i64 pre.length)] [(2, .box 0 dZ), (18, .row g 6 (pre.map fun x => (turnD x).enc))])) kids.length (.inl ⟨rfl, ⟨rfl, rfl, by simp, by simp⟩⟩) ?_
  rintro m st (⟨rfl, hs⟩ | ⟨g, pre, rest, he, hp, rfl, hs⟩) K0 hK0
  · obtain ⟨x, r, rfl⟩ := List.exists_cons_of_ne_nil hne
    have hc := ht x
    refine a_has hs fun τ σ γ => ?_
    have hgt : (0 : Int) < ((r.length + 1 : Nat) : Int) := by omega
    repeat' (first | (with_reducible refine a_seq_k ?_; intro K hK) | (with_reducible first | refine a_block ?_ | refine a_ret ?_ | refine a_exit ?_ | refine a_skip ?_ | exact ConfOk.mk (by kernel_rfl)) | ((fail_if_success with_reducible show False); with_reducible apply_assumption (exfalso := false) (symm := false) only [*, rfl, trivial, congrArg]) | with_reducible refine And.intro ?_ ?_ | (intro h; contradiction) | (intro h; subst h) | intro h | ((try (with_reducible first | refine a_region (by kernel_rfl) ?_ | (refine a_draw mixed (by kernel_rfl) ?_; intro C hC) | (refine a_cond_k ?_; intro X Y hX hY) | refine RetOk.mk ?_ | refine CallS.intro (hc) ?_ | refine CallD.intro (hc) ?_)); simp (maxSteps := 10000000) (implicitDefEqProofs := false) only [go_sem, Dom.enc, wr1, hgt]))
    all_goals exact ⟨⟨r.length, by simp, .inr ⟨γ + 1, [x], r, rfl, by simp, rfl, ⟨rfl, rfl, by simp [Dom.enc], by simp [Dom.enc]⟩⟩⟩⟩
  · have hw := wrap_nat pre.length (by have := congrArg List.length he; simp at this; omega)
    subst he
    refine a_has hs fun τ σ γ => ?_
    rcases rest with _ | ⟨x, rest⟩
    · simp only [List.append_nil] at *
      repeat' (first | (with_reducible refine a_seq_k ?_; intro K hK) | (with_reducible first | refine a_block ?_ | refine a_ret ?_ | refine a_exit ?_ | refine a_skip ?_ | exact ConfOk.mk (by kernel_rfl)) | ((fail_if_success with_reducible show False); with_reducible apply_assumption (exfalso := false) (symm := false) only [*, rfl, trivial, congrArg]) | with_reducible refine And.intro ?_ ?_ | (intro h; contradiction) | (intro h; subst h) | intro h | ((try (with_reducible first | refine a_region (by kernel_rfl) ?_ | (refine a_draw mixed (by kernel_rfl) ?_; intro C hC) | (refine a_cond_k ?_; intro X Y hX hY) | refine RetOk.mk ?_ | refine CallS.intro (ha) ?_ | refine CallD.intro (ha) ?_ | refine CallS.intro (h2) ?_ | refine CallD.intro (h2) ?_)); simp (maxSteps := 10000000) (implicitDefEqProofs := false) only [go_sem, Dom.enc]))
    · have hc := ht x
      repeat' (first | (with_reducible refine a_seq_k ?_; intro K hK) | (with_reducible first | refine a_block ?_ | refine a_ret ?_ | refine a_exit ?_ | refine a_skip ?_ | exact ConfOk.mk (by kernel_rfl)) | ((fail_if_success with_reducible show False); with_reducible apply_assumption (exfalso := false) (symm := false) only [*, rfl, trivial, congrArg]) | with_reducible refine And.intro ?_ ?_ | (intro h; contradiction) | (intro h; subst h) | intro h | ((try (with_reducible first | refine a_region (by kernel_rfl) ?_ | (refine a_draw mixed (by kernel_rfl) ?_; intro C hC) | (refine a_cond_k ?_; intro X Y hX hY) | refine RetOk.mk ?_ | refine CallS.intro (hc) ?_ | refine CallD.intro (hc) ?_)); simp (maxSteps := 10000000) (implicitDefEqProofs := false) only [go_sem, Dom.enc, hw]))
      all_goals simp only [List.length_append, List.length_cons] at hl
      try any_goals omega
      all_goals exact ⟨⟨rest.length, by simp, .inr ⟨γ + 1, pre ++ [x], rest, by simp, by simp, rfl, ⟨rfl, rfl, by simp [Dom.enc], by simp [Dom.enc]⟩⟩⟩⟩
end Go.Proofs.YtoggbjfjmbjegaaGreatDoor
