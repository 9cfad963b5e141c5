/- Strict operators on values in the document: jointerref12.someValue. -/
import Derived.Test.YtoggbjfjmbjegaaGreatDoorHB
set_option linter.unusedSimpArgs false
set_option linter.unusedVariables false
set_option linter.unusedSimpArgs false
set_option linter.unusedVariables false
namespace Go.Proofs.YtoggbjfjmbjegaaGreatDoor
open Go Go.Ab
-- @enc(Dom.enc, En.enc, kd, dZ)@
attribute [local go_sem ↓] parts_tt parts_ff parts_tf parts_ft reduceIte
attribute [local go_sem] reduceCtorEq Nat.reduceAdd Nat.reduceSub Nat.reduceLeDiff Nat.reduceEqDiff Nat.reduceMul Nat.reduceLT Nat.reducePow Int.reduceEq Int.reduceLT Int.reduceLE Int.reduceGT Int.reduceGE Int.reduceAdd Int.reduceSub Int.reduceNeg Int.reduceToNat parts_eq learnT aops_nil aops_cons aopsD_nil aopsD_cons stepS stepD gval St.learn skipR St.after putτ applyUpd List.foldl_cons List.foldl_nil pureOp memOp callOf litA closeO closeK List.flatMap_cons List.flatMap_nil Option.map_none decide_false opnd ofConst leaf binA unA lenA indexA indexAddrA fieldAddrA fieldA weak_slice weak_nils weak_str weak_view weak_viewF weak_sliceF weak_ptr weak_cptr weak_rptr weak_sl weak_sl0 weak_any sliceFA_slice sliceFA_str sliceFA_view sliceFA_none sliceFA_some sameO sliceA convertA pickV fillA placeS cellsA setA partA loadM storeM appendM srcEls lookBox lookRow lookMap closeL closeV scalarB scalarL killed buildEls lookupA leafEq eqAll resA resL tupA retA thenA blockA isInt loA hiA foldA maxA minA okSize leafB closedB Res.foot List.getD_cons_zero List.getD_cons_succ List.set_cons_zero List.set_cons_succ List.map_cons List.map_nil List.append_nil List.nil_append List.cons_append List.length_cons List.length_nil List.take_succ_cons List.take_zero List.drop_succ_cons List.drop_zero List.take_nil List.drop_nil List.all_cons List.all_nil List.getElem?_toArray List.getElem?_cons_zero List.getElem?_cons_succ Option.bind_some Option.map_some true_and and_true true_implies ne_eq not_true_eq_false not_false_eq_true Bool.true_eq_false Bool.false_eq_true Bool.not_true Bool.not_false decide_eq_true_eq decide_eq_false_iff_not false_implies implies_true and_self ite_true ite_false cond_true cond_false Option.some.injEq List.reverse_cons List.reverse_nil Bool.and_self Bool.true_and Bool.and_true Bool.false_and Bool.and_false Bool.or_true Bool.true_or Bool.or_false Bool.false_or Bool.not_eq_eq_eq_not Bool.not_not Bool.or_self beq_self_eq_true and_false false_and or_true true_or or_false false_or not_true not_false_iff Decidable.not_not lookT lookR tabT tabR Int.toNat_natCast List.length_map List.map_append List.length_append decide_true decide_false tmod2 List.mem_singleton forall_eq elOk1 elOk3 elOk4 castn0 castn1 castn2 castn3 getD_mid getD_mid_map at_lt at_end mid_lt mid_lt' nat_ge List.size_toArray Array.size_empty Nat.add_zero Nat.zero_add
attribute [local irreducible] ASpec ACalls retA ti EqT
set_option linter.unusedSimpArgs false
set_option maxHeartbeats 4000000
set_option maxRecDepth 100000
set_option linter.unusedVariables false
attribute [local go_sem] ti2 ti3 ti4 ti5 ti9 ti21 ti22 ti23 ti24 ti26 ti27 ti28 ti30 ti33 ti34 ti37 ti41 ti42 ti46 ti52 ti56 ti68 ti69 ti73 ti78 ti86 ti89 ti99 ti117 ti122 ti123 ti124 ti144 ti166 ti173 ti174 ti190 ti191 ti199 ti245 ti247 ti257 ti271 ti288 ti290 ti343
theorem minus0 (a : Int) (h : In64 a) : ACalls Tryz.prog 226 [.int .i64 0, .int .i64 a] (enA (endOf (0 - a))) := ref_minus 0 a ⟨by decide, by decide⟩ h
theorem ref_someValue1 (op : Int) (d : Dom) (a : Dom) (ha : a.In) (hl : a.lo ≤ a.hi) (hop : ¬ (op = 4 ∨ op = 5 ∨ op = 6 ∨ op = 7 ∨ op = 8 ∨ op = 9 ∨ op = 10 ∨ op = 11 ∨ op = 22 ∨ op = 19) → 12 ≤ op ∧ op ≤ 17) : ACalls Tryz.prog 137 [.int .u8 op, dA d, .slice [a.enc]] (dA (operD op d a a (alike a a) (mR a) true)) := by
  have ho : op = 4 ∨ op = 5 ∨ op = 6 ∨ op = 7 ∨ op = 8 ∨ op = 9 ∨ op = 10 ∨ op = 11 ∨ op = 22 ∨ op = 19 ∨ (12 ≤ op ∧ op ≤ 17) := by omega
  clear hop
  rcases ho with rfl | rfl | rfl | rfl | rfl | rfl | rfl | rfl | rfl | rfl | ho
  rw [show operD 4 d a a (alike a a) (mR a) true = interL d [0 - a.hi, 0 - a.lo] from rfl]
  have m1 := minus0 a.hi ha.2.2
  have m2 := minus0 a.lo ha.2.1
  have i1 := ref_gives d [0 - a.hi, 0 - a.lo] (by simp)
  obtain ⟨r, hr⟩ : ∃ r : Dom, r = interL d [0 - a.hi, 0 - a.lo] := ⟨_, rfl⟩
  rw [← hr] at i1 ⊢
  clear hr
  simp only [dA, Dom.enc, enA, En.enc, List.map_cons, List.map_nil] at m1 m2 i1
  rotate_left
  rw [show operD 5 d a a (alike a a) (mR a) true = interL d [a.lo + a.lo, a.hi + a.hi] from rfl]
  have m1 := ref_plus a.lo a.lo ha.2.1 ha.2.1
  have m2 := ref_plus a.hi a.hi ha.2.2 ha.2.2
  have i1 := ref_gives d [a.lo + a.lo, a.hi + a.hi] (by simp)
  obtain ⟨r, hr⟩ : ∃ r : Dom, r = interL d [a.lo + a.lo, a.hi + a.hi] := ⟨_, rfl⟩
  rw [← hr] at i1 ⊢
  clear hr
  simp only [dA, Dom.enc, enA, En.enc, List.map_cons, List.map_nil] at m1 m2 i1
  rotate_left
  rw [show operD 6 d a a (alike a a) (mR a) true = interL d [a.lo - a.hi, a.hi - a.lo] from rfl]
  have m1 := ref_minus a.lo a.hi ha.2.1 ha.2.2
  have m2 := ref_minus a.hi a.lo ha.2.2 ha.2.1
  have i1 := ref_gives d [a.lo - a.hi, a.hi - a.lo] (by simp)
  obtain ⟨r, hr⟩ : ∃ r : Dom, r = interL d [a.lo - a.hi, a.hi - a.lo] := ⟨_, rfl⟩
  rw [← hr] at i1 ⊢
  clear hr
  simp only [dA, Dom.enc, enA, En.enc, List.map_cons, List.map_nil] at m1 m2 i1
  rotate_left
  rw [show operD 7 d a a (alike a a) (mR a) true = interL d [a.lo * a.lo, a.lo * a.hi, a.hi * a.lo, a.hi * a.hi] from rfl]
  have m1 := ref_times a.lo a.lo ha.2.1 ha.2.1
  have m2 := ref_times a.lo a.hi ha.2.1 ha.2.2
  have m3 := ref_times a.hi a.lo ha.2.2 ha.2.1
  have m4 := ref_times a.hi a.hi ha.2.2 ha.2.2
  have i1 := ref_gives d [a.lo * a.lo, a.lo * a.hi, a.hi * a.lo, a.hi * a.hi] (by simp)
  obtain ⟨r, hr⟩ : ∃ r : Dom, r = interL d [a.lo * a.lo, a.lo * a.hi, a.hi * a.lo, a.hi * a.hi] := ⟨_, rfl⟩
  rw [← hr] at i1 ⊢
  clear hr
  simp only [dA, Dom.enc, enA, En.enc, List.map_cons, List.map_nil] at m1 m2 m3 m4 i1
  rotate_left
  rw [show operD 8 d a a (alike a a) (mR a) true = interL (addFail d (zeroIn a)) (endsOf a a) from rfl]
  have i1 := ref_divides d a a ha ha
  obtain ⟨r, hr⟩ : ∃ r : Dom, r = interL (addFail d (zeroIn a)) (endsOf a a) := ⟨_, rfl⟩
  rw [← hr] at i1 ⊢
  clear hr
  simp only [dA, Dom.enc, enA, En.enc, List.map_cons, List.map_nil] at i1
  rotate_left
  rw [show operD 9 d a a (alike a a) (mR a) true = (if byOf a = [] then addFail d (zeroIn a) else remD (addFail d (zeroIn a)) a (mR a)) from rfl]
  have i1 := ref_remains d a a ha ha hl
  obtain ⟨r, hr⟩ : ∃ r : Dom, r = (if byOf a = [] then addFail d (zeroIn a) else remD (addFail d (zeroIn a)) a (mR a)) := ⟨_, rfl⟩
  rw [← hr] at i1 ⊢
  clear hr
  simp only [dA, Dom.enc, enA, En.enc, List.map_cons, List.map_nil] at i1
  rotate_left
  rw [show operD 10 d a a (alike a a) (mR a) true = concatD d a a from rfl]
  have i1 := ref_joins d a a ha ha
  obtain ⟨r, hr⟩ : ∃ r : Dom, r = concatD d a a := ⟨_, rfl⟩
  rw [← hr] at i1 ⊢
  clear hr
  simp only [dA, Dom.enc, enA, En.enc, List.map_cons, List.map_nil] at i1
  rotate_left
  rw [show operD 11 d a a (alike a a) (mR a) true = { d with some := true, lo := a.lo, hi := a.hi } from rfl]
  rotate_left
  rw [show operD 22 d a a (alike a a) (mR a) true = truthD d (mayNotD a) (mayD a) from rfl]
  have m1 := ref_mayNot a
  have m2 := ref_May a
  have i1 := ref_truth d (mayNotD a) (mayD a)
  obtain ⟨r, hr⟩ : ∃ r : Dom, r = truthD d (mayNotD a) (mayD a) := ⟨_, rfl⟩
  rw [← hr] at i1 ⊢
  clear hr
  simp only [dA, Dom.enc, enA, En.enc, List.map_cons, List.map_nil] at m1 m2 i1
  rotate_left
  rw [show operD 19 d a a (alike a a) (mR a) true = truthD d true true from rfl]
  have i1 := ref_truth d true true
  obtain ⟨r, hr⟩ : ∃ r : Dom, r = truthD d true true := ⟨_, rfl⟩
  rw [← hr] at i1 ⊢
  clear hr
  simp only [dA, Dom.enc, enA, En.enc, List.map_cons, List.map_nil] at i1
  rotate_left
  · obtain ⟨o4, o5, o6, o7, o8, o9, o10, o11, o22, o19⟩ : op ≠ 4 ∧ op ≠ 5 ∧ op ≠ 6 ∧ op ≠ 7 ∧ op ≠ 8 ∧ op ≠ 9 ∧ op ≠ 10 ∧ op ≠ 11 ∧ op ≠ 22 ∧ op ≠ 19 := by omega
    have e0 : operD op d a a (alike a a) (mR a) true = truthD d (cmpWith (alike a a) op a a).1 (cmpWith (alike a a) op a a).2 := by
      simp only [operD, if_neg o4, if_neg o5, if_neg o6, if_neg o7, if_neg o8, if_neg o9, if_neg o10, if_neg o11, if_neg o22, if_neg o19]
    rw [e0]
    have m1 := ref_compares op ho a a
    have i1 := ref_truth d (cmpWith (alike a a) op a a).1 (cmpWith (alike a a) op a a).2
    generalize cmpWith (alike a a) op a a = p at *
    simp only [dA, Dom.enc] at m1 i1
    clear ho hl ha e0
    refine acalls_k Tryz.func137 rfl (by kernel_rfl) (congrArg Array.toList Tryz.results137) Tryz.ntmps137 ?_
    intro R hR
    simp only [st0, List.length_cons, List.length_nil, Nat.reduceAdd, Nat.reduceSub, List.replicate_succ, List.replicate_zero, List.cons_append, List.nil_append]
    repeat' (first | (with_reducible refine a_seq_k ?_; intro K hK) | (with_reducible first | refine a_block ?_ | refine a_ret ?_ | refine a_exit ?_ | refine a_skip ?_ | exact ConfOk.mk (by kernel_rfl)) | ((fail_if_success with_reducible show False); with_reducible apply_assumption (exfalso := false) (symm := false) only [*, rfl, trivial, congrArg]) | with_reducible refine And.intro ?_ ?_ | (intro h; contradiction) | (intro h; subst h) | intro h | ((try (with_reducible first | refine a_region (by kernel_rfl) ?_ | (refine a_draw mixed (by kernel_rfl) ?_; intro C hC) | (refine a_cond_k ?_; intro X Y hX hY) | refine RetOk.mk ?_ | refine CallS.intro (m1) ?_ | refine CallD.intro (m1) ?_ | refine CallS.intro (i1) ?_ | refine CallD.intro (i1) ?_)); simp (maxSteps := 10000000) (implicitDefEqProofs := false) only [go_sem, Dom.enc, wr0, wr1, Int.toNat_zero, Int.toNat_one, o4, o5, o6, o7, o8, o9, o10, o11, o22, o19]))
  all_goals
    clear hl ha
    refine acalls_k Tryz.func137 rfl (by kernel_rfl) (congrArg Array.toList Tryz.results137) Tryz.ntmps137 ?_
    intro R hR
    simp only [st0, List.length_cons, List.length_nil, Nat.reduceAdd, Nat.reduceSub, List.replicate_succ, List.replicate_zero, List.cons_append, List.nil_append]
    repeat' (first | (with_reducible refine a_seq_k ?_; intro K hK) | (with_reducible first | refine a_block ?_ | refine a_ret ?_ | refine a_exit ?_ | refine a_skip ?_ | exact ConfOk.mk (by kernel_rfl)) | ((fail_if_success with_reducible show False); with_reducible apply_assumption (exfalso := false) (symm := false) only [*, rfl, trivial, congrArg]) | with_reducible refine And.intro ?_ ?_ | (intro h; contradiction) | (intro h; subst h) | intro h | ((try (with_reducible first | refine a_region (by kernel_rfl) ?_ | (refine a_draw mixed (by kernel_rfl) ?_; intro C hC) | (refine a_cond_k ?_; intro X Y hX hY) | refine RetOk.mk ?_ | refine CallS.intro (m1) ?_ | refine CallD.intro (m1) ?_ | refine CallS.intro (m2) ?_ | refine CallD.intro (m2) ?_ | refine CallS.intro (m3) ?_ | refine CallD.intro (m3) ?_ | refine CallS.intro (m4) ?_ | refine CallD.intro (m4) ?_ | refine CallS.intro (i1) ?_ | refine CallD.intro (i1) ?_)); simp (maxSteps := 10000000) (implicitDefEqProofs := false) only [go_sem, Dom.enc, wr0, wr1, Int.toNat_zero, Int.toNat_one]))
theorem ref_someValue2 (op : Int) (d : Dom) (a b : Dom) (ha : a.In) (hb : b.In) (hl : b.lo ≤ b.hi) (hop : ¬ (op = 4 ∨ op = 5 ∨ op = 6 ∨ op = 7 ∨ op = 8 ∨ op = 9 ∨ op = 10 ∨ op = 11 ∨ op = 22 ∨ op = 19) → 12 ≤ op ∧ op ≤ 17) : ACalls Tryz.prog 137 [.int .u8 op, dA d, .slice [a.enc, b.enc]] (dA (operD op d a b (alike a b) (mR b) true)) := by
  have ho : op = 4 ∨ op = 5 ∨ op = 6 ∨ op = 7 ∨ op = 8 ∨ op = 9 ∨ op = 10 ∨ op = 11 ∨ op = 22 ∨ op = 19 ∨ (12 ≤ op ∧ op ≤ 17) := by omega
  clear hop
  rcases ho with rfl | rfl | rfl | rfl | rfl | rfl | rfl | rfl | rfl | rfl | ho
  rw [show operD 4 d a b (alike a b) (mR b) true = interL d [0 - a.hi, 0 - a.lo] from rfl]
  have m1 := minus0 a.hi ha.2.2
  have m2 := minus0 a.lo ha.2.1
  have i1 := ref_gives d [0 - a.hi, 0 - a.lo] (by simp)
  obtain ⟨r, hr⟩ : ∃ r : Dom, r = interL d [0 - a.hi, 0 - a.lo] := ⟨_, rfl⟩
  rw [← hr] at i1 ⊢
  clear hr
  simp only [dA, Dom.enc, enA, En.enc, List.map_cons, List.map_nil] at m1 m2 i1
  rotate_left
  rw [show operD 5 d a b (alike a b) (mR b) true = interL d [a.lo + b.lo, a.hi + b.hi] from rfl]
  have m1 := ref_plus a.lo b.lo ha.2.1 hb.2.1
  have m2 := ref_plus a.hi b.hi ha.2.2 hb.2.2
  have i1 := ref_gives d [a.lo + b.lo, a.hi + b.hi] (by simp)
  obtain ⟨r, hr⟩ : ∃ r : Dom, r = interL d [a.lo + b.lo, a.hi + b.hi] := ⟨_, rfl⟩
  rw [← hr] at i1 ⊢
  clear hr
  simp only [dA, Dom.enc, enA, En.enc, List.map_cons, List.map_nil] at m1 m2 i1
  rotate_left
  rw [show operD 6 d a b (alike a b) (mR b) true = interL d [a.lo - b.hi, a.hi - b.lo] from rfl]
  have m1 := ref_minus a.lo b.hi ha.2.1 hb.2.2
  have m2 := ref_minus a.hi b.lo ha.2.2 hb.2.1
  have i1 := ref_gives d [a.lo - b.hi, a.hi - b.lo] (by simp)
  obtain ⟨r, hr⟩ : ∃ r : Dom, r = interL d [a.lo - b.hi, a.hi - b.lo] := ⟨_, rfl⟩
  rw [← hr] at i1 ⊢
  clear hr
  simp only [dA, Dom.enc, enA, En.enc, List.map_cons, List.map_nil] at m1 m2 i1
  rotate_left
  rw [show operD 7 d a b (alike a b) (mR b) true = interL d [a.lo * b.lo, a.lo * b.hi, a.hi * b.lo, a.hi * b.hi] from rfl]
  have m1 := ref_times a.lo b.lo ha.2.1 hb.2.1
  have m2 := ref_times a.lo b.hi ha.2.1 hb.2.2
  have m3 := ref_times a.hi b.lo ha.2.2 hb.2.1
  have m4 := ref_times a.hi b.hi ha.2.2 hb.2.2
  have i1 := ref_gives d [a.lo * b.lo, a.lo * b.hi, a.hi * b.lo, a.hi * b.hi] (by simp)
  obtain ⟨r, hr⟩ : ∃ r : Dom, r = interL d [a.lo * b.lo, a.lo * b.hi, a.hi * b.lo, a.hi * b.hi] := ⟨_, rfl⟩
  rw [← hr] at i1 ⊢
  clear hr
  simp only [dA, Dom.enc, enA, En.enc, List.map_cons, List.map_nil] at m1 m2 m3 m4 i1
  rotate_left
  rw [show operD 8 d a b (alike a b) (mR b) true = interL (addFail d (zeroIn b)) (endsOf a b) from rfl]
  have i1 := ref_divides d a b ha hb
  obtain ⟨r, hr⟩ : ∃ r : Dom, r = interL (addFail d (zeroIn b)) (endsOf a b) := ⟨_, rfl⟩
  rw [← hr] at i1 ⊢
  clear hr
  simp only [dA, Dom.enc, enA, En.enc, List.map_cons, List.map_nil] at i1
  rotate_left
  rw [show operD 9 d a b (alike a b) (mR b) true = (if byOf b = [] then addFail d (zeroIn b) else remD (addFail d (zeroIn b)) a (mR b)) from rfl]
  have i1 := ref_remains d a b ha hb hl
  obtain ⟨r, hr⟩ : ∃ r : Dom, r = (if byOf b = [] then addFail d (zeroIn b) else remD (addFail d (zeroIn b)) a (mR b)) := ⟨_, rfl⟩
  rw [← hr] at i1 ⊢
  clear hr
  simp only [dA, Dom.enc, enA, En.enc, List.map_cons, List.map_nil] at i1
  rotate_left
  rw [show operD 10 d a b (alike a b) (mR b) true = concatD d a b from rfl]
  have i1 := ref_joins d a b ha hb
  obtain ⟨r, hr⟩ : ∃ r : Dom, r = concatD d a b := ⟨_, rfl⟩
  rw [← hr] at i1 ⊢
  clear hr
  simp only [dA, Dom.enc, enA, En.enc, List.map_cons, List.map_nil] at i1
  rotate_left
  rw [show operD 11 d a b (alike a b) (mR b) true = { d with some := true, lo := a.lo, hi := a.hi } from rfl]
  rotate_left
  rw [show operD 22 d a b (alike a b) (mR b) true = truthD d (mayNotD a) (mayD a) from rfl]
  have m1 := ref_mayNot a
  have m2 := ref_May a
  have i1 := ref_truth d (mayNotD a) (mayD a)
  obtain ⟨r, hr⟩ : ∃ r : Dom, r = truthD d (mayNotD a) (mayD a) := ⟨_, rfl⟩
  rw [← hr] at i1 ⊢
  clear hr
  simp only [dA, Dom.enc, enA, En.enc, List.map_cons, List.map_nil] at m1 m2 i1
  rotate_left
  rw [show operD 19 d a b (alike a b) (mR b) true = truthD d true true from rfl]
  have i1 := ref_truth d true true
  obtain ⟨r, hr⟩ : ∃ r : Dom, r = truthD d true true := ⟨_, rfl⟩
  rw [← hr] at i1 ⊢
  clear hr
  simp only [dA, Dom.enc, enA, En.enc, List.map_cons, List.map_nil] at i1
  rotate_left
  · obtain ⟨o4, o5, o6, o7, o8, o9, o10, o11, o22, o19⟩ : op ≠ 4 ∧ op ≠ 5 ∧ op ≠ 6 ∧ op ≠ 7 ∧ op ≠ 8 ∧ op ≠ 9 ∧ op ≠ 10 ∧ op ≠ 11 ∧ op ≠ 22 ∧ op ≠ 19 := by omega
    have e0 : operD op d a b (alike a b) (mR b) true = truthD d (cmpWith (alike a b) op a b).1 (cmpWith (alike a b) op a b).2 := by
      simp only [operD, if_neg o4, if_neg o5, if_neg o6, if_neg o7, if_neg o8, if_neg o9, if_neg o10, if_neg o11, if_neg o22, if_neg o19]
    rw [e0]
    have m1 := ref_compares op ho a b
    have i1 := ref_truth d (cmpWith (alike a b) op a b).1 (cmpWith (alike a b) op a b).2
    generalize cmpWith (alike a b) op a b = p at *
    simp only [dA, Dom.enc] at m1 i1
    clear ho hl ha hb e0
    refine acalls_k Tryz.func137 rfl (by kernel_rfl) (congrArg Array.toList Tryz.results137) Tryz.ntmps137 ?_
    intro R hR
    simp only [st0, List.length_cons, List.length_nil, Nat.reduceAdd, Nat.reduceSub, List.replicate_succ, List.replicate_zero, List.cons_append, List.nil_append]
    repeat' (first | (with_reducible refine a_seq_k ?_; intro K hK) | (with_reducible first | refine a_block ?_ | refine a_ret ?_ | refine a_exit ?_ | refine a_skip ?_ | exact ConfOk.mk (by kernel_rfl)) | ((fail_if_success with_reducible show False); with_reducible apply_assumption (exfalso := false) (symm := false) only [*, rfl, trivial, congrArg]) | with_reducible refine And.intro ?_ ?_ | (intro h; contradiction) | (intro h; subst h) | intro h | ((try (with_reducible first | refine a_region (by kernel_rfl) ?_ | (refine a_draw mixed (by kernel_rfl) ?_; intro C hC) | (refine a_cond_k ?_; intro X Y hX hY) | refine RetOk.mk ?_ | refine CallS.intro (m1) ?_ | refine CallD.intro (m1) ?_ | refine CallS.intro (i1) ?_ | refine CallD.intro (i1) ?_)); simp (maxSteps := 10000000) (implicitDefEqProofs := false) only [go_sem, Dom.enc, wr0, wr1, Int.toNat_zero, Int.toNat_one, o4, o5, o6, o7, o8, o9, o10, o11, o22, o19]))
  all_goals
    clear hl ha hb
    refine acalls_k Tryz.func137 rfl (by kernel_rfl) (congrArg Array.toList Tryz.results137) Tryz.ntmps137 ?_
    intro R hR
    simp only [st0, List.length_cons, List.length_nil, Nat.reduceAdd, Nat.reduceSub, List.replicate_succ, List.replicate_zero, List.cons_append, List.nil_append]
    repeat' (first | (with_reducible refine a_seq_k ?_; intro K hK) | (with_reducible first | refine a_block ?_ | refine a_ret ?_ | refine a_exit ?_ | refine a_skip ?_ | exact ConfOk.mk (by kernel_rfl)) | ((fail_if_success with_reducible show False); with_reducible apply_assumption (exfalso := false) (symm := false) only [*, rfl, trivial, congrArg]) | with_reducible refine And.intro ?_ ?_ | (intro h; contradiction) | (intro h; subst h) | intro h | ((try (with_reducible first | refine a_region (by kernel_rfl) ?_ | (refine a_draw mixed (by kernel_rfl) ?_; intro C hC) | (refine a_cond_k ?_; intro X Y hX hY) | refine RetOk.mk ?_ | refine CallS.intro (m1) ?_ | refine CallD.intro (m1) ?_ | refine CallS.intro (m2) ?_ | refine CallD.intro (m2) ?_ | refine CallS.intro (m3) ?_ | refine CallD.intro (m3) ?_ | refine CallS.intro (m4) ?_ | refine CallD.intro (m4) ?_ | refine CallS.intro (i1) ?_ | refine CallD.intro (i1) ?_)); simp (maxSteps := 10000000) (implicitDefEqProofs := false) only [go_sem, Dom.enc, wr0, wr1, Int.toNat_zero, Int.toNat_one]))
end Go.Proofs.YtoggbjfjmbjegaaGreatDoor
