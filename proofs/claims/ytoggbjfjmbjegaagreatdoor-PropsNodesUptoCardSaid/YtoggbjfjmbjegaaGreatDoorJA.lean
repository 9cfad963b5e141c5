/- The kind of a node over columns in the document: jointerref08.SizeExpr, FormedExpr, exprKind, Kind. The kind of a node over columns in the document: jointerref08.FormedExpr, exprKind, Kind. -/
import Derived.Test.YtoggbjfjmbjegaaGreatDoorFD
import Derived.Test.YtoggbjfjmbjegaaGreatDoorJB
set_option linter.unusedSimpArgs false
set_option linter.unusedVariables false
set_option linter.unusedSimpArgs false
set_option linter.unusedVariables false
namespace Go.Proofs.YtoggbjfjmbjegaaGreatDoor
open Go Go.Ab
-- @enc(Dom.enc, kd, dZ)@
attribute [local go_sem ↓] parts_tt parts_ff parts_tf parts_ft reduceIte
attribute [local go_sem] reduceCtorEq Nat.reduceAdd Nat.reduceSub Nat.reduceLeDiff Nat.reduceEqDiff Nat.reduceMul Nat.reduceLT Nat.reducePow Int.reduceEq Int.reduceLT Int.reduceLE Int.reduceGT Int.reduceGE Int.reduceAdd Int.reduceSub Int.reduceNeg Int.reduceToNat parts_eq learnT aops_nil aops_cons aopsD_nil aopsD_cons stepS stepD gval St.learn skipR St.after putτ applyUpd List.foldl_cons List.foldl_nil pureOp memOp callOf litA closeO closeK List.flatMap_cons List.flatMap_nil Option.map_none decide_false opnd ofConst leaf binA unA lenA indexA indexAddrA fieldAddrA fieldA weak_slice weak_nils weak_str weak_view weak_viewF weak_sliceF weak_ptr weak_cptr weak_rptr weak_sl weak_sl0 weak_any sliceFA_slice sliceFA_str sliceFA_view sliceFA_none sliceFA_some sameO sliceA convertA pickV fillA placeS cellsA setA partA loadM storeM appendM srcEls lookBox lookRow lookMap closeL closeV scalarB scalarL killed buildEls lookupA leafEq eqAll resA resL tupA retA thenA blockA isInt loA hiA foldA maxA minA okSize leafB closedB Res.foot List.getD_cons_zero List.getD_cons_succ List.set_cons_zero List.set_cons_succ List.map_cons List.map_nil List.append_nil List.nil_append List.cons_append List.length_cons List.length_nil List.take_succ_cons List.take_zero List.drop_succ_cons List.drop_zero List.take_nil List.drop_nil List.all_cons List.all_nil List.getElem?_toArray List.getElem?_cons_zero List.getElem?_cons_succ Option.bind_some Option.map_some true_and and_true true_implies ne_eq not_true_eq_false not_false_eq_true Bool.true_eq_false Bool.false_eq_true Bool.not_true Bool.not_false decide_eq_true_eq decide_eq_false_iff_not false_implies implies_true and_self ite_true ite_false cond_true cond_false Option.some.injEq List.reverse_cons List.reverse_nil Bool.and_self Bool.true_and Bool.and_true Bool.false_and Bool.and_false Bool.or_true Bool.true_or Bool.or_false Bool.false_or Bool.not_eq_eq_eq_not Bool.not_not Bool.or_self beq_self_eq_true and_false false_and or_true true_or or_false false_or not_true not_false_iff Decidable.not_not lookT lookR tabT tabR Int.toNat_natCast List.length_map List.map_append List.length_append decide_true decide_false tmod2 List.mem_singleton forall_eq elOk1 elOk3 elOk4 castn0 castn1 castn2 castn3 getD_mid getD_mid_map at_lt at_end mid_lt mid_lt' nat_ge List.size_toArray Array.size_empty Nat.add_zero Nat.zero_add
attribute [local irreducible] ASpec ACalls retA ti EqT
set_option linter.unusedSimpArgs false
set_option maxHeartbeats 4000000
set_option maxRecDepth 100000
set_option linter.unusedVariables false
attribute [local go_sem] ti2 ti3 ti4 ti5 ti9 ti21 ti22 ti23 ti24 ti26 ti27 ti28 ti30 ti33 ti34 ti37 ti41 ti42 ti46 ti52 ti56 ti68 ti69 ti73 ti78 ti86 ti89 ti99 ti117 ti122 ti123 ti124 ti144 ti166 ti173 ti174 ti190 ti191 ti199 ti245 ti247 ti257 ti271 ti288 ti290 ti343
attribute [local go_sem] memS memS0 memT allocB
@[simp] theorem szI_zero : szI 0 = 1 := rfl
theorem szI_big {n : Nat} (h : 400 ≤ n) : szI n = 401 := if_pos h
theorem szI_small {n : Nat} (h : ¬ 400 ≤ n) : szI n = (n : Int) + 1 := if_neg h
theorem ref_grow (a b : Int) (h : 0 ≤ a ∧ a ≤ 1000 ∧ 0 ≤ b ∧ b ≤ 1000) : ACalls Tryz.prog 48 [.int .i64 a, .int .i64 b] (.int .i64 (if 400 < a + b then 401 else a + b)) := by
  have w := wrapI (a + b) (by omega)
  clear h
  refine acalls_k Tryz.func48 rfl (by kernel_rfl) (congrArg Array.toList Tryz.results48) Tryz.ntmps48 ?_
  intro R hR
  simp only [st0, List.length_cons, List.length_nil, Nat.reduceAdd, Nat.reduceSub, List.replicate_succ, List.replicate_zero, List.cons_append, List.nil_append]
  repeat' (first | (with_reducible refine a_seq_k ?_; intro K hK) | (with_reducible first | refine a_block ?_ | refine a_ret ?_ | refine a_exit ?_ | refine a_skip ?_ | exact ConfOk.mk (by kernel_rfl)) | ((fail_if_success with_reducible show False); with_reducible apply_assumption (exfalso := false) (symm := false) only [*, rfl, trivial, congrArg]) | with_reducible refine And.intro ?_ ?_ | (intro h; contradiction) | (intro h; subst h) | intro h | ((try (with_reducible first | refine a_region (by kernel_rfl) ?_ | (refine a_draw mixed (by kernel_rfl) ?_; intro C hC) | (refine a_cond_k ?_; intro X Y hX hY) | refine RetOk.mk ?_)); simp (maxSteps := 10000000) (implicitDefEqProofs := false) only [go_sem, w]))
  all_goals simp [*]
theorem size8_leaf (z : Dom × Nat) : ACalls Tryz.prog 24 [.agg (leafZ z)] (.int .i64 1) := by
  refine acalls_k Tryz.func24 rfl (by kernel_rfl) (congrArg Array.toList Tryz.results24) Tryz.ntmps24 ?_
  intro R hR
  simp only [st0, List.length_cons, List.length_nil, Nat.reduceAdd, Nat.reduceSub, List.replicate_succ, List.replicate_zero, List.cons_append, List.nil_append]
  repeat' (first | (with_reducible refine a_seq_k ?_; intro K hK) | (with_reducible first | refine a_block ?_ | refine a_ret ?_ | refine a_exit ?_ | refine a_skip ?_ | exact ConfOk.mk (by kernel_rfl)) | ((fail_if_success with_reducible show False); with_reducible apply_assumption (exfalso := false) (symm := false) only [*, rfl, trivial, congrArg]) | with_reducible refine And.intro ?_ ?_ | (intro h; contradiction) | (intro h; subst h) | intro h | ((try (with_reducible first | refine a_region (by kernel_rfl) ?_ | (refine a_draw mixed (by kernel_rfl) ?_; intro C hC) | (refine a_cond_k ?_; intro X Y hX hY) | refine RetOk.mk ?_)); simp (maxSteps := 10000000) (implicitDefEqProofs := false) only [go_sem, leafZ, leafE]))
  refine a_once fun K1 => ?_
  repeat' (first | (with_reducible refine a_seq_k ?_; intro K hK) | (with_reducible first | refine a_block ?_ | refine a_ret ?_ | refine a_exit ?_ | refine a_skip ?_ | exact ConfOk.mk (by kernel_rfl)) | ((fail_if_success with_reducible show False); with_reducible apply_assumption (exfalso := false) (symm := false) only [*, rfl, trivial, congrArg]) | with_reducible refine And.intro ?_ ?_ | (intro h; contradiction) | (intro h; subst h) | intro h | ((try (with_reducible first | refine a_region (by kernel_rfl) ?_ | (refine a_draw mixed (by kernel_rfl) ?_; intro C hC) | (refine a_cond_k ?_; intro X Y hX hY) | refine RetOk.mk ?_)); simp (maxSteps := 10000000) (implicitDefEqProofs := false) only [go_sem]))
  refine a_once fun K2 => ?_
  repeat' (first | (with_reducible refine a_seq_k ?_; intro K hK) | (with_reducible first | refine a_block ?_ | refine a_ret ?_ | refine a_exit ?_ | refine a_skip ?_ | exact ConfOk.mk (by kernel_rfl)) | ((fail_if_success with_reducible show False); with_reducible apply_assumption (exfalso := false) (symm := false) only [*, rfl, trivial, congrArg]) | with_reducible refine And.intro ?_ ?_ | (intro h; contradiction) | (intro h; subst h) | intro h | ((try (with_reducible first | refine a_region (by kernel_rfl) ?_ | (refine a_draw mixed (by kernel_rfl) ?_; intro C hC) | (refine a_cond_k ?_; intro X Y hX hY) | refine RetOk.mk ?_)); simp (maxSteps := 10000000) (implicitDefEqProofs := false) only [go_sem]))
theorem size8_node (op : Int) (zs : Zs) (hl : zs.length < 2 ^ 40) : ACalls Tryz.prog 24 [.agg (nodeE op (.slice (zs.map leafZ)))] (.int .i64 (szI zs.length)) := by
  have hc := fun z => size8_leaf z
  simp only [leafZ, leafE] at hc
  refine acalls_k Tryz.func24 rfl (by kernel_rfl) (congrArg Array.toList Tryz.results24) Tryz.ntmps24 ?_
  intro R hR
  simp only [st0, List.length_cons, List.length_nil, Nat.reduceAdd, Nat.reduceSub, List.replicate_succ, List.replicate_zero, List.cons_append, List.nil_append]
  repeat' (first | (with_reducible refine a_seq_k ?_; intro K hK) | (with_reducible first | refine a_block ?_ | refine a_ret ?_ | refine a_exit ?_ | refine a_skip ?_ | exact ConfOk.mk (by kernel_rfl)) | ((fail_if_success with_reducible show False); with_reducible apply_assumption (exfalso := false) (symm := false) only [*, rfl, trivial, congrArg]) | with_reducible refine And.intro ?_ ?_ | (intro h; contradiction) | (intro h; subst h) | intro h | ((try (with_reducible first | refine a_region (by kernel_rfl) ?_ | (refine a_draw mixed (by kernel_rfl) ?_; intro C hC) | (refine a_cond_k ?_; intro X Y hX hY) | refine RetOk.mk ?_)); simp (maxSteps := 10000000) (implicitDefEqProofs := false) only [go_sem]))
  refine a_once fun K1 => ?_
  repeat' (first | (with_reducible refine a_seq_k ?_; intro K hK) | (with_reducible first | refine a_block ?_ | refine a_ret ?_ | refine a_exit ?_ | refine a_skip ?_ | exact ConfOk.mk (by kernel_rfl)) | ((fail_if_success with_reducible show False); with_reducible apply_assumption (exfalso := false) (symm := false) only [*, rfl, trivial, congrArg]) | with_reducible refine And.intro ?_ ?_ | (intro h; contradiction) | (intro h; subst h) | intro h | ((try (with_reducible first | refine a_region (by kernel_rfl) ?_ | (refine a_draw mixed (by kernel_rfl) ?_; intro C hC) | (refine a_cond_k ?_; intro X Y hX hY) | refine RetOk.mk ?_)); simp (maxSteps := 10000000) (implicitDefEqProofs := false) only [go_sem]))
  refine a_loop_k (fun n st => ∃ (g : Nat) (pre rest : List _) (u : Unit), zs = pre ++ rest ∧ n = rest.length ∧ (True) ∧ Has st 45 [(1, .ptr 1 0 0), (3, .int .i64 (szI pre.length)), (5, .int .i64 pre.length)] [(1, .box 0 (nodeE op (.slice (zs.map leafZ))))]) (zs).length ⟨0, [], zs, (), rfl, rfl, trivial, ⟨rfl, rfl, by simp [Dom.enc, kd, dZ], by simp [Dom.enc, kd, dZ]⟩⟩ ?_
  rintro n st ⟨g, pre, rest, u, he, rfl, hp, hs⟩ K hK
  have hw := wrap_nat pre.length (by have := congrArg List.length he; simp at this; omega)
  subst he
  refine a_has hs fun τ σ γ => ?_
  rcases rest with _ | ⟨x, rest⟩
  · simp only [List.append_nil] at *
    repeat' (first | (with_reducible refine a_seq_k ?_; intro K hK) | (with_reducible first | refine a_block ?_ | refine a_ret ?_ | refine a_exit ?_ | refine a_skip ?_ | exact ConfOk.mk (by kernel_rfl)) | ((fail_if_success with_reducible show False); with_reducible apply_assumption (exfalso := false) (symm := false) only [*, rfl, trivial, congrArg]) | with_reducible refine And.intro ?_ ?_ | (intro h; contradiction) | (intro h; subst h) | intro h | ((try (with_reducible first | refine a_region (by kernel_rfl) ?_ | (refine a_draw mixed (by kernel_rfl) ?_; intro C hC) | (refine a_cond_k ?_; intro X Y hX hY) | refine RetOk.mk ?_)); simp (maxSteps := 10000000) (implicitDefEqProofs := false) only [go_sem]))
  · by_cases hn : 400 ≤ pre.length
    · have e1 := szI_big hn
      have e2 : szI (pre.length + (rest.length + 1)) = 401 := szI_big (by omega)
      simp only [e1]
      repeat' (first | (with_reducible refine a_seq_k ?_; intro K hK) | (with_reducible first | refine a_block ?_ | refine a_ret ?_ | refine a_exit ?_ | refine a_skip ?_ | exact ConfOk.mk (by kernel_rfl)) | ((fail_if_success with_reducible show False); with_reducible apply_assumption (exfalso := false) (symm := false) only [*, rfl, trivial, congrArg]) | with_reducible refine And.intro ?_ ?_ | (intro h; contradiction) | (intro h; subst h) | intro h | ((try (with_reducible first | refine a_region (by kernel_rfl) ?_ | (refine a_draw mixed (by kernel_rfl) ?_; intro C hC) | (refine a_cond_k ?_; intro X Y hX hY) | refine RetOk.mk ?_)); simp (maxSteps := 10000000) (implicitDefEqProofs := false) only [go_sem, e2]))
    · have e1 := szI_small hn
      have hg := ref_grow (szI pre.length) 1 (by omega)
      have e3 : (if 400 < szI pre.length + 1 then 401 else szI pre.length + 1) = szI (pre.length + 1) := by
        rw [e1]; unfold szI; split <;> split <;> omega
      rw [e3] at hg
      have c1 : (szI pre.length ≤ 400) = True := by rw [e1]; simp; omega
      clear e1 e3
      repeat' (first | (with_reducible refine a_seq_k ?_; intro K hK) | (with_reducible first | refine a_block ?_ | refine a_ret ?_ | refine a_exit ?_ | refine a_skip ?_ | exact ConfOk.mk (by kernel_rfl)) | ((fail_if_success with_reducible show False); with_reducible apply_assumption (exfalso := false) (symm := false) only [*, rfl, trivial, congrArg]) | with_reducible refine And.intro ?_ ?_ | (intro h; contradiction) | (intro h; subst h) | intro h | ((try (with_reducible first | refine a_region (by kernel_rfl) ?_ | (refine a_draw mixed (by kernel_rfl) ?_; intro C hC) | (refine a_cond_k ?_; intro X Y hX hY) | refine RetOk.mk ?_ | refine CallS.intro (hc x) ?_ | refine CallD.intro (hc x) ?_ | refine CallS.intro (hg) ?_ | refine CallD.intro (hg) ?_)); simp (maxSteps := 10000000) (implicitDefEqProofs := false) only [go_sem, hw, c1, leafZ, leafE]))
      all_goals exact ⟨⟨rest.length, by simp, 0, pre ++ [x], rest, (), by simp, rfl, ⟨rfl, rfl, by simp, by simp⟩⟩⟩
theorem size8_nil (op : Int) : ACalls Tryz.prog 24 [.agg (nodeE op .nils)] (.int .i64 1) := by
  refine acalls_k Tryz.func24 rfl (by kernel_rfl) (congrArg Array.toList Tryz.results24) Tryz.ntmps24 ?_
  intro R hR
  simp only [st0, List.length_cons, List.length_nil, Nat.reduceAdd, Nat.reduceSub, List.replicate_succ, List.replicate_zero, List.cons_append, List.nil_append]
  repeat' (first | (with_reducible refine a_seq_k ?_; intro K hK) | (with_reducible first | refine a_block ?_ | refine a_ret ?_ | refine a_exit ?_ | refine a_skip ?_ | exact ConfOk.mk (by kernel_rfl)) | ((fail_if_success with_reducible show False); with_reducible apply_assumption (exfalso := false) (symm := false) only [*, rfl, trivial, congrArg]) | with_reducible refine And.intro ?_ ?_ | (intro h; contradiction) | (intro h; subst h) | intro h | ((try (with_reducible first | refine a_region (by kernel_rfl) ?_ | (refine a_draw mixed (by kernel_rfl) ?_; intro C hC) | (refine a_cond_k ?_; intro X Y hX hY) | refine RetOk.mk ?_)); simp (maxSteps := 10000000) (implicitDefEqProofs := false) only [go_sem]))
  refine a_once fun K1 => ?_
  repeat' (first | (with_reducible refine a_seq_k ?_; intro K hK) | (with_reducible first | refine a_block ?_ | refine a_ret ?_ | refine a_exit ?_ | refine a_skip ?_ | exact ConfOk.mk (by kernel_rfl)) | ((fail_if_success with_reducible show False); with_reducible apply_assumption (exfalso := false) (symm := false) only [*, rfl, trivial, congrArg]) | with_reducible refine And.intro ?_ ?_ | (intro h; contradiction) | (intro h; subst h) | intro h | ((try (with_reducible first | refine a_region (by kernel_rfl) ?_ | (refine a_draw mixed (by kernel_rfl) ?_; intro C hC) | (refine a_cond_k ?_; intro X Y hX hY) | refine RetOk.mk ?_)); simp (maxSteps := 10000000) (implicitDefEqProofs := false) only [go_sem]))
  refine a_once fun K2 => ?_
  repeat' (first | (with_reducible refine a_seq_k ?_; intro K hK) | (with_reducible first | refine a_block ?_ | refine a_ret ?_ | refine a_exit ?_ | refine a_skip ?_ | exact ConfOk.mk (by kernel_rfl)) | ((fail_if_success with_reducible show False); with_reducible apply_assumption (exfalso := false) (symm := false) only [*, rfl, trivial, congrArg]) | with_reducible refine And.intro ?_ ?_ | (intro h; contradiction) | (intro h; subst h) | intro h | ((try (with_reducible first | refine a_region (by kernel_rfl) ?_ | (refine a_draw mixed (by kernel_rfl) ?_; intro C hC) | (refine a_cond_k ?_; intro X Y hX hY) | refine RetOk.mk ?_)); simp (maxSteps := 10000000) (implicitDefEqProofs := false) only [go_sem]))
theorem ref_kindsExist (ks : List Dom) (hl : ks.length < 2 ^ 40) : ACalls Tryz.prog 23 [kinds1 ks] (.bool (ks.all fun k => decide (k.kind ≤ 3))) := by
  obtain ⟨res, hres⟩ : ∃ b, b = ks.all fun k => decide (k.kind ≤ 3) := ⟨_, rfl⟩
  rw [← hres]
  refine acalls_k Tryz.func23 rfl (by kernel_rfl) (congrArg Array.toList Tryz.results23) Tryz.ntmps23 ?_
  intro R hR
  simp only [st0, List.length_cons, List.length_nil, Nat.reduceAdd, Nat.reduceSub, List.replicate_succ, List.replicate_zero, List.cons_append, List.nil_append]
  repeat' (first | (with_reducible refine a_seq_k ?_; intro K hK) | (with_reducible first | refine a_block ?_ | refine a_ret ?_ | refine a_exit ?_ | refine a_skip ?_ | exact ConfOk.mk (by kernel_rfl)) | ((fail_if_success with_reducible show False); with_reducible apply_assumption (exfalso := false) (symm := false) only [*, rfl, trivial, congrArg]) | with_reducible refine And.intro ?_ ?_ | (intro h; contradiction) | (intro h; subst h) | intro h | ((try (with_reducible first | refine a_region (by kernel_rfl) ?_ | (refine a_draw mixed (by kernel_rfl) ?_; intro C hC) | (refine a_cond_k ?_; intro X Y hX hY) | refine RetOk.mk ?_)); simp (maxSteps := 10000000) (implicitDefEqProofs := false) only [go_sem]))
  refine a_loop_k (fun m st => (m = 1 ∧ Has st 28 [(0, kinds1 ks), (3, .int .i64 0)] []) ∨ (m = 0 ∧ res = true ∧ Has st 28 [(0, kinds1 ks), (3, .int .i64 1)] [])) 1 (.inl ⟨rfl, ⟨rfl, rfl, by simp, by simp⟩⟩) ?_
  rintro m st (⟨rfl, hs⟩ | ⟨rfl, hb, hs⟩) K0 hK0
  · refine a_has hs fun τ σ γ => ?_
    repeat' (first | (with_reducible refine a_seq_k ?_; intro K hK) | (with_reducible first | refine a_block ?_ | refine a_ret ?_ | refine a_exit ?_ | refine a_skip ?_ | exact ConfOk.mk (by kernel_rfl)) | ((fail_if_success with_reducible show False); with_reducible apply_assumption (exfalso := false) (symm := false) only [*, rfl, trivial, congrArg]) | with_reducible refine And.intro ?_ ?_ | (intro h; contradiction) | (intro h; subst h) | intro h | ((try (with_reducible first | refine a_region (by kernel_rfl) ?_ | (refine a_draw mixed (by kernel_rfl) ?_; intro C hC) | (refine a_cond_k ?_; intro X Y hX hY) | refine RetOk.mk ?_)); simp (maxSteps := 10000000) (implicitDefEqProofs := false) only [go_sem]))
    refine a_loop_k (fun n st => ∃ (g : Nat) (pre rest : List _) (u : Unit), ks = pre ++ rest ∧ n = rest.length ∧ ((pre.all fun k => decide (k.kind ≤ 3)) = true) ∧ Has st 28 [(0, kinds1 ks), (3, .int .i64 0), (4, .int .i64 pre.length)] []) (ks).length ⟨0, [], ks, (), rfl, rfl, rfl, ⟨rfl, rfl, by simp [Dom.enc, kd, dZ], by simp [Dom.enc, kd, dZ]⟩⟩ ?_
    rintro n st ⟨g, pre, rest, u, he, rfl, hp, hs⟩ K hK
    have hw := wrap_nat pre.length (by have := congrArg List.length he; simp at this; omega)
    subst he
    refine a_has hs fun τ σ γ => ?_
    rcases rest with _ | ⟨x, rest⟩
    · simp only [List.append_nil] at *
      repeat' (first | (with_reducible refine a_seq_k ?_; intro K hK) | (with_reducible first | refine a_block ?_ | refine a_ret ?_ | refine a_exit ?_ | refine a_skip ?_ | exact ConfOk.mk (by kernel_rfl)) | ((fail_if_success with_reducible show False); with_reducible apply_assumption (exfalso := false) (symm := false) only [*, rfl, trivial, congrArg]) | with_reducible refine And.intro ?_ ?_ | (intro h; contradiction) | (intro h; subst h) | intro h | ((try (with_reducible first | refine a_region (by kernel_rfl) ?_ | (refine a_draw mixed (by kernel_rfl) ?_; intro C hC) | (refine a_cond_k ?_; intro X Y hX hY) | refine RetOk.mk ?_)); simp (maxSteps := 10000000) (implicitDefEqProofs := false) only [go_sem, wr1]))
      all_goals exact ⟨⟨0, by omega, .inr ⟨rfl, by rw [hres, hp], ⟨rfl, rfl, by simp, by simp⟩⟩⟩⟩
    · repeat' (first | (with_reducible refine a_seq_k ?_; intro K hK) | (with_reducible first | refine a_block ?_ | refine a_ret ?_ | refine a_exit ?_ | refine a_skip ?_ | exact ConfOk.mk (by kernel_rfl)) | ((fail_if_success with_reducible show False); with_reducible apply_assumption (exfalso := false) (symm := false) only [*, rfl, trivial, congrArg]) | with_reducible refine And.intro ?_ ?_ | (intro h; contradiction) | (intro h; subst h) | intro h | ((try (with_reducible first | refine a_region (by kernel_rfl) ?_ | (refine a_draw mixed (by kernel_rfl) ?_; intro C hC) | (refine a_cond_k ?_; intro X Y hX hY) | refine RetOk.mk ?_)); simp (maxSteps := 10000000) (implicitDefEqProofs := false) only [go_sem, hw]))
      all_goals first
        | (rw [hres]; simp [*]; done)
        | (rw [hres]; simp; intros; omega)
        | exact ⟨⟨rest.length, by simp, 0, pre ++ [x], rest, (), by simp, rfl, by simp [*]; omega, ⟨rfl, rfl, by simp [Dom.enc, kd, dZ], by simp [Dom.enc, kd, dZ]⟩⟩⟩
        | exact ⟨⟨rest.length, by simp, 0, pre ++ [x], rest, (), by simp, rfl, by simp [*], ⟨rfl, rfl, by simp [Dom.enc, kd, dZ], by simp [Dom.enc, kd, dZ]⟩⟩⟩
  · refine a_has hs fun τ σ γ => ?_
    subst hb
    repeat' (first | (with_reducible refine a_seq_k ?_; intro K hK) | (with_reducible first | refine a_block ?_ | refine a_ret ?_ | refine a_exit ?_ | refine a_skip ?_ | exact ConfOk.mk (by kernel_rfl)) | ((fail_if_success with_reducible show False); with_reducible apply_assumption (exfalso := false) (symm := false) only [*, rfl, trivial, congrArg]) | with_reducible refine And.intro ?_ ?_ | (intro h; contradiction) | (intro h; subst h) | intro h | ((try (with_reducible first | refine a_region (by kernel_rfl) ?_ | (refine a_draw mixed (by kernel_rfl) ?_; intro C hC) | (refine a_cond_k ?_; intro X Y hX hY) | refine RetOk.mk ?_)); simp (maxSteps := 10000000) (implicitDefEqProofs := false) only [go_sem]))
theorem ref_number (n : Nat) (h : n ≤ 2147483647) : ACalls Tryz.prog 103 [.int .i64 n] (.bool true) := by
  have c1 : ((n : Int) ≤ 2147483647) = True := by simp; omega
  refine acalls_k Tryz.func103 rfl (by kernel_rfl) (congrArg Array.toList Tryz.results103) Tryz.ntmps103 ?_
  intro R hR
  simp only [st0, List.length_cons, List.length_nil, Nat.reduceAdd, Nat.reduceSub, List.replicate_succ, List.replicate_zero, List.cons_append, List.nil_append]
  repeat' (first | (with_reducible refine a_seq_k ?_; intro K hK) | (with_reducible first | refine a_block ?_ | refine a_ret ?_ | refine a_exit ?_ | refine a_skip ?_ | exact ConfOk.mk (by kernel_rfl)) | ((fail_if_success with_reducible show False); with_reducible apply_assumption (exfalso := false) (symm := false) only [*, rfl, trivial, congrArg]) | with_reducible refine And.intro ?_ ?_ | (intro h; contradiction) | (intro h; subst h) | intro h | ((try (with_reducible first | refine a_region (by kernel_rfl) ?_ | (refine a_draw mixed (by kernel_rfl) ?_; intro C hC) | (refine a_cond_k ?_; intro X Y hX hY) | refine RetOk.mk ?_)); simp (maxSteps := 10000000) (implicitDefEqProofs := false) only [go_sem, c1]))
theorem ref_HasSub (op : Int) : ACalls Tryz.prog 104 [.int .u8 op] (.bool (decide (op = 27) || (decide (op = 28) || decide (op = 29)))) := by
  refine acalls_k Tryz.func104 rfl (by kernel_rfl) (congrArg Array.toList Tryz.results104) Tryz.ntmps104 ?_
  intro R hR
  simp only [st0, List.length_cons, List.length_nil, Nat.reduceAdd, Nat.reduceSub, List.replicate_succ, List.replicate_zero, List.cons_append, List.nil_append]
  repeat' (first | (with_reducible refine a_seq_k ?_; intro K hK) | (with_reducible first | refine a_block ?_ | refine a_ret ?_ | refine a_exit ?_ | refine a_skip ?_ | exact ConfOk.mk (by kernel_rfl)) | ((fail_if_success with_reducible show False); with_reducible apply_assumption (exfalso := false) (symm := false) only [*, rfl, trivial, congrArg]) | with_reducible refine And.intro ?_ ?_ | (intro h; contradiction) | (intro h; subst h) | intro h | ((try (with_reducible first | refine a_region (by kernel_rfl) ?_ | (refine a_draw mixed (by kernel_rfl) ?_; intro C hC) | (refine a_cond_k ?_; intro X Y hX hY) | refine RetOk.mk ?_)); simp (maxSteps := 10000000) (implicitDefEqProofs := false) only [go_sem]))
  all_goals simp [*]
theorem ref_Listed (op : Int) : ACalls Tryz.prog 100 [.int .u8 op] (.bool (decide (op ≤ 29) && (decide (op ≠ 1) && decide (op ≠ 3)))) := by
  refine acalls_k Tryz.func100 rfl (by kernel_rfl) (congrArg Array.toList Tryz.results100) Tryz.ntmps100 ?_
  intro R hR
  simp only [st0, List.length_cons, List.length_nil, Nat.reduceAdd, Nat.reduceSub, List.replicate_succ, List.replicate_zero, List.cons_append, List.nil_append]
  repeat' (first | (with_reducible refine a_seq_k ?_; intro K hK) | (with_reducible first | refine a_block ?_ | refine a_ret ?_ | refine a_exit ?_ | refine a_skip ?_ | exact ConfOk.mk (by kernel_rfl)) | ((fail_if_success with_reducible show False); with_reducible apply_assumption (exfalso := false) (symm := false) only [*, rfl, trivial, congrArg]) | with_reducible refine And.intro ?_ ?_ | (intro h; contradiction) | (intro h; subst h) | intro h | ((try (with_reducible first | refine a_region (by kernel_rfl) ?_ | (refine a_draw mixed (by kernel_rfl) ?_; intro C hC) | (refine a_cond_k ?_; intro X Y hX hY) | refine RetOk.mk ?_)); simp (maxSteps := 10000000) (implicitDefEqProofs := false) only [go_sem]))
  all_goals simp [*]
theorem vOk0 : vOk 0 0 ⟨#[]⟩ = true := by simp [vOk]
theorem fnode8_leaf (z : Dom × Nat) (h : z.2 ≤ 2147483647) : ACalls Tryz.prog 50 [.agg (leafZ z)] (.bool true) := by
  have h1 := ref_Listed 2
  have h2 := ref_HasSub 2
  have h3 := ref_vSame 0 0 ⟨#[]⟩ 0 0 ⟨#[]⟩
  have h4 := ref_number z.2 h
  have h5 := ref_number 0 (by omega)
  simp only [vA, decide_true, Bool.and_self] at h3
  simp only [show (decide ((2 : Int) ≤ 29) && (decide ((2 : Int) ≠ 1) && decide ((2 : Int) ≠ 3))) = true from rfl] at h1
  simp only [show (decide ((2 : Int) = 27) || (decide ((2 : Int) = 28) || decide ((2 : Int) = 29))) = false from rfl] at h2
  refine acalls_k Tryz.func50 rfl (by kernel_rfl) (congrArg Array.toList Tryz.results50) Tryz.ntmps50 ?_
  intro R hR
  simp only [st0, List.length_cons, List.length_nil, Nat.reduceAdd, Nat.reduceSub, List.replicate_succ, List.replicate_zero, List.cons_append, List.nil_append]
  repeat' (first | (with_reducible refine a_seq_k ?_; intro K hK) | (with_reducible first | refine a_block ?_ | refine a_ret ?_ | refine a_exit ?_ | refine a_skip ?_ | exact ConfOk.mk (by kernel_rfl)) | ((fail_if_success with_reducible show False); with_reducible apply_assumption (exfalso := false) (symm := false) only [*, rfl, trivial, congrArg]) | with_reducible refine And.intro ?_ ?_ | (intro h; contradiction) | (intro h; subst h) | intro h | ((try (with_reducible first | refine a_region (by kernel_rfl) ?_ | (refine a_draw mixed (by kernel_rfl) ?_; intro C hC) | (refine a_cond_k ?_; intro X Y hX hY) | refine RetOk.mk ?_ | refine CallS.intro (h1) ?_ | refine CallD.intro (h1) ?_ | refine CallS.intro (h2) ?_ | refine CallD.intro (h2) ?_ | refine CallS.intro (h3) ?_ | refine CallD.intro (h3) ?_ | refine CallS.intro (h4) ?_ | refine CallD.intro (h4) ?_ | refine CallS.intro (h5) ?_ | refine CallD.intro (h5) ?_)); simp (maxSteps := 10000000) (implicitDefEqProofs := false) only [go_sem, leafZ, leafE]))
theorem fnode8 (op : Int) (h0 : 0 ≤ op) (ks : AV) (n : Nat) (hk : (ks = .nils ∧ n = 0) ∨ ∃ zs : Zs, ks = .slice (zs.map leafZ) ∧ n = zs.length) : ACalls Tryz.prog 50 [.agg (nodeE op ks)] (.bool (fmtP op n)) := by
  have h1 := ref_Listed op
  have h2 := ref_HasSub op
  have h3 := ref_vSame 0 0 ⟨#[]⟩ 0 0 ⟨#[]⟩
  have h4 := ref_vValid 0 0 ⟨#[]⟩
  have h5 := ref_number 0 (by omega)
  simp only [vA, decide_true, Bool.and_self, vOk0] at h3 h4
  have hf : fmtP op n = ((decide (op ≤ 29) && (decide (op ≠ 1) && decide (op ≠ 3))) && (!(decide (op = 27) || (decide (op = 28) || decide (op = 29))) && (decide (op ≠ 0) && decide (op ≠ 2) || decide (n = 0)))) := by
    rw [Bool.eq_iff_iff]
    simp only [fmtP, Bool.or_eq_true, Bool.and_eq_true, decide_eq_true_eq, Bool.not_eq_true', Bool.or_eq_false_iff, decide_eq_false_iff_not]
    omega
  rw [hf]
  clear hf
  have h28 : (decide (op = 27) || (decide (op = 28) || decide (op = 29))) = false → op ≠ 28 := by
    intro h e; subst e; simp at h
  generalize (decide (op ≤ 29) && (decide (op ≠ 1) && decide (op ≠ 3))) = b1 at *
  generalize (decide (op = 27) || (decide (op = 28) || decide (op = 29))) = b2 at *
  cases b1
  · rcases hk with ⟨rfl, rfl⟩ | ⟨zs, rfl, rfl⟩
    all_goals
      refine acalls_k Tryz.func50 rfl (by kernel_rfl) (congrArg Array.toList Tryz.results50) Tryz.ntmps50 ?_
      intro R hR
      simp only [st0, List.length_cons, List.length_nil, Nat.reduceAdd, Nat.reduceSub, List.replicate_succ, List.replicate_zero, List.cons_append, List.nil_append]
      repeat' (first | (with_reducible refine a_seq_k ?_; intro K hK) | (with_reducible first | refine a_block ?_ | refine a_ret ?_ | refine a_exit ?_ | refine a_skip ?_ | exact ConfOk.mk (by kernel_rfl)) | ((fail_if_success with_reducible show False); with_reducible apply_assumption (exfalso := false) (symm := false) only [*, rfl, trivial, congrArg]) | with_reducible refine And.intro ?_ ?_ | (intro h; contradiction) | (intro h; subst h) | intro h | ((try (with_reducible first | refine a_region (by kernel_rfl) ?_ | (refine a_draw mixed (by kernel_rfl) ?_; intro C hC) | (refine a_cond_k ?_; intro X Y hX hY) | refine RetOk.mk ?_ | refine CallS.intro (h1) ?_ | refine CallD.intro (h1) ?_)); simp (maxSteps := 10000000) (implicitDefEqProofs := false) only [go_sem]))
  · cases b2
    · have o28 := h28 rfl
      clear h28
      rcases hk with ⟨rfl, rfl⟩ | ⟨zs, rfl, rfl⟩
      all_goals
        refine acalls_k Tryz.func50 rfl (by kernel_rfl) (congrArg Array.toList Tryz.results50) Tryz.ntmps50 ?_
        intro R hR
        simp only [st0, List.length_cons, List.length_nil, Nat.reduceAdd, Nat.reduceSub, List.replicate_succ, List.replicate_zero, List.cons_append, List.nil_append]
        repeat' (first | (with_reducible refine a_seq_k ?_; intro K hK) | (with_reducible first | refine a_block ?_ | refine a_ret ?_ | refine a_exit ?_ | refine a_skip ?_ | exact ConfOk.mk (by kernel_rfl)) | ((fail_if_success with_reducible show False); with_reducible apply_assumption (exfalso := false) (symm := false) only [*, rfl, trivial, congrArg]) | with_reducible refine And.intro ?_ ?_ | (intro h; contradiction) | (intro h; subst h) | intro h | ((try (with_reducible first | refine a_region (by kernel_rfl) ?_ | (refine a_draw mixed (by kernel_rfl) ?_; intro C hC) | (refine a_cond_k ?_; intro X Y hX hY) | refine RetOk.mk ?_ | refine CallS.intro (h1) ?_ | refine CallD.intro (h1) ?_ | refine CallS.intro (h2) ?_ | refine CallD.intro (h2) ?_ | refine CallS.intro (h3) ?_ | refine CallD.intro (h3) ?_ | refine CallS.intro (h4) ?_ | refine CallD.intro (h4) ?_ | refine CallS.intro (h5) ?_ | refine CallD.intro (h5) ?_)); simp (maxSteps := 10000000) (implicitDefEqProofs := false) only [go_sem, o28]))
        all_goals (first | (simp [*]; done) | skip)
    · clear h28
      rcases hk with ⟨rfl, rfl⟩ | ⟨zs, rfl, rfl⟩
      all_goals
        refine acalls_k Tryz.func50 rfl (by kernel_rfl) (congrArg Array.toList Tryz.results50) Tryz.ntmps50 ?_
        intro R hR
        simp only [st0, List.length_cons, List.length_nil, Nat.reduceAdd, Nat.reduceSub, List.replicate_succ, List.replicate_zero, List.cons_append, List.nil_append]
        repeat' (first | (with_reducible refine a_seq_k ?_; intro K hK) | (with_reducible first | refine a_block ?_ | refine a_ret ?_ | refine a_exit ?_ | refine a_skip ?_ | exact ConfOk.mk (by kernel_rfl)) | ((fail_if_success with_reducible show False); with_reducible apply_assumption (exfalso := false) (symm := false) only [*, rfl, trivial, congrArg]) | with_reducible refine And.intro ?_ ?_ | (intro h; contradiction) | (intro h; subst h) | intro h | ((try (with_reducible first | refine a_region (by kernel_rfl) ?_ | (refine a_draw mixed (by kernel_rfl) ?_; intro C hC) | (refine a_cond_k ?_; intro X Y hX hY) | refine RetOk.mk ?_ | refine CallS.intro (h1) ?_ | refine CallD.intro (h1) ?_ | refine CallS.intro (h2) ?_ | refine CallD.intro (h2) ?_ | refine CallS.intro (h3) ?_ | refine CallD.intro (h3) ?_ | refine CallS.intro (h4) ?_ | refine CallD.intro (h4) ?_ | refine CallS.intro (h5) ?_ | refine CallD.intro (h5) ?_)); simp (maxSteps := 10000000) (implicitDefEqProofs := false) only [go_sem]))
        all_goals (first | (simp [*]; done) | skip)
-- @enc(Dom.enc, kd, dZ)@
attribute [local go_sem] memS memS0 memT allocB
theorem form8_leaf (z : Dom × Nat) (h : z.2 ≤ 2147483647) : ACalls Tryz.prog 25 [.agg (leafZ z)] (.bool true) := by
  have h1 := fnode8_leaf z h
  simp only [leafZ, leafE] at h1
  refine acalls_k Tryz.func25 rfl (by kernel_rfl) (congrArg Array.toList Tryz.results25) Tryz.ntmps25 ?_
  intro R hR
  simp only [st0, List.length_cons, List.length_nil, Nat.reduceAdd, Nat.reduceSub, List.replicate_succ, List.replicate_zero, List.cons_append, List.nil_append]
  repeat' (first | (with_reducible refine a_seq_k ?_; intro K hK) | (with_reducible first | refine a_block ?_ | refine a_ret ?_ | refine a_exit ?_ | refine a_skip ?_ | exact ConfOk.mk (by kernel_rfl)) | ((fail_if_success with_reducible show False); with_reducible apply_assumption (exfalso := false) (symm := false) only [*, rfl, trivial, congrArg]) | with_reducible refine And.intro ?_ ?_ | (intro h; contradiction) | (intro h; subst h) | intro h | ((try (with_reducible first | refine a_region (by kernel_rfl) ?_ | (refine a_draw mixed (by kernel_rfl) ?_; intro C hC) | (refine a_cond_k ?_; intro X Y hX hY) | refine RetOk.mk ?_ | refine CallS.intro (h1) ?_ | refine CallD.intro (h1) ?_)); simp (maxSteps := 10000000) (implicitDefEqProofs := false) only [go_sem, leafZ, leafE]))
  refine a_once fun K1 => ?_
  repeat' (first | (with_reducible refine a_seq_k ?_; intro K hK) | (with_reducible first | refine a_block ?_ | refine a_ret ?_ | refine a_exit ?_ | refine a_skip ?_ | exact ConfOk.mk (by kernel_rfl)) | ((fail_if_success with_reducible show False); with_reducible apply_assumption (exfalso := false) (symm := false) only [*, rfl, trivial, congrArg]) | with_reducible refine And.intro ?_ ?_ | (intro h; contradiction) | (intro h; subst h) | intro h | ((try (with_reducible first | refine a_region (by kernel_rfl) ?_ | (refine a_draw mixed (by kernel_rfl) ?_; intro C hC) | (refine a_cond_k ?_; intro X Y hX hY) | refine RetOk.mk ?_)); simp (maxSteps := 10000000) (implicitDefEqProofs := false) only [go_sem]))
  refine a_once fun K2 => ?_
  repeat' (first | (with_reducible refine a_seq_k ?_; intro K hK) | (with_reducible first | refine a_block ?_ | refine a_ret ?_ | refine a_exit ?_ | refine a_skip ?_ | exact ConfOk.mk (by kernel_rfl)) | ((fail_if_success with_reducible show False); with_reducible apply_assumption (exfalso := false) (symm := false) only [*, rfl, trivial, congrArg]) | with_reducible refine And.intro ?_ ?_ | (intro h; contradiction) | (intro h; subst h) | intro h | ((try (with_reducible first | refine a_region (by kernel_rfl) ?_ | (refine a_draw mixed (by kernel_rfl) ?_; intro C hC) | (refine a_cond_k ?_; intro X Y hX hY) | refine RetOk.mk ?_)); simp (maxSteps := 10000000) (implicitDefEqProofs := false) only [go_sem]))
theorem form8_nil (op : Int) (h0 : 0 ≤ op) : ACalls Tryz.prog 25 [.agg (nodeE op .nils)] (.bool (fmtP op 0)) := by
  have h1 := fnode8 op h0 .nils 0 (.inl ⟨rfl, rfl⟩)
  generalize fmtP op 0 = b at *
  cases b
  · refine acalls_k Tryz.func25 rfl (by kernel_rfl) (congrArg Array.toList Tryz.results25) Tryz.ntmps25 ?_
    intro R hR
    simp only [st0, List.length_cons, List.length_nil, Nat.reduceAdd, Nat.reduceSub, List.replicate_succ, List.replicate_zero, List.cons_append, List.nil_append]
    repeat' (first | (with_reducible refine a_seq_k ?_; intro K hK) | (with_reducible first | refine a_block ?_ | refine a_ret ?_ | refine a_exit ?_ | refine a_skip ?_ | exact ConfOk.mk (by kernel_rfl)) | ((fail_if_success with_reducible show False); with_reducible apply_assumption (exfalso := false) (symm := false) only [*, rfl, trivial, congrArg]) | with_reducible refine And.intro ?_ ?_ | (intro h; contradiction) | (intro h; subst h) | intro h | ((try (with_reducible first | refine a_region (by kernel_rfl) ?_ | (refine a_draw mixed (by kernel_rfl) ?_; intro C hC) | (refine a_cond_k ?_; intro X Y hX hY) | refine RetOk.mk ?_ | refine CallS.intro (h1) ?_ | refine CallD.intro (h1) ?_)); simp (maxSteps := 10000000) (implicitDefEqProofs := false) only [go_sem]))
  · refine acalls_k Tryz.func25 rfl (by kernel_rfl) (congrArg Array.toList Tryz.results25) Tryz.ntmps25 ?_
    intro R hR
    simp only [st0, List.length_cons, List.length_nil, Nat.reduceAdd, Nat.reduceSub, List.replicate_succ, List.replicate_zero, List.cons_append, List.nil_append]
    repeat' (first | (with_reducible refine a_seq_k ?_; intro K hK) | (with_reducible first | refine a_block ?_ | refine a_ret ?_ | refine a_exit ?_ | refine a_skip ?_ | exact ConfOk.mk (by kernel_rfl)) | ((fail_if_success with_reducible show False); with_reducible apply_assumption (exfalso := false) (symm := false) only [*, rfl, trivial, congrArg]) | with_reducible refine And.intro ?_ ?_ | (intro h; contradiction) | (intro h; subst h) | intro h | ((try (with_reducible first | refine a_region (by kernel_rfl) ?_ | (refine a_draw mixed (by kernel_rfl) ?_; intro C hC) | (refine a_cond_k ?_; intro X Y hX hY) | refine RetOk.mk ?_ | refine CallS.intro (h1) ?_ | refine CallD.intro (h1) ?_)); simp (maxSteps := 10000000) (implicitDefEqProofs := false) only [go_sem]))
    refine a_once fun K1 => ?_
    repeat' (first | (with_reducible refine a_seq_k ?_; intro K hK) | (with_reducible first | refine a_block ?_ | refine a_ret ?_ | refine a_exit ?_ | refine a_skip ?_ | exact ConfOk.mk (by kernel_rfl)) | ((fail_if_success with_reducible show False); with_reducible apply_assumption (exfalso := false) (symm := false) only [*, rfl, trivial, congrArg]) | with_reducible refine And.intro ?_ ?_ | (intro h; contradiction) | (intro h; subst h) | intro h | ((try (with_reducible first | refine a_region (by kernel_rfl) ?_ | (refine a_draw mixed (by kernel_rfl) ?_; intro C hC) | (refine a_cond_k ?_; intro X Y hX hY) | refine RetOk.mk ?_)); simp (maxSteps := 10000000) (implicitDefEqProofs := false) only [go_sem]))
    refine a_once fun K2 => ?_
    repeat' (first | (with_reducible refine a_seq_k ?_; intro K hK) | (with_reducible first | refine a_block ?_ | refine a_ret ?_ | refine a_exit ?_ | refine a_skip ?_ | exact ConfOk.mk (by kernel_rfl)) | ((fail_if_success with_reducible show False); with_reducible apply_assumption (exfalso := false) (symm := false) only [*, rfl, trivial, congrArg]) | with_reducible refine And.intro ?_ ?_ | (intro h; contradiction) | (intro h; subst h) | intro h | ((try (with_reducible first | refine a_region (by kernel_rfl) ?_ | (refine a_draw mixed (by kernel_rfl) ?_; intro C hC) | (refine a_cond_k ?_; intro X Y hX hY) | refine RetOk.mk ?_)); simp (maxSteps := 10000000) (implicitDefEqProofs := false) only [go_sem]))
theorem Zs.Ok.le {zs : Zs} (hz : zs.Ok) {pre rest : Zs} {x : Dom × Nat} (h : zs = pre ++ x :: rest) : x.2 = pre.length := hz pre x rest h
theorem form8_node (op : Int) (h0 : 0 ≤ op) (zs : Zs) (hz : zs.Ok) (hl : zs.length ≤ 1000) : ACalls Tryz.prog 25 [.agg (nodeE op (.slice (zs.map leafZ)))] (.bool (fmtP op zs.length)) := by
  have h1 := fnode8 op h0 (.slice (zs.map leafZ)) zs.length (.inr ⟨zs, rfl, rfl⟩)
  have hd : ∀ pre rest x, zs = pre ++ x :: rest → ACalls Tryz.prog 25 [.agg (leafZ x)] (.bool true) := fun pre rest x h => form8_leaf x (by have := hz.le h; have := congrArg List.length h; simp at this; omega)
  simp only [leafZ, leafE] at hd
  generalize fmtP op zs.length = b at *
  cases b
  · refine acalls_k Tryz.func25 rfl (by kernel_rfl) (congrArg Array.toList Tryz.results25) Tryz.ntmps25 ?_
    intro R hR
    simp only [st0, List.length_cons, List.length_nil, Nat.reduceAdd, Nat.reduceSub, List.replicate_succ, List.replicate_zero, List.cons_append, List.nil_append]
    repeat' (first | (with_reducible refine a_seq_k ?_; intro K hK) | (with_reducible first | refine a_block ?_ | refine a_ret ?_ | refine a_exit ?_ | refine a_skip ?_ | exact ConfOk.mk (by kernel_rfl)) | ((fail_if_success with_reducible show False); with_reducible apply_assumption (exfalso := false) (symm := false) only [*, rfl, trivial, congrArg]) | with_reducible refine And.intro ?_ ?_ | (intro h; contradiction) | (intro h; subst h) | intro h | ((try (with_reducible first | refine a_region (by kernel_rfl) ?_ | (refine a_draw mixed (by kernel_rfl) ?_; intro C hC) | (refine a_cond_k ?_; intro X Y hX hY) | refine RetOk.mk ?_ | refine CallS.intro (h1) ?_ | refine CallD.intro (h1) ?_)); simp (maxSteps := 10000000) (implicitDefEqProofs := false) only [go_sem]))
  · refine acalls_k Tryz.func25 rfl (by kernel_rfl) (congrArg Array.toList Tryz.results25) Tryz.ntmps25 ?_
    intro R hR
    simp only [st0, List.length_cons, List.length_nil, Nat.reduceAdd, Nat.reduceSub, List.replicate_succ, List.replicate_zero, List.cons_append, List.nil_append]
    repeat' (first | (with_reducible refine a_seq_k ?_; intro K hK) | (with_reducible first | refine a_block ?_ | refine a_ret ?_ | refine a_exit ?_ | refine a_skip ?_ | exact ConfOk.mk (by kernel_rfl)) | ((fail_if_success with_reducible show False); with_reducible apply_assumption (exfalso := false) (symm := false) only [*, rfl, trivial, congrArg]) | with_reducible refine And.intro ?_ ?_ | (intro h; contradiction) | (intro h; subst h) | intro h | ((try (with_reducible first | refine a_region (by kernel_rfl) ?_ | (refine a_draw mixed (by kernel_rfl) ?_; intro C hC) | (refine a_cond_k ?_; intro X Y hX hY) | refine RetOk.mk ?_ | refine CallS.intro (h1) ?_ | refine CallD.intro (h1) ?_)); simp (maxSteps := 10000000) (implicitDefEqProofs := false) only [go_sem]))
    refine a_loop_k (fun n st => ∃ (g : Nat) (pre rest : List _) (u : Unit), zs = pre ++ rest ∧ n = rest.length ∧ (True) ∧ Has st 36 [(1, .ptr 1 0 0), (3, .int .i64 pre.length)] [(1, .box 0 (nodeE op (.slice (zs.map leafZ))))]) (zs).length ⟨0, [], zs, (), rfl, rfl, trivial, ⟨rfl, rfl, by simp [Dom.enc, kd, dZ], by simp [Dom.enc, kd, dZ]⟩⟩ ?_
    rintro n st ⟨g, pre, rest, u, he, rfl, hp, hs⟩ K hK
    have hw := wrap_nat pre.length (by have := congrArg List.length he; simp at this; omega)
    subst he
    refine a_has hs fun τ σ γ => ?_
    rcases rest with _ | ⟨x, rest⟩
    · simp only [List.append_nil] at *
      repeat' (first | (with_reducible refine a_seq_k ?_; intro K hK) | (with_reducible first | refine a_block ?_ | refine a_ret ?_ | refine a_exit ?_ | refine a_skip ?_ | exact ConfOk.mk (by kernel_rfl)) | ((fail_if_success with_reducible show False); with_reducible apply_assumption (exfalso := false) (symm := false) only [*, rfl, trivial, congrArg]) | with_reducible refine And.intro ?_ ?_ | (intro h; contradiction) | (intro h; subst h) | intro h | ((try (with_reducible first | refine a_region (by kernel_rfl) ?_ | (refine a_draw mixed (by kernel_rfl) ?_; intro C hC) | (refine a_cond_k ?_; intro X Y hX hY) | refine RetOk.mk ?_)); simp (maxSteps := 10000000) (implicitDefEqProofs := false) only [go_sem]))
      refine a_once fun K2 => ?_
      repeat' (first | (with_reducible refine a_seq_k ?_; intro K hK) | (with_reducible first | refine a_block ?_ | refine a_ret ?_ | refine a_exit ?_ | refine a_skip ?_ | exact ConfOk.mk (by kernel_rfl)) | ((fail_if_success with_reducible show False); with_reducible apply_assumption (exfalso := false) (symm := false) only [*, rfl, trivial, congrArg]) | with_reducible refine And.intro ?_ ?_ | (intro h; contradiction) | (intro h; subst h) | intro h | ((try (with_reducible first | refine a_region (by kernel_rfl) ?_ | (refine a_draw mixed (by kernel_rfl) ?_; intro C hC) | (refine a_cond_k ?_; intro X Y hX hY) | refine RetOk.mk ?_)); simp (maxSteps := 10000000) (implicitDefEqProofs := false) only [go_sem]))
    · have hc := hd pre rest x rfl
      repeat' (first | (with_reducible refine a_seq_k ?_; intro K hK) | (with_reducible first | refine a_block ?_ | refine a_ret ?_ | refine a_exit ?_ | refine a_skip ?_ | exact ConfOk.mk (by kernel_rfl)) | ((fail_if_success with_reducible show False); with_reducible apply_assumption (exfalso := false) (symm := false) only [*, rfl, trivial, congrArg]) | with_reducible refine And.intro ?_ ?_ | (intro h; contradiction) | (intro h; subst h) | intro h | ((try (with_reducible first | refine a_region (by kernel_rfl) ?_ | (refine a_draw mixed (by kernel_rfl) ?_; intro C hC) | (refine a_cond_k ?_; intro X Y hX hY) | refine RetOk.mk ?_ | refine CallS.intro (hc) ?_ | refine CallD.intro (hc) ?_)); simp (maxSteps := 10000000) (implicitDefEqProofs := false) only [go_sem, hw, leafZ, leafE]))
      all_goals exact ⟨⟨rest.length, by simp, 0, pre ++ [x], rest, (), by simp, rfl, ⟨rfl, rfl, by simp, by simp⟩⟩⟩
@[reducible] def kdZ (z : Dom × Nat) : List AV := [.int .u8 z.1.kind]
@[reducible] def kindsZ (zs : Zs) : AV := .slice [[.slice (zs.map kdZ)]]
theorem kind8_leaf (zs : Zs) (hz : zs.Ok) (pre rest : Zs) (x : Dom × Nat) (h : zs = pre ++ x :: rest) : ACalls Tryz.prog 26 [.nils, .agg (leafZ x), kindsZ zs] (.tuple [.int .u8 x.1.kind, .int .i64 0]) := by
  have hx := hz pre x rest h
  subst h
  obtain ⟨d, i⟩ := x
  simp only at hx
  subst hx
  refine acalls_k Tryz.func26 rfl (by kernel_rfl) (congrArg Array.toList Tryz.results26) Tryz.ntmps26 ?_
  intro R hR
  simp only [st0, List.length_cons, List.length_nil, Nat.reduceAdd, Nat.reduceSub, List.replicate_succ, List.replicate_zero, List.cons_append, List.nil_append]
  repeat' (first | (with_reducible refine a_seq_k ?_; intro K hK) | (with_reducible first | refine a_block ?_ | refine a_ret ?_ | refine a_exit ?_ | refine a_skip ?_ | exact ConfOk.mk (by kernel_rfl)) | ((fail_if_success with_reducible show False); with_reducible apply_assumption (exfalso := false) (symm := false) only [*, rfl, trivial, congrArg]) | with_reducible refine And.intro ?_ ?_ | (intro h; contradiction) | (intro h; subst h) | intro h | ((try (with_reducible first | refine a_region (by kernel_rfl) ?_ | (refine a_draw mixed (by kernel_rfl) ?_; intro C hC) | (refine a_cond_k ?_; intro X Y hX hY) | refine RetOk.mk ?_)); simp (maxSteps := 10000000) (implicitDefEqProofs := false) only [go_sem]))
  refine a_once fun K1 => ?_
  repeat' (first | (with_reducible refine a_seq_k ?_; intro K hK) | (with_reducible first | refine a_block ?_ | refine a_ret ?_ | refine a_exit ?_ | refine a_skip ?_ | exact ConfOk.mk (by kernel_rfl)) | ((fail_if_success with_reducible show False); with_reducible apply_assumption (exfalso := false) (symm := false) only [*, rfl, trivial, congrArg]) | with_reducible refine And.intro ?_ ?_ | (intro h; contradiction) | (intro h; subst h) | intro h | ((try (with_reducible first | refine a_region (by kernel_rfl) ?_ | (refine a_draw mixed (by kernel_rfl) ?_; intro C hC) | (refine a_cond_k ?_; intro X Y hX hY) | refine RetOk.mk ?_)); simp (maxSteps := 10000000) (implicitDefEqProofs := false) only [go_sem]))
  all_goals (exfalso; omega)
theorem kind8_node (zs : Zs) (hz : zs.Ok) (hl : zs.length ≤ 1000) (op : Int) (hf : fmtP op zs.length = true) (hne : zs ≠ []) :
    ACalls Tryz.prog 26 [.nils, .agg (nodeE op (.slice (zs.map leafZ))), kindsZ zs] (.tuple [.int .u8 (kindX op (zs.map fun z => z.1.kind)).1, .int .i64 (kindX op (zs.map fun z => z.1.kind)).2]) := by
  have hd := fun pre rest x h => kind8_leaf zs hz pre rest x h
  have hn := ref_Kind op (zs.map fun z => z.1.kind) (by simp; omega)
  have ho : 4 ≤ op ∧ op ≤ 26 := by simpa [fmtP, hne] using hf
  obtain ⟨o0, o2, o7, o8, o9⟩ : op ≠ 0 ∧ op ≠ 2 ∧ op ≠ 27 ∧ op ≠ 28 ∧ op ≠ 29 := by omega
  unfold kindX
  rw [if_neg o0, if_neg o2]
  generalize refKind op _ = p at *
  obtain ⟨p1, p2⟩ := p
  unfold kindE
  clear hf ho
  simp only [kinds, List.map_map, Function.comp_def, kd] at hn
  simp only [kindsZ, kdZ, leafZ, leafE] at hd
  refine acalls_k Tryz.func26 rfl (by kernel_rfl) (congrArg Array.toList Tryz.results26) Tryz.ntmps26 ?_
  intro R hR
  simp only [st0, List.length_cons, List.length_nil, Nat.reduceAdd, Nat.reduceSub, List.replicate_succ, List.replicate_zero, List.cons_append, List.nil_append]
  repeat' (first | (with_reducible refine a_seq_k ?_; intro K hK) | (with_reducible first | refine a_block ?_ | refine a_ret ?_ | refine a_exit ?_ | refine a_skip ?_ | exact ConfOk.mk (by kernel_rfl)) | ((fail_if_success with_reducible show False); with_reducible apply_assumption (exfalso := false) (symm := false) only [*, rfl, trivial, congrArg]) | with_reducible refine And.intro ?_ ?_ | (intro h; contradiction) | (intro h; subst h) | intro h | ((try (with_reducible first | refine a_region (by kernel_rfl) ?_ | (refine a_draw mixed (by kernel_rfl) ?_; intro C hC) | (refine a_cond_k ?_; intro X Y hX hY) | refine RetOk.mk ?_)); simp (maxSteps := 10000000) (implicitDefEqProofs := false) only [go_sem]))
  refine a_loop_k (fun m st => (m = zs.length ∧ Has st 108 [(0, .nils), (2, kindsZ zs), (4, .ptr 4 0 0), (8, .nils), (9, .int .i64 0)] [(4, .box 0 (nodeE op (.slice (zs.map leafZ))))]) ∨ (∃ (g : Nat) (pre rest : Zs), zs = pre ++ rest ∧ pre ≠ [] ∧ m = rest.length ∧ Has st 108 [(0, .nils), (2, kindsZ zs), (4, .ptr 4 0 0), (8, .view 38 g), (9, .int .i64 pre.length)] [(4, .box 0 (nodeE op (.slice (zs.map leafZ)))), (38, .row g 1 (pre.map kdZ))])) zs.length (.inl ⟨rfl, ⟨rfl, rfl, by simp, by simp⟩⟩) ?_
  rintro m st (⟨rfl, hs⟩ | ⟨g, pre, rest, he, hp, rfl, hs⟩) K0 hK0
  · obtain ⟨x0, r0, rfl⟩ := List.exists_cons_of_ne_nil hne
    have hc := hd [] r0 x0 rfl
    simp only [List.map_cons, List.nil_append, leafZ, leafE, kdZ] at hc
    refine a_has hs fun τ σ γ => ?_
    have hgt : (0 : Int) < ((r0.length + 1 : Nat) : Int) := by omega
    repeat' (first | (with_reducible refine a_seq_k ?_; intro K hK) | (with_reducible first | refine a_block ?_ | refine a_ret ?_ | refine a_exit ?_ | refine a_skip ?_ | exact ConfOk.mk (by kernel_rfl)) | ((fail_if_success with_reducible show False); with_reducible apply_assumption (exfalso := false) (symm := false) only [*, rfl, trivial, congrArg]) | with_reducible refine And.intro ?_ ?_ | (intro h; contradiction) | (intro h; subst h) | intro h | ((try (with_reducible first | refine a_region (by kernel_rfl) ?_ | (refine a_draw mixed (by kernel_rfl) ?_; intro C hC) | (refine a_cond_k ?_; intro X Y hX hY) | refine RetOk.mk ?_ | refine CallS.intro (hc) ?_ | refine CallD.intro (hc) ?_)); simp (maxSteps := 10000000) (implicitDefEqProofs := false) only [go_sem, kdZ, leafZ, leafE, wr1, hgt]))
    all_goals exact ⟨⟨r0.length, by simp, .inr ⟨γ + 1 + 1 + 1, [x0], r0, rfl, by simp, rfl, ⟨rfl, rfl, by simp, by simp⟩⟩⟩⟩
  · have hw := wrap_nat pre.length (by have := congrArg List.length he; simp at this; omega)
    subst he
    refine a_has hs fun τ σ γ => ?_
    rcases rest with _ | ⟨x, rest⟩
    · simp only [List.append_nil] at *
      by_cases q1 : p2 = 1
      · subst q1
        repeat' (first | (with_reducible refine a_seq_k ?_; intro K hK) | (with_reducible first | refine a_block ?_ | refine a_ret ?_ | refine a_exit ?_ | refine a_skip ?_ | exact ConfOk.mk (by kernel_rfl)) | ((fail_if_success with_reducible show False); with_reducible apply_assumption (exfalso := false) (symm := false) only [*, rfl, trivial, congrArg]) | with_reducible refine And.intro ?_ ?_ | (intro h; contradiction) | (intro h; subst h) | intro h | ((try (with_reducible first | refine a_region (by kernel_rfl) ?_ | (refine a_draw mixed (by kernel_rfl) ?_; intro C hC) | (refine a_cond_k ?_; intro X Y hX hY) | refine RetOk.mk ?_ | refine CallS.intro (hn) ?_ | refine CallD.intro (hn) ?_)); simp (maxSteps := 10000000) (implicitDefEqProofs := false) only [go_sem, o0, o2, o7, o8, o9, kdZ]))
      · by_cases q0 : p2 = 0
        · subst q0
          repeat' (first | (with_reducible refine a_seq_k ?_; intro K hK) | (with_reducible first | refine a_block ?_ | refine a_ret ?_ | refine a_exit ?_ | refine a_skip ?_ | exact ConfOk.mk (by kernel_rfl)) | ((fail_if_success with_reducible show False); with_reducible apply_assumption (exfalso := false) (symm := false) only [*, rfl, trivial, congrArg]) | with_reducible refine And.intro ?_ ?_ | (intro h; contradiction) | (intro h; subst h) | intro h | ((try (with_reducible first | refine a_region (by kernel_rfl) ?_ | (refine a_draw mixed (by kernel_rfl) ?_; intro C hC) | (refine a_cond_k ?_; intro X Y hX hY) | refine RetOk.mk ?_ | refine CallS.intro (hn) ?_ | refine CallD.intro (hn) ?_)); simp (maxSteps := 10000000) (implicitDefEqProofs := false) only [go_sem, o0, o2, o7, o8, o9, kdZ]))
        · repeat' (first | (with_reducible refine a_seq_k ?_; intro K hK) | (with_reducible first | refine a_block ?_ | refine a_ret ?_ | refine a_exit ?_ | refine a_skip ?_ | exact ConfOk.mk (by kernel_rfl)) | ((fail_if_success with_reducible show False); with_reducible apply_assumption (exfalso := false) (symm := false) only [*, rfl, trivial, congrArg]) | with_reducible refine And.intro ?_ ?_ | (intro h; contradiction) | (intro h; subst h) | intro h | ((try (with_reducible first | refine a_region (by kernel_rfl) ?_ | (refine a_draw mixed (by kernel_rfl) ?_; intro C hC) | (refine a_cond_k ?_; intro X Y hX hY) | refine RetOk.mk ?_ | refine CallS.intro (hn) ?_ | refine CallD.intro (hn) ?_)); simp (maxSteps := 10000000) (implicitDefEqProofs := false) only [go_sem, o0, o2, o7, o8, o9, kdZ, q1, q0]))
    · have hc := hd pre rest x rfl
      simp only [List.map_append, List.map_cons, leafZ, leafE, kdZ] at hc
      repeat' (first | (with_reducible refine a_seq_k ?_; intro K hK) | (with_reducible first | refine a_block ?_ | refine a_ret ?_ | refine a_exit ?_ | refine a_skip ?_ | exact ConfOk.mk (by kernel_rfl)) | ((fail_if_success with_reducible show False); with_reducible apply_assumption (exfalso := false) (symm := false) only [*, rfl, trivial, congrArg]) | with_reducible refine And.intro ?_ ?_ | (intro h; contradiction) | (intro h; subst h) | intro h | ((try (with_reducible first | refine a_region (by kernel_rfl) ?_ | (refine a_draw mixed (by kernel_rfl) ?_; intro C hC) | (refine a_cond_k ?_; intro X Y hX hY) | refine RetOk.mk ?_ | refine CallS.intro (hc) ?_ | refine CallD.intro (hc) ?_)); simp (maxSteps := 10000000) (implicitDefEqProofs := false) only [go_sem, kdZ, leafZ, leafE, hw]))
      all_goals simp only [List.length_append, List.length_cons] at hl
      try any_goals omega
      all_goals exact ⟨⟨rest.length, by simp, .inr ⟨γ + 1 + 1 + 1, pre ++ [x], rest, by simp, by simp, rfl, ⟨rfl, rfl, by simp, by simp⟩⟩⟩⟩
theorem kind8_nil (op : Int) (hf : fmtP op 0 = true) :
    ACalls Tryz.prog 26 [.nils, .agg (nodeE op .nils), .slice [[.nils]]] (.tuple [.int .u8 (kindX op []).1, .int .i64 (kindX op []).2]) := by
  have hn := ref_Kind op [] (by simp)
  by_cases o0 : op = 0
  · subst o0
    simp only [kindX, if_true]
    refine acalls_k Tryz.func26 rfl (by kernel_rfl) (congrArg Array.toList Tryz.results26) Tryz.ntmps26 ?_
    intro R hR
    simp only [st0, List.length_cons, List.length_nil, Nat.reduceAdd, Nat.reduceSub, List.replicate_succ, List.replicate_zero, List.cons_append, List.nil_append]
    repeat' (first | (with_reducible refine a_seq_k ?_; intro K hK) | (with_reducible first | refine a_block ?_ | refine a_ret ?_ | refine a_exit ?_ | refine a_skip ?_ | exact ConfOk.mk (by kernel_rfl)) | ((fail_if_success with_reducible show False); with_reducible apply_assumption (exfalso := false) (symm := false) only [*, rfl, trivial, congrArg]) | with_reducible refine And.intro ?_ ?_ | (intro h; contradiction) | (intro h; subst h) | intro h | ((try (with_reducible first | refine a_region (by kernel_rfl) ?_ | (refine a_draw mixed (by kernel_rfl) ?_; intro C hC) | (refine a_cond_k ?_; intro X Y hX hY) | refine RetOk.mk ?_)); simp (maxSteps := 10000000) (implicitDefEqProofs := false) only [go_sem]))
    refine a_once fun K1 => ?_
    repeat' (first | (with_reducible refine a_seq_k ?_; intro K hK) | (with_reducible first | refine a_block ?_ | refine a_ret ?_ | refine a_exit ?_ | refine a_skip ?_ | exact ConfOk.mk (by kernel_rfl)) | ((fail_if_success with_reducible show False); with_reducible apply_assumption (exfalso := false) (symm := false) only [*, rfl, trivial, congrArg]) | with_reducible refine And.intro ?_ ?_ | (intro h; contradiction) | (intro h; subst h) | intro h | ((try (with_reducible first | refine a_region (by kernel_rfl) ?_ | (refine a_draw mixed (by kernel_rfl) ?_; intro C hC) | (refine a_cond_k ?_; intro X Y hX hY) | refine RetOk.mk ?_)); simp (maxSteps := 10000000) (implicitDefEqProofs := false) only [go_sem]))
  by_cases o2 : op = 2
  · subst o2
    rw [show kindX 2 [] = (0, 81) from rfl]
    refine acalls_k Tryz.func26 rfl (by kernel_rfl) (congrArg Array.toList Tryz.results26) Tryz.ntmps26 ?_
    intro R hR
    simp only [st0, List.length_cons, List.length_nil, Nat.reduceAdd, Nat.reduceSub, List.replicate_succ, List.replicate_zero, List.cons_append, List.nil_append]
    repeat' (first | (with_reducible refine a_seq_k ?_; intro K hK) | (with_reducible first | refine a_block ?_ | refine a_ret ?_ | refine a_exit ?_ | refine a_skip ?_ | exact ConfOk.mk (by kernel_rfl)) | ((fail_if_success with_reducible show False); with_reducible apply_assumption (exfalso := false) (symm := false) only [*, rfl, trivial, congrArg]) | with_reducible refine And.intro ?_ ?_ | (intro h; contradiction) | (intro h; subst h) | intro h | ((try (with_reducible first | refine a_region (by kernel_rfl) ?_ | (refine a_draw mixed (by kernel_rfl) ?_; intro C hC) | (refine a_cond_k ?_; intro X Y hX hY) | refine RetOk.mk ?_)); simp (maxSteps := 10000000) (implicitDefEqProofs := false) only [go_sem]))
    refine a_once fun K1 => ?_
    repeat' (first | (with_reducible refine a_seq_k ?_; intro K hK) | (with_reducible first | refine a_block ?_ | refine a_ret ?_ | refine a_exit ?_ | refine a_skip ?_ | exact ConfOk.mk (by kernel_rfl)) | ((fail_if_success with_reducible show False); with_reducible apply_assumption (exfalso := false) (symm := false) only [*, rfl, trivial, congrArg]) | with_reducible refine And.intro ?_ ?_ | (intro h; contradiction) | (intro h; subst h) | intro h | ((try (with_reducible first | refine a_region (by kernel_rfl) ?_ | (refine a_draw mixed (by kernel_rfl) ?_; intro C hC) | (refine a_cond_k ?_; intro X Y hX hY) | refine RetOk.mk ?_)); simp (maxSteps := 10000000) (implicitDefEqProofs := false) only [go_sem]))
  have ho : 4 ≤ op ∧ op ≤ 26 := by simpa [fmtP, o0, o2] using hf
  obtain ⟨o7, o8, o9⟩ : op ≠ 27 ∧ op ≠ 28 ∧ op ≠ 29 := by omega
  unfold kindX
  rw [if_neg o0, if_neg o2]
  generalize refKind op _ = p at *
  obtain ⟨p1, p2⟩ := p
  unfold kindE
  clear hf ho
  simp only [kinds, List.map_nil] at hn
  refine acalls_k Tryz.func26 rfl (by kernel_rfl) (congrArg Array.toList Tryz.results26) Tryz.ntmps26 ?_
  intro R hR
  simp only [st0, List.length_cons, List.length_nil, Nat.reduceAdd, Nat.reduceSub, List.replicate_succ, List.replicate_zero, List.cons_append, List.nil_append]
  repeat' (first | (with_reducible refine a_seq_k ?_; intro K hK) | (with_reducible first | refine a_block ?_ | refine a_ret ?_ | refine a_exit ?_ | refine a_skip ?_ | exact ConfOk.mk (by kernel_rfl)) | ((fail_if_success with_reducible show False); with_reducible apply_assumption (exfalso := false) (symm := false) only [*, rfl, trivial, congrArg]) | with_reducible refine And.intro ?_ ?_ | (intro h; contradiction) | (intro h; subst h) | intro h | ((try (with_reducible first | refine a_region (by kernel_rfl) ?_ | (refine a_draw mixed (by kernel_rfl) ?_; intro C hC) | (refine a_cond_k ?_; intro X Y hX hY) | refine RetOk.mk ?_)); simp (maxSteps := 10000000) (implicitDefEqProofs := false) only [go_sem]))
  refine a_once fun K1 => ?_
  by_cases q1 : p2 = 1
  · subst q1
    repeat' (first | (with_reducible refine a_seq_k ?_; intro K hK) | (with_reducible first | refine a_block ?_ | refine a_ret ?_ | refine a_exit ?_ | refine a_skip ?_ | exact ConfOk.mk (by kernel_rfl)) | ((fail_if_success with_reducible show False); with_reducible apply_assumption (exfalso := false) (symm := false) only [*, rfl, trivial, congrArg]) | with_reducible refine And.intro ?_ ?_ | (intro h; contradiction) | (intro h; subst h) | intro h | ((try (with_reducible first | refine a_region (by kernel_rfl) ?_ | (refine a_draw mixed (by kernel_rfl) ?_; intro C hC) | (refine a_cond_k ?_; intro X Y hX hY) | refine RetOk.mk ?_ | refine CallS.intro (hn.weakN rfl) ?_ | refine CallD.intro (hn.weakN rfl) ?_)); simp (maxSteps := 10000000) (implicitDefEqProofs := false) only [go_sem, o0, o2, o7, o8, o9]))
  · by_cases q0 : p2 = 0
    · subst q0
      repeat' (first | (with_reducible refine a_seq_k ?_; intro K hK) | (with_reducible first | refine a_block ?_ | refine a_ret ?_ | refine a_exit ?_ | refine a_skip ?_ | exact ConfOk.mk (by kernel_rfl)) | ((fail_if_success with_reducible show False); with_reducible apply_assumption (exfalso := false) (symm := false) only [*, rfl, trivial, congrArg]) | with_reducible refine And.intro ?_ ?_ | (intro h; contradiction) | (intro h; subst h) | intro h | ((try (with_reducible first | refine a_region (by kernel_rfl) ?_ | (refine a_draw mixed (by kernel_rfl) ?_; intro C hC) | (refine a_cond_k ?_; intro X Y hX hY) | refine RetOk.mk ?_ | refine CallS.intro (hn.weakN rfl) ?_ | refine CallD.intro (hn.weakN rfl) ?_)); simp (maxSteps := 10000000) (implicitDefEqProofs := false) only [go_sem, o0, o2, o7, o8, o9]))
    · repeat' (first | (with_reducible refine a_seq_k ?_; intro K hK) | (with_reducible first | refine a_block ?_ | refine a_ret ?_ | refine a_exit ?_ | refine a_skip ?_ | exact ConfOk.mk (by kernel_rfl)) | ((fail_if_success with_reducible show False); with_reducible apply_assumption (exfalso := false) (symm := false) only [*, rfl, trivial, congrArg]) | with_reducible refine And.intro ?_ ?_ | (intro h; contradiction) | (intro h; subst h) | intro h | ((try (with_reducible first | refine a_region (by kernel_rfl) ?_ | (refine a_draw mixed (by kernel_rfl) ?_; intro C hC) | (refine a_cond_k ?_; intro X Y hX hY) | refine RetOk.mk ?_ | refine CallS.intro (hn.weakN rfl) ?_ | refine CallD.intro (hn.weakN rfl) ?_)); simp (maxSteps := 10000000) (implicitDefEqProofs := false) only [go_sem, o0, o2, o7, o8, o9, q1, q0]))
@[reducible] def ksZ (zs : Zs) : AV := if zs = [] then .nils else .slice (zs.map leafZ)
@[reducible] def kindsW (zs : Zs) : AV := .slice [[if zs = [] then .nils else .slice (zs.map kdZ)]]
theorem ref_kindsExist0 : ACalls Tryz.prog 23 [.slice [[.nils]]] (.bool true) := by
  refine acalls_k Tryz.func23 rfl (by kernel_rfl) (congrArg Array.toList Tryz.results23) Tryz.ntmps23 ?_
  intro R hR
  simp only [st0, List.length_cons, List.length_nil, Nat.reduceAdd, Nat.reduceSub, List.replicate_succ, List.replicate_zero, List.cons_append, List.nil_append]
  repeat' (first | (with_reducible refine a_seq_k ?_; intro K hK) | (with_reducible first | refine a_block ?_ | refine a_ret ?_ | refine a_exit ?_ | refine a_skip ?_ | exact ConfOk.mk (by kernel_rfl)) | ((fail_if_success with_reducible show False); with_reducible apply_assumption (exfalso := false) (symm := false) only [*, rfl, trivial, congrArg]) | with_reducible refine And.intro ?_ ?_ | (intro h; contradiction) | (intro h; subst h) | intro h | ((try (with_reducible first | refine a_region (by kernel_rfl) ?_ | (refine a_draw mixed (by kernel_rfl) ?_; intro C hC) | (refine a_cond_k ?_; intro X Y hX hY) | refine RetOk.mk ?_)); simp (maxSteps := 10000000) (implicitDefEqProofs := false) only [go_sem]))
  refine a_loop_k (fun m st => (m = 1 ∧ Has st 28 [(0, .slice [[.nils]]), (3, .int .i64 0)] []) ∨ (m = 0 ∧ Has st 28 [(0, .slice [[.nils]]), (3, .int .i64 1)] [])) 1 (.inl ⟨rfl, ⟨rfl, rfl, by simp, by simp⟩⟩) ?_
  rintro m st (⟨rfl, hs⟩ | ⟨rfl, hs⟩) K0 hK0
  · refine a_has hs fun τ σ γ => ?_
    repeat' (first | (with_reducible refine a_seq_k ?_; intro K hK) | (with_reducible first | refine a_block ?_ | refine a_ret ?_ | refine a_exit ?_ | refine a_skip ?_ | exact ConfOk.mk (by kernel_rfl)) | ((fail_if_success with_reducible show False); with_reducible apply_assumption (exfalso := false) (symm := false) only [*, rfl, trivial, congrArg]) | with_reducible refine And.intro ?_ ?_ | (intro h; contradiction) | (intro h; subst h) | intro h | ((try (with_reducible first | refine a_region (by kernel_rfl) ?_ | (refine a_draw mixed (by kernel_rfl) ?_; intro C hC) | (refine a_cond_k ?_; intro X Y hX hY) | refine RetOk.mk ?_)); simp (maxSteps := 10000000) (implicitDefEqProofs := false) only [go_sem]))
    refine a_once fun K1 => ?_
    repeat' (first | (with_reducible refine a_seq_k ?_; intro K hK) | (with_reducible first | refine a_block ?_ | refine a_ret ?_ | refine a_exit ?_ | refine a_skip ?_ | exact ConfOk.mk (by kernel_rfl)) | ((fail_if_success with_reducible show False); with_reducible apply_assumption (exfalso := false) (symm := false) only [*, rfl, trivial, congrArg]) | with_reducible refine And.intro ?_ ?_ | (intro h; contradiction) | (intro h; subst h) | intro h | ((try (with_reducible first | refine a_region (by kernel_rfl) ?_ | (refine a_draw mixed (by kernel_rfl) ?_; intro C hC) | (refine a_cond_k ?_; intro X Y hX hY) | refine RetOk.mk ?_)); simp (maxSteps := 10000000) (implicitDefEqProofs := false) only [go_sem, wr1]))
    all_goals exact ⟨⟨0, by omega, .inr ⟨rfl, ⟨rfl, rfl, by simp, by simp⟩⟩⟩⟩
  · refine a_has hs fun τ σ γ => ?_
    repeat' (first | (with_reducible refine a_seq_k ?_; intro K hK) | (with_reducible first | refine a_block ?_ | refine a_ret ?_ | refine a_exit ?_ | refine a_skip ?_ | exact ConfOk.mk (by kernel_rfl)) | ((fail_if_success with_reducible show False); with_reducible apply_assumption (exfalso := false) (symm := false) only [*, rfl, trivial, congrArg]) | with_reducible refine And.intro ?_ ?_ | (intro h; contradiction) | (intro h; subst h) | intro h | ((try (with_reducible first | refine a_region (by kernel_rfl) ?_ | (refine a_draw mixed (by kernel_rfl) ?_; intro C hC) | (refine a_cond_k ?_; intro X Y hX hY) | refine RetOk.mk ?_)); simp (maxSteps := 10000000) (implicitDefEqProofs := false) only [go_sem]))
theorem ref_Kind8 (zs : Zs) (hz : zs.Ok) (hl : zs.length < 2 ^ 40) (op : Int) (h0 : 0 ≤ op) (hO : ∀ z ∈ zs, z.1.kind ≤ 3) :
    ACalls Tryz.prog 10 [.nils, .agg (nodeE op (ksZ zs)), kindsW zs] (.tuple [.int .u8 (kindT op (zs.map fun z => z.1.kind)).1, .int .i64 (kindT op (zs.map fun z => z.1.kind)).2]) := by
  have h1 := ref_Valid0
  have h2 : ACalls Tryz.prog 23 [kindsW zs] (.bool true) := by
    unfold kindsW
    split
    · exact ref_kindsExist0
    · have h2 := ref_kindsExist (zs.map (·.1)) (by simpa using hl)
      have e2 : ((zs.map (·.1)).all fun k => decide (k.kind ≤ 3)) = true := by
        rw [List.all_eq_true]
        intro k hk
        obtain ⟨z, hz2, rfl⟩ := List.mem_map.1 hk
        simpa using hO z hz2
      rw [e2] at h2
      simpa only [kinds1, List.map_map, Function.comp_def, kdD, kdZ] using h2
  have h3 : ACalls Tryz.prog 24 [.agg (nodeE op (ksZ zs))] (.int .i64 (szI zs.length)) := by
    unfold ksZ
    split
    · rename_i h; subst h; exact size8_nil op
    · exact size8_node op zs hl
  have h4 : ¬ 400 ≤ zs.length → ACalls Tryz.prog 25 [.agg (nodeE op (ksZ zs))] (.bool (fmtP op zs.length)) := by
    intro hb
    unfold ksZ
    split
    · rename_i h; subst h; exact form8_nil op h0
    · exact form8_node op h0 zs hz (by omega)
  have h5 : ¬ 400 ≤ zs.length → fmtP op zs.length = true → ACalls Tryz.prog 26 [.nils, .agg (nodeE op (ksZ zs)), kindsW zs] (.tuple [.int .u8 (kindX op (zs.map fun z => z.1.kind)).1, .int .i64 (kindX op (zs.map fun z => z.1.kind)).2]) := by
    intro hb hf
    unfold ksZ kindsW
    by_cases h : zs = []
    · subst h; simp only [if_true]; exact kind8_nil op hf
    · simp only [if_neg h]; exact kind8_node zs hz (by omega) op hf h
  have eb : (kindsW zs) = .slice [[if zs = [] then .nils else .slice (zs.map kdZ)]] := rfl
  unfold kindT
  rw [List.length_map]
  have hkz : ∀ σ n, closeV σ n (ksZ zs) = some (ksZ zs, []) := by
    intro σ n
    unfold ksZ
    split <;> cases n <;> rfl
  unfold kindsW at *
  generalize (if zs = [] then AV.nils else .slice (zs.map kdZ)) = kw at *
  generalize ksZ zs = kz at *
  clear eb
  by_cases hb : 400 ≤ zs.length
  · rw [if_pos hb]
    rw [szI_big hb] at h3
    clear h4 h5
    refine acalls_k Tryz.func10 rfl (by kernel_rfl) (congrArg Array.toList Tryz.results10) Tryz.ntmps10 ?_
    intro R hR
    simp only [st0, List.length_cons, List.length_nil, Nat.reduceAdd, Nat.reduceSub, List.replicate_succ, List.replicate_zero, List.cons_append, List.nil_append]
    repeat' (first | (with_reducible refine a_seq_k ?_; intro K hK) | (with_reducible first | refine a_block ?_ | refine a_ret ?_ | refine a_exit ?_ | refine a_skip ?_ | exact ConfOk.mk (by kernel_rfl)) | ((fail_if_success with_reducible show False); with_reducible apply_assumption (exfalso := false) (symm := false) only [*, rfl, trivial, congrArg]) | with_reducible refine And.intro ?_ ?_ | (intro h; contradiction) | (intro h; subst h) | intro h | ((try (with_reducible first | refine a_region (by kernel_rfl) ?_ | (refine a_draw mixed (by kernel_rfl) ?_; intro C hC) | (refine a_cond_k ?_; intro X Y hX hY) | refine RetOk.mk ?_ | refine CallS.intro (h1) ?_ | refine CallD.intro (h1) ?_ | refine CallS.intro (h2) ?_ | refine CallD.intro (h2) ?_ | refine CallS.intro (h3) ?_ | refine CallD.intro (h3) ?_)); simp (maxSteps := 10000000) (implicitDefEqProofs := false) only [go_sem, hkz]))
  · rw [if_neg hb]
    rw [szI_small hb] at h3
    have h4 := h4 hb
    have h5 := h5 hb
    have c1 : (400 < (zs.length : Int) + 1) = False := by simp; omega
    generalize fmtP op zs.length = fb at *
    generalize kindX op _ = p at *
    cases fb
    rotate_left
    have h6 := h5 rfl
    all_goals
      refine acalls_k Tryz.func10 rfl (by kernel_rfl) (congrArg Array.toList Tryz.results10) Tryz.ntmps10 ?_
      intro R hR
      simp only [st0, List.length_cons, List.length_nil, Nat.reduceAdd, Nat.reduceSub, List.replicate_succ, List.replicate_zero, List.cons_append, List.nil_append]
      repeat' (first | (with_reducible refine a_seq_k ?_; intro K hK) | (with_reducible first | refine a_block ?_ | refine a_ret ?_ | refine a_exit ?_ | refine a_skip ?_ | exact ConfOk.mk (by kernel_rfl)) | ((fail_if_success with_reducible show False); with_reducible apply_assumption (exfalso := false) (symm := false) only [*, rfl, trivial, congrArg]) | with_reducible refine And.intro ?_ ?_ | (intro h; contradiction) | (intro h; subst h) | intro h | ((try (with_reducible first | refine a_region (by kernel_rfl) ?_ | (refine a_draw mixed (by kernel_rfl) ?_; intro C hC) | (refine a_cond_k ?_; intro X Y hX hY) | refine RetOk.mk ?_ | refine CallS.intro (h1) ?_ | refine CallD.intro (h1) ?_ | refine CallS.intro (h2) ?_ | refine CallD.intro (h2) ?_ | refine CallS.intro (h3) ?_ | refine CallD.intro (h3) ?_ | refine CallS.intro (h4) ?_ | refine CallD.intro (h4) ?_ | refine CallS.intro (h6) ?_ | refine CallD.intro (h6) ?_)); simp (maxSteps := 10000000) (implicitDefEqProofs := false) only [go_sem, c1, hkz]))
end Go.Proofs.YtoggbjfjmbjegaaGreatDoor
