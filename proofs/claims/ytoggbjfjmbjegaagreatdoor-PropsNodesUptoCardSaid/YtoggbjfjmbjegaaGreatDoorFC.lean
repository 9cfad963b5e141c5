/- Chains: the program's facts.chain, and slices of domains searched. Strict nodes: the program's facts.strict. The domain of a node: the program's facts.node. -/
import Derived.Test.YtoggbjfjmbjegaaGreatDoorFB
import Derived.Test.YtoggbjfjmbjegaaGreatDoorTK
import Derived.Test.YtoggbjfjmbjegaaGreatDoorPP
import Derived.Test.YtoggbjfjmbjegaaGreatDoorAb27
set_option linter.unusedSimpArgs false
set_option linter.unusedVariables false
set_option linter.unusedSimpArgs false
set_option linter.unusedVariables false
namespace Go.Proofs.YtoggbjfjmbjegaaGreatDoor
open Go Go.Ab
-- @enc(Dom.enc)@
attribute [local go_sem ↓] parts_tt parts_ff parts_tf parts_ft reduceIte
attribute [local go_sem] reduceCtorEq Nat.reduceAdd Nat.reduceSub Nat.reduceLeDiff Nat.reduceEqDiff Nat.reduceMul Nat.reduceLT Nat.reducePow Int.reduceEq Int.reduceLT Int.reduceLE Int.reduceGT Int.reduceGE Int.reduceAdd Int.reduceSub Int.reduceNeg Int.reduceToNat parts_eq learnT aops_nil aops_cons aopsD_nil aopsD_cons stepS stepD gval St.learn skipR St.after putτ applyUpd List.foldl_cons List.foldl_nil pureOp memOp callOf litA closeO closeK List.flatMap_cons List.flatMap_nil Option.map_none decide_false opnd ofConst leaf binA unA lenA indexA indexAddrA fieldAddrA fieldA weak_slice weak_nils weak_str weak_view weak_viewF weak_sliceF weak_ptr weak_cptr weak_rptr weak_sl weak_sl0 weak_any sliceFA_slice sliceFA_str sliceFA_view sliceFA_none sliceFA_some sameO sliceA convertA pickV fillA placeS cellsA setA partA loadM storeM appendM srcEls lookBox lookRow lookMap closeL closeV scalarB scalarL killed buildEls lookupA leafEq eqAll resA resL tupA retA thenA blockA isInt loA hiA foldA maxA minA okSize leafB closedB Res.foot List.getD_cons_zero List.getD_cons_succ List.set_cons_zero List.set_cons_succ List.map_cons List.map_nil List.append_nil List.nil_append List.cons_append List.length_cons List.length_nil List.take_succ_cons List.take_zero List.drop_succ_cons List.drop_zero List.take_nil List.drop_nil List.all_cons List.all_nil List.getElem?_toArray List.getElem?_cons_zero List.getElem?_cons_succ Option.bind_some Option.map_some true_and and_true true_implies ne_eq not_true_eq_false not_false_eq_true Bool.true_eq_false Bool.false_eq_true Bool.not_true Bool.not_false decide_eq_true_eq decide_eq_false_iff_not false_implies implies_true and_self ite_true ite_false cond_true cond_false Option.some.injEq List.reverse_cons List.reverse_nil Bool.and_self Bool.true_and Bool.and_true Bool.false_and Bool.and_false Bool.or_true Bool.true_or Bool.or_false Bool.false_or Bool.not_eq_eq_eq_not Bool.not_not Bool.or_self beq_self_eq_true and_false false_and or_true true_or or_false false_or not_true not_false_iff Decidable.not_not lookT lookR tabT tabR Int.toNat_natCast List.length_map List.map_append List.length_append decide_true decide_false tmod2 List.mem_singleton forall_eq elOk1 elOk3 elOk4 castn0 castn1 castn2 castn3 getD_mid getD_mid_map at_lt at_end mid_lt mid_lt' nat_ge List.size_toArray Array.size_empty Nat.add_zero Nat.zero_add
attribute [local irreducible] ASpec ACalls retA ti EqT
set_option linter.unusedSimpArgs false
set_option maxHeartbeats 4000000
set_option maxRecDepth 100000
set_option linter.unusedVariables false
attribute [local go_sem] ti2 ti3 ti4 ti5 ti9 ti21 ti22 ti23 ti24 ti26 ti27 ti28 ti30 ti33 ti34 ti37 ti46 ti52 ti68 ti69 ti73 ti78 ti86 ti89 ti99 ti122 ti123 ti124 ti144 ti173 ti174 ti190 ti191 ti199 ti245 ti247 ti257 ti271 ti288 ti290 ti343
@[reducible] def doms (ks : List Dom) : AV := .slice (ks.map Dom.enc)
theorem sl_IndexFuncD (ks : List Dom) (fn : FuncId) (cap : List AV) (p : Dom → Bool) (hc : ∀ σ n, closeL (closeV σ (n + 1)) cap = some (cap, [])) (hf : ∀ x, ACalls Tryz.prog fn (dA x :: cap) (.bool (p x))) (hl : ks.length < 2 ^ 62) : ACalls Tryz.prog 247 [doms ks, .func (.func fn) cap] (.int .i64 (idxF p ks)) := by
  simp only [dA, Dom.enc] at hf
  refine acalls_k Tryz.func247 rfl (by kernel_rfl) (congrArg Array.toList Tryz.results247) Tryz.ntmps247 ?_
  intro R hR
  simp only [st0, List.length_cons, List.length_nil, Nat.reduceAdd, Nat.reduceSub, List.replicate_succ, List.replicate_zero, List.cons_append, List.nil_append]
  repeat' (first | (with_reducible refine a_seq_k ?_; intro K hK) | (with_reducible first | refine a_block ?_ | refine a_ret ?_ | refine a_exit ?_ | refine a_skip ?_ | exact ConfOk.mk (by kernel_rfl)) | ((fail_if_success with_reducible show False); with_reducible apply_assumption (exfalso := false) (symm := false) only [*, rfl, trivial, congrArg]) | with_reducible refine And.intro ?_ ?_ | (intro h; contradiction) | (intro h; subst h) | intro h | ((try (with_reducible first | refine a_region (by kernel_rfl) ?_ | (refine a_draw mixed (by kernel_rfl) ?_; intro C hC) | (refine a_cond_k ?_; intro X Y hX hY) | refine RetOk.mk ?_)); simp (maxSteps := 10000000) (implicitDefEqProofs := false) only [go_sem]))
  refine a_loop_k (fun n st => ∃ (g : Nat) (pre rest : List _) (acc : Unit), ks = pre ++ rest ∧ n = rest.length ∧ ((pre.any p) = false) ∧ Has st 19 [(0, .slice (ks.map Dom.enc)), (1, .func (.func fn) cap), (7, .int .i64 ks.length), (8, .int .i64 pre.length)] []) (ks).length ⟨0, [], ks, (), rfl, rfl, rfl, ⟨rfl, rfl, by simp [Dom.enc], by simp [Dom.enc]⟩⟩ ?_
  rintro n st ⟨g, pre, rest, acc, he, rfl, hp, hs⟩ K hK
  have hw := wrap_nat pre.length (by have := congrArg List.length he; simp at this; omega)
  subst he
  refine a_has hs fun τ σ γ => ?_
  rcases rest with _ | ⟨x, rest⟩
  · repeat' (first | (with_reducible refine a_seq_k ?_; intro K hK) | (with_reducible first | refine a_block ?_ | refine a_ret ?_ | refine a_exit ?_ | refine a_skip ?_ | exact ConfOk.mk (by kernel_rfl)) | ((fail_if_success with_reducible show False); with_reducible apply_assumption (exfalso := false) (symm := false) only [*, rfl, trivial, congrArg]) | with_reducible refine And.intro ?_ ?_ | (intro h; contradiction) | (intro h; subst h) | intro h | ((try (with_reducible first | refine a_region (by kernel_rfl) ?_ | (refine a_draw mixed (by kernel_rfl) ?_; intro C hC) | (refine a_cond_k ?_; intro X Y hX hY) | refine RetOk.mk ?_)); simp (maxSteps := 10000000) (implicitDefEqProofs := false) only [go_sem, Dom.enc, hw, hc]))
    · simp at hp; exact idxF_none (by simpa using hp)
  · repeat' (first | (with_reducible refine a_seq_k ?_; intro K hK) | (with_reducible first | refine a_block ?_ | refine a_ret ?_ | refine a_exit ?_ | refine a_skip ?_ | exact ConfOk.mk (by kernel_rfl)) | ((fail_if_success with_reducible show False); with_reducible apply_assumption (exfalso := false) (symm := false) only [*, rfl, trivial, congrArg]) | with_reducible refine And.intro ?_ ?_ | (intro h; contradiction) | (intro h; subst h) | intro h | ((try (with_reducible first | refine a_region (by kernel_rfl) ?_ | (refine a_draw mixed (by kernel_rfl) ?_; intro C hC) | (refine a_cond_k ?_; intro X Y hX hY) | refine RetOk.mk ?_ | refine CallS.intro (hf x) ?_ | refine CallD.intro (hf x) ?_)); simp (maxSteps := 10000000) (implicitDefEqProofs := false) only [go_sem, Dom.enc, hw, hc]))
    · exact idxF_hit (by assumption) (by assumption)
    · exact ⟨⟨rest.length, by simp, 0, pre ++ [x], rest, (), by simp, rfl, by simp [*], ⟨rfl, rfl, by simp [Dom.enc], by simp [Dom.enc]⟩⟩⟩
theorem sl_ContainsFuncD (ks : List Dom) (fn : FuncId) (cap : List AV) (p : Dom → Bool) (hc : ∀ σ n, closeL (closeV σ (n + 1)) cap = some (cap, [])) (hf : ∀ x, ACalls Tryz.prog fn (dA x :: cap) (.bool (p x))) (hl : ks.length < 2 ^ 62) : ACalls Tryz.prog 166 [doms ks, .func (.func fn) cap] (.bool (ks.any p)) := by
  refine acalls_k Tryz.func166 rfl (by kernel_rfl) (congrArg Array.toList Tryz.results166) Tryz.ntmps166 ?_
  intro R hR
  simp only [st0, List.length_cons, List.length_nil, Nat.reduceAdd, Nat.reduceSub, List.replicate_succ, List.replicate_zero, List.cons_append, List.nil_append]
  repeat' (first | (with_reducible refine a_seq_k ?_; intro K hK) | (with_reducible first | refine a_block ?_ | refine a_ret ?_ | refine a_exit ?_ | refine a_skip ?_ | exact ConfOk.mk (by kernel_rfl)) | ((fail_if_success with_reducible show False); with_reducible apply_assumption (exfalso := false) (symm := false) only [*, rfl, trivial, congrArg]) | with_reducible refine And.intro ?_ ?_ | (intro h; contradiction) | (intro h; subst h) | intro h | ((try (with_reducible first | refine a_region (by kernel_rfl) ?_ | (refine a_draw mixed (by kernel_rfl) ?_; intro C hC) | (refine a_cond_k ?_; intro X Y hX hY) | refine RetOk.mk ?_ | refine CallS.intro (sl_IndexFuncD _ _ _ _ hc hf hl) ?_ | refine CallD.intro (sl_IndexFuncD _ _ _ _ hc hf hl) ?_)); simp (maxSteps := 10000000) (implicitDefEqProofs := false) only [go_sem, hc]))
  all_goals simp [idxF_ge]
theorem chain_none {pre rest : List Dom} {x : Dom} {f : Int} (h : emptyD x = true) : noneD 3 = chainC (pre ++ x :: rest) f := by
  unfold chainC; rw [if_pos (by rw [List.any_append, List.any_cons, h]; simp)]
@[reducible] def q2 (f : Int) (k : Dom) : Bool := mayBe k (1 - f) || k.fail
@[reducible] def q1 (f : Int) (k : Dom) : Bool := q2 f k || k.null
@[reducible] def q0 (f : Int) (k : Dom) : Bool := q1 f k || mayBe k f
theorem chain_eq {ks : List Dom} {f : Int} (h : ks.any emptyD = false) : chainC ks f = truthD ⟨3, ks.any (·.null) && ks.all fun k => q1 f k, ks.any (·.fail) && ks.all fun k => q2 f k, false, 0, 0⟩ (if f = 0 then ks.all fun k => mayBe k (1 - f) else ks.any fun k => mayBe k f) (if f = 0 then ks.any fun k => mayBe k f else ks.all fun k => mayBe k (1 - f)) := by
  have a1 : (ks.all fun k => k.null || (k.fail || mayBe k (1 - f))) = ks.all fun k => q1 f k := all_congr fun k hk => by simp only [q1, q2]; cases k.null <;> cases k.fail <;> cases mayBe k (1 - f) <;> rfl
  have a2 : (ks.all fun k => k.fail || mayBe k (1 - f)) = ks.all fun k => q2 f k := all_congr fun k hk => by simp only [q2]; cases k.fail <;> cases mayBe k (1 - f) <;> rfl
  simp only [chainC, h, a1, a2, Bool.false_eq_true, if_false, boolD]
theorem facts_chain (kids : List Dom) (first : Int) (hf : first = 0 ∨ first = 1) (hl : kids.length < 2 ^ 40) :
    ACalls Tryz.prog 167 [doms kids, .int .i64 first] (dA (chainC kids first)) := by
  have hw1 : IntKind.wrap .i64 (1 - first) = 1 - first := by rcases hf with rfl | rfl <;> rfl
  have we3 : IntKind.wrap .i64 2 = 2 := rfl
  have we2 : IntKind.wrap .i64 1 = 1 := rfl
  have we1 : IntKind.wrap .i64 0 = 0 := rfl
  have we0 : IntKind.wrap .i64 (-1) = -1 := rfl
  obtain ⟨res, hres⟩ : ∃ r, r = chainC kids first := ⟨_, rfl⟩
  rw [← hres]
  refine acalls_k Tryz.func167 rfl (by kernel_rfl) (congrArg Array.toList Tryz.results167) Tryz.ntmps167 ?_
  intro R hR
  simp only [st0, List.length_cons, List.length_nil, Nat.reduceAdd, Nat.reduceSub, List.replicate_succ, List.replicate_zero, List.cons_append, List.nil_append]
  repeat' (first | (with_reducible refine a_seq_k ?_; intro K hK) | (with_reducible first | refine a_block ?_ | refine a_ret ?_ | refine a_exit ?_ | refine a_skip ?_ | exact ConfOk.mk (by kernel_rfl)) | ((fail_if_success with_reducible show False); with_reducible apply_assumption (exfalso := false) (symm := false) only [*, rfl, trivial, congrArg]) | with_reducible refine And.intro ?_ ?_ | (intro h; contradiction) | (intro h; subst h) | intro h | ((try (with_reducible first | refine a_region (by kernel_rfl) ?_ | (refine a_draw mixed (by kernel_rfl) ?_; intro C hC) | (refine a_cond_k ?_; intro X Y hX hY) | refine RetOk.mk ?_)); simp (maxSteps := 10000000) (implicitDefEqProofs := false) only [go_sem, Dom.enc]))
  refine a_loop_k (fun n st => ∃ (g : Nat) (pre rest : List _) (u : Unit), kids = pre ++ rest ∧ n = rest.length ∧ ((pre.any emptyD) = false) ∧ Has st 93 [(1, .int .i64 first), (4, .ptr 4 0 0), (5, .ptr 5 1 0), (6, .ptr 6 2 0), (7, .ptr 7 3 0), (17, .slice (kids.map Dom.enc)), (18, .int .i64 kids.length), (19, .int .i64 pre.length)] [(4, .box 0 dZ), (5, .box 1 [.int .u8 3, .bool false, .bool false, .bool false, .int .i64 0, .int .i64 0]), (6, .box 2 [.bool (pre.any fun k => mayBe k first), .bool (pre.any (·.null)), .bool (pre.any (·.fail)), .bool (pre.any fun k => mayBe k (1 - first))]), (7, .box 3 [.bool (pre.all fun k => q0 first k), .bool (pre.all fun k => q1 first k), .bool (pre.all fun k => q2 first k), .bool (pre.all fun k => mayBe k (1 - first))])]) (kids).length ⟨0, [], kids, (), rfl, rfl, rfl, ⟨rfl, rfl, by simp [Dom.enc], by simp [Dom.enc]⟩⟩ ?_
  rintro n st ⟨g, pre, rest, u, he, rfl, hp, hs⟩ K hK
  have hw := wrap_nat pre.length (by have := congrArg List.length he; simp at this; omega)
  subst he
  refine a_has hs fun τ σ γ => ?_
  rcases rest with _ | ⟨x, rest⟩
  · simp only [List.append_nil] at hres
    rw [chain_eq hp] at hres
    generalize (pre.any fun k => mayBe k first) = s0 at *
    generalize (pre.any (·.null)) = s1 at *
    generalize (pre.any (·.fail)) = s2 at *
    generalize (pre.any fun k => mayBe k (1 - first)) = s3 at *
    generalize (pre.all fun k => q0 first k) = e0 at *
    generalize (pre.all fun k => q1 first k) = e1 at *
    generalize (pre.all fun k => q2 first k) = e2 at *
    generalize (pre.all fun k => mayBe k (1 - first)) = e3 at *
    have ht := facts_truth ⟨3, s1 && e1, s2 && e2, false, 0, 0⟩ (if first = 0 then e3 else s0) (if first = 0 then s0 else e3)
    simp only [dA, Dom.enc] at ht
    cases s1 <;> cases s2
    all_goals
      simp only [Bool.false_and, Bool.true_and] at ht hres
      by_cases hf0 : first = 0
      · rw [if_pos hf0, if_pos hf0] at ht hres
        repeat' (first | (with_reducible refine a_seq_k ?_; intro K hK) | (with_reducible first | refine a_block ?_ | refine a_ret ?_ | refine a_exit ?_ | refine a_skip ?_ | exact ConfOk.mk (by kernel_rfl)) | ((fail_if_success with_reducible show False); with_reducible apply_assumption (exfalso := false) (symm := false) only [*, rfl, trivial, congrArg]) | with_reducible refine And.intro ?_ ?_ | (intro h; contradiction) | (intro h; subst h) | intro h | ((try (with_reducible first | refine a_region (by kernel_rfl) ?_ | (refine a_draw mixed (by kernel_rfl) ?_; intro C hC) | (refine a_cond_k ?_; intro X Y hX hY) | refine RetOk.mk ?_ | refine CallS.intro (ht) ?_ | refine CallD.intro (ht) ?_)); simp (maxSteps := 10000000) (implicitDefEqProofs := false) only [go_sem, Dom.enc, hf0, hres]))
        all_goals simp [*]
      · rw [if_neg hf0, if_neg hf0] at ht hres
        repeat' (first | (with_reducible refine a_seq_k ?_; intro K hK) | (with_reducible first | refine a_block ?_ | refine a_ret ?_ | refine a_exit ?_ | refine a_skip ?_ | exact ConfOk.mk (by kernel_rfl)) | ((fail_if_success with_reducible show False); with_reducible apply_assumption (exfalso := false) (symm := false) only [*, rfl, trivial, congrArg]) | with_reducible refine And.intro ?_ ?_ | (intro h; contradiction) | (intro h; subst h) | intro h | ((try (with_reducible first | refine a_region (by kernel_rfl) ?_ | (refine a_draw mixed (by kernel_rfl) ?_; intro C hC) | (refine a_cond_k ?_; intro X Y hX hY) | refine RetOk.mk ?_ | refine CallS.intro (ht) ?_ | refine CallD.intro (ht) ?_)); simp (maxSteps := 10000000) (implicitDefEqProofs := false) only [go_sem, Dom.enc, hf0, hres]))
        all_goals simp [*]
  · have h0 : x.enc = [.int .u8 x.kind, .bool x.null, .bool x.fail, .bool x.some, .int .i64 x.lo, .int .i64 x.hi] := rfl
    have n1 := facts_empty x
    have n2 := facts_mayBe x first
    have n3 := facts_mayBe x (1 - first)
    simp only [dA, Dom.enc] at n1 n2 n3
    obtain ⟨c0, hc0⟩ : ∃ b, b = mayBe x first := ⟨_, rfl⟩
    obtain ⟨c3, hc3⟩ : ∃ b, b = mayBe x (1 - first) := ⟨_, rfl⟩
    obtain ⟨c1, hc1⟩ : ∃ b, b = x.null := ⟨_, rfl⟩
    obtain ⟨c2, hc2⟩ : ∃ b, b = x.fail := ⟨_, rfl⟩
    rw [← hc0] at n2
    rw [← hc3] at n3
    obtain ⟨s0, hs0⟩ : ∃ b, b = (pre.any fun k => mayBe k first) := ⟨_, rfl⟩
    obtain ⟨s1, hs1⟩ : ∃ b, b = (pre.any (·.null)) := ⟨_, rfl⟩
    obtain ⟨s2, hs2⟩ : ∃ b, b = (pre.any (·.fail)) := ⟨_, rfl⟩
    obtain ⟨s3, hs3⟩ : ∃ b, b = (pre.any fun k => mayBe k (1 - first)) := ⟨_, rfl⟩
    obtain ⟨e0, he0⟩ : ∃ b, b = (pre.all fun k => q0 first k) := ⟨_, rfl⟩
    obtain ⟨e1, he1⟩ : ∃ b, b = (pre.all fun k => q1 first k) := ⟨_, rfl⟩
    obtain ⟨e2, he2⟩ : ∃ b, b = (pre.all fun k => q2 first k) := ⟨_, rfl⟩
    obtain ⟨e3, he3⟩ : ∃ b, b = (pre.all fun k => mayBe k (1 - first)) := ⟨_, rfl⟩
    rw [← hs0, ← hs1, ← hs2, ← hs3, ← he0, ← he1, ← he2, ← he3]
    repeat' (first | (with_reducible refine a_seq_k ?_; intro K hK) | (with_reducible first | refine a_block ?_ | refine a_ret ?_ | refine a_exit ?_ | refine a_skip ?_ | exact ConfOk.mk (by kernel_rfl)) | ((fail_if_success with_reducible show False); with_reducible apply_assumption (exfalso := false) (symm := false) only [*, rfl, trivial, congrArg]) | with_reducible refine And.intro ?_ ?_ | (intro h; contradiction) | (intro h; subst h) | intro h | ((try (with_reducible first | refine a_region (by kernel_rfl) ?_ | (refine a_draw mixed (by kernel_rfl) ?_; intro C hC) | (refine a_cond_k ?_; intro X Y hX hY) | refine RetOk.mk ?_ | refine CallS.intro (n1) ?_ | refine CallD.intro (n1) ?_ | refine CallS.intro (n2) ?_ | refine CallD.intro (n2) ?_ | refine CallS.intro (n3) ?_ | refine CallD.intro (n3) ?_)); simp (maxSteps := 10000000) (implicitDefEqProofs := false) only [go_sem, Dom.enc, hw, hw1]))
    · have hx := chain_none (pre := pre) (rest := rest) (f := first) (by assumption)
      simp [hres, ← hx, noneD]
    · refine a_loop_k (fun m st => ∃ g : Nat, ((m = 4 ∧ Has st 93 [(1, .int .i64 first), (4, .ptr 4 0 0), (5, .ptr 5 1 0), (6, .ptr 6 2 0), (7, .ptr 7 3 0), (10, .ptr 10 g 0), (11, .bool false), (12, .int .i64 (3)), (17, .slice ((pre ++ x :: rest).map Dom.enc)), (18, .int .i64 (pre ++ x :: rest).length), (19, .int .i64 pre.length)] [(4, .box 0 dZ), (5, .box 1 [.int .u8 3, .bool false, .bool false, .bool false, .int .i64 0, .int .i64 0]), (6, .box 2 [.bool s0, .bool s1, .bool s2, .bool s3]), (7, .box 3 [.bool e0, .bool e1, .bool e2, .bool e3]), (10, .box g [.bool c0, .bool c1, .bool c2, .bool c3])]) ∨ (m = 3 ∧ Has st 93 [(1, .int .i64 first), (4, .ptr 4 0 0), (5, .ptr 5 1 0), (6, .ptr 6 2 0), (7, .ptr 7 3 0), (10, .ptr 10 g 0), (11, .bool c3), (12, .int .i64 (2)), (17, .slice ((pre ++ x :: rest).map Dom.enc)), (18, .int .i64 (pre ++ x :: rest).length), (19, .int .i64 pre.length)] [(4, .box 0 dZ), (5, .box 1 [.int .u8 3, .bool false, .bool false, .bool false, .int .i64 0, .int .i64 0]), (6, .box 2 [.bool s0, .bool s1, .bool s2, .bool (s3 || c3)]), (7, .box 3 [.bool e0, .bool e1, .bool e2, .bool (e3 && c3)]), (10, .box g [.bool c0, .bool c1, .bool c2, .bool c3])]) ∨ (m = 2 ∧ Has st 93 [(1, .int .i64 first), (4, .ptr 4 0 0), (5, .ptr 5 1 0), (6, .ptr 6 2 0), (7, .ptr 7 3 0), (10, .ptr 10 g 0), (11, .bool (c3 || c2)), (12, .int .i64 (1)), (17, .slice ((pre ++ x :: rest).map Dom.enc)), (18, .int .i64 (pre ++ x :: rest).length), (19, .int .i64 pre.length)] [(4, .box 0 dZ), (5, .box 1 [.int .u8 3, .bool false, .bool false, .bool false, .int .i64 0, .int .i64 0]), (6, .box 2 [.bool s0, .bool s1, .bool (s2 || c2), .bool (s3 || c3)]), (7, .box 3 [.bool e0, .bool e1, .bool (e2 && (c3 || c2)), .bool (e3 && c3)]), (10, .box g [.bool c0, .bool c1, .bool c2, .bool c3])]) ∨ (m = 1 ∧ Has st 93 [(1, .int .i64 first), (4, .ptr 4 0 0), (5, .ptr 5 1 0), (6, .ptr 6 2 0), (7, .ptr 7 3 0), (10, .ptr 10 g 0), (11, .bool ((c3 || c2) || c1)), (12, .int .i64 (0)), (17, .slice ((pre ++ x :: rest).map Dom.enc)), (18, .int .i64 (pre ++ x :: rest).length), (19, .int .i64 pre.length)] [(4, .box 0 dZ), (5, .box 1 [.int .u8 3, .bool false, .bool false, .bool false, .int .i64 0, .int .i64 0]), (6, .box 2 [.bool s0, .bool (s1 || c1), .bool (s2 || c2), .bool (s3 || c3)]), (7, .box 3 [.bool e0, .bool (e1 && ((c3 || c2) || c1)), .bool (e2 && (c3 || c2)), .bool (e3 && c3)]), (10, .box g [.bool c0, .bool c1, .bool c2, .bool c3])]) ∨ (m = 0 ∧ Has st 93 [(1, .int .i64 first), (4, .ptr 4 0 0), (5, .ptr 5 1 0), (6, .ptr 6 2 0), (7, .ptr 7 3 0), (10, .ptr 10 g 0), (11, .bool (((c3 || c2) || c1) || c0)), (12, .int .i64 (-1)), (17, .slice ((pre ++ x :: rest).map Dom.enc)), (18, .int .i64 (pre ++ x :: rest).length), (19, .int .i64 pre.length)] [(4, .box 0 dZ), (5, .box 1 [.int .u8 3, .bool false, .bool false, .bool false, .int .i64 0, .int .i64 0]), (6, .box 2 [.bool (s0 || c0), .bool (s1 || c1), .bool (s2 || c2), .bool (s3 || c3)]), (7, .box 3 [.bool (e0 && (((c3 || c2) || c1) || c0)), .bool (e1 && ((c3 || c2) || c1)), .bool (e2 && (c3 || c2)), .bool (e3 && c3)]), (10, .box g [.bool c0, .bool c1, .bool c2, .bool c3])]))) 4 ⟨γ + 1 + 1 + 1, .inl ⟨rfl, ⟨rfl, rfl, by simp [Dom.enc, *], by simp [Dom.enc, *]⟩⟩⟩ ?_
      rintro m st ⟨g, h⟩ K' hK'
      rcases h with ⟨rfl, hs⟩ | ⟨rfl, hs⟩ | ⟨rfl, hs⟩ | ⟨rfl, hs⟩ | ⟨rfl, hs⟩
      · refine a_has hs fun τ σ γ => ?_
        clear hc0 hc1 hc2 hc3 hs0 hs1 hs2 hs3 he0 he1 he2 he3
        all_goals
          repeat' (first | (with_reducible refine a_seq_k ?_; intro K hK) | (with_reducible first | refine a_block ?_ | refine a_ret ?_ | refine a_exit ?_ | refine a_skip ?_ | exact ConfOk.mk (by kernel_rfl)) | ((fail_if_success with_reducible show False); with_reducible apply_assumption (exfalso := false) (symm := false) only [*, rfl, trivial, congrArg]) | with_reducible refine And.intro ?_ ?_ | (intro h; contradiction) | (intro h; subst h) | intro h | ((try (with_reducible first | refine a_region (by kernel_rfl) ?_ | (refine a_draw mixed (by kernel_rfl) ?_; intro C hC) | (refine a_cond_k ?_; intro X Y hX hY) | refine RetOk.mk ?_)); simp (maxSteps := 10000000) (implicitDefEqProofs := false) only [go_sem, Dom.enc, we3, we2, we1, we0]))
          any_goals omega
          all_goals exact ⟨⟨3, by omega, g, .inr (.inl ⟨rfl, ⟨rfl, rfl, by simp [Dom.enc, *], by simp [Dom.enc, *]⟩⟩)⟩⟩
      · refine a_has hs fun τ σ γ => ?_
        clear hc0 hc1 hc2 hc3 hs0 hs1 hs2 hs3 he0 he1 he2 he3
        cases hq : c3
        all_goals
          repeat' (first | (with_reducible refine a_seq_k ?_; intro K hK) | (with_reducible first | refine a_block ?_ | refine a_ret ?_ | refine a_exit ?_ | refine a_skip ?_ | exact ConfOk.mk (by kernel_rfl)) | ((fail_if_success with_reducible show False); with_reducible apply_assumption (exfalso := false) (symm := false) only [*, rfl, trivial, congrArg]) | with_reducible refine And.intro ?_ ?_ | (intro h; contradiction) | (intro h; subst h) | intro h | ((try (with_reducible first | refine a_region (by kernel_rfl) ?_ | (refine a_draw mixed (by kernel_rfl) ?_; intro C hC) | (refine a_cond_k ?_; intro X Y hX hY) | refine RetOk.mk ?_)); simp (maxSteps := 10000000) (implicitDefEqProofs := false) only [go_sem, Dom.enc, hq, we3, we2, we1, we0]))
          any_goals omega
          all_goals exact ⟨⟨2, by omega, g, .inr (.inr (.inl ⟨rfl, ⟨rfl, rfl, by simp [Dom.enc, *], by simp [Dom.enc, *]⟩⟩))⟩⟩
      · refine a_has hs fun τ σ γ => ?_
        clear hc0 hc1 hc2 hc3 hs0 hs1 hs2 hs3 he0 he1 he2 he3
        cases hq : (c3 || c2)
        all_goals
          repeat' (first | (with_reducible refine a_seq_k ?_; intro K hK) | (with_reducible first | refine a_block ?_ | refine a_ret ?_ | refine a_exit ?_ | refine a_skip ?_ | exact ConfOk.mk (by kernel_rfl)) | ((fail_if_success with_reducible show False); with_reducible apply_assumption (exfalso := false) (symm := false) only [*, rfl, trivial, congrArg]) | with_reducible refine And.intro ?_ ?_ | (intro h; contradiction) | (intro h; subst h) | intro h | ((try (with_reducible first | refine a_region (by kernel_rfl) ?_ | (refine a_draw mixed (by kernel_rfl) ?_; intro C hC) | (refine a_cond_k ?_; intro X Y hX hY) | refine RetOk.mk ?_)); simp (maxSteps := 10000000) (implicitDefEqProofs := false) only [go_sem, Dom.enc, hq, we3, we2, we1, we0]))
          any_goals omega
          all_goals exact ⟨⟨1, by omega, g, .inr (.inr (.inr (.inl ⟨rfl, ⟨rfl, rfl, by simp [Dom.enc, *], by simp [Dom.enc, *]⟩⟩)))⟩⟩
      · refine a_has hs fun τ σ γ => ?_
        clear hc0 hc1 hc2 hc3 hs0 hs1 hs2 hs3 he0 he1 he2 he3
        cases hq : ((c3 || c2) || c1)
        all_goals
          repeat' (first | (with_reducible refine a_seq_k ?_; intro K hK) | (with_reducible first | refine a_block ?_ | refine a_ret ?_ | refine a_exit ?_ | refine a_skip ?_ | exact ConfOk.mk (by kernel_rfl)) | ((fail_if_success with_reducible show False); with_reducible apply_assumption (exfalso := false) (symm := false) only [*, rfl, trivial, congrArg]) | with_reducible refine And.intro ?_ ?_ | (intro h; contradiction) | (intro h; subst h) | intro h | ((try (with_reducible first | refine a_region (by kernel_rfl) ?_ | (refine a_draw mixed (by kernel_rfl) ?_; intro C hC) | (refine a_cond_k ?_; intro X Y hX hY) | refine RetOk.mk ?_)); simp (maxSteps := 10000000) (implicitDefEqProofs := false) only [go_sem, Dom.enc, hq, we3, we2, we1, we0]))
          any_goals omega
          all_goals exact ⟨⟨0, by omega, g, .inr (.inr (.inr (.inr (⟨rfl, ⟨rfl, rfl, by simp [Dom.enc, *], by simp [Dom.enc, *]⟩⟩))))⟩⟩
      · refine a_has hs fun τ σ γ => ?_
        repeat' (first | (with_reducible refine a_seq_k ?_; intro K hK) | (with_reducible first | refine a_block ?_ | refine a_ret ?_ | refine a_exit ?_ | refine a_skip ?_ | exact ConfOk.mk (by kernel_rfl)) | ((fail_if_success with_reducible show False); with_reducible apply_assumption (exfalso := false) (symm := false) only [*, rfl, trivial, congrArg]) | with_reducible refine And.intro ?_ ?_ | (intro h; contradiction) | (intro h; subst h) | intro h | ((try (with_reducible first | refine a_region (by kernel_rfl) ?_ | (refine a_draw mixed (by kernel_rfl) ?_; intro C hC) | (refine a_cond_k ?_; intro X Y hX hY) | refine RetOk.mk ?_)); simp (maxSteps := 10000000) (implicitDefEqProofs := false) only [go_sem, Dom.enc, hw]))
        subst hs0 hs1 hs2 hs3 he0 he1 he2 he3 hc0 hc1 hc2 hc3
        all_goals exact ⟨⟨rest.length, by simp, 0, pre ++ [x], rest, (), by simp, rfl, by simp [*], ⟨rfl, rfl, by simp [Dom.enc], by simp [Dom.enc]⟩⟩⟩
-- @enc(wideL, Dom.enc, k64)@
@[reducible] def stuckD (k : Dom) : Bool := !k.null && !k.some
theorem facts_strict (op kind : Int) (kids : List Dom) (a b : Dom) (hl : kids.length < 2 ^ 40) (hk : (kids = [a] ∧ b = a ∧ op ≠ 18) ∨ kids = [a, b]) (hia : a.In) (hib : b.In) :
    ACalls Tryz.prog 169 [.int .u8 op, dA (noneD kind), doms kids] (dA (strictD op kind kids (fun c => mayBe c 1) (fun c => mayBe c 0) (sameC a b) (mC (byOf b)) false)) := by
  obtain ⟨res, hres⟩ : ∃ res, res = strictD op kind kids (fun c => mayBe c 1) (fun c => mayBe c 0) (sameC a b) (mC (byOf b)) false := ⟨_, rfl⟩
  rw [← hres]
  refine acalls_k Tryz.func169 rfl (by kernel_rfl) (congrArg Array.toList Tryz.results169) Tryz.ntmps169 ?_
  intro R hR
  simp only [st0, List.length_cons, List.length_nil, Nat.reduceAdd, Nat.reduceSub, List.replicate_succ, List.replicate_zero, List.cons_append, List.nil_append]
  repeat' (first | (with_reducible refine a_seq_k ?_; intro K hK) | (with_reducible first | refine a_block ?_ | refine a_ret ?_ | refine a_exit ?_ | refine a_skip ?_ | exact ConfOk.mk (by kernel_rfl)) | ((fail_if_success with_reducible show False); with_reducible apply_assumption (exfalso := false) (symm := false) only [*, rfl, trivial, congrArg]) | with_reducible refine And.intro ?_ ?_ | (intro h; contradiction) | (intro h; subst h) | intro h | ((try (with_reducible first | refine a_region (by kernel_rfl) ?_ | (refine a_draw mixed (by kernel_rfl) ?_; intro C hC) | (refine a_cond_k ?_; intro X Y hX hY) | refine RetOk.mk ?_)); simp (maxSteps := 10000000) (implicitDefEqProofs := false) only [go_sem, Dom.enc, noneD]))
  refine a_loop_k (fun n st => ∃ (g : Nat) (pre rest : List _) (u : Unit), kids = pre ++ rest ∧ n = rest.length ∧ (True) ∧ Has st 132 [(0, .int .u8 op), (2, .slice (kids.map Dom.enc)), (4, .ptr 4 0 0), (6, .ptr 6 0 0), (7, .bool (pre.any (·.null))), (8, .bool (pre.all (·.some))), (9, .bool (pre.any stuckD)), (18, .slice (kids.map Dom.enc)), (19, .int .i64 kids.length), (20, .int .i64 pre.length)] [(4, .box 0 [.int .u8 kind, .bool false, .bool (pre.any (·.fail)), .bool false, .int .i64 0, .int .i64 0]), (6, .box 0 dZ)]) (kids).length ⟨0, [], kids, (), rfl, rfl, trivial, ⟨rfl, rfl, by simp [wideL, Dom.enc, k64], by simp [wideL, Dom.enc, k64]⟩⟩ ?_
  rintro n st ⟨g, pre, rest, u, he, rfl, hp, hs⟩ K hK
  have hw := wrap_nat pre.length (by have := congrArg List.length he; simp at this; omega)
  subst he
  refine a_has hs fun τ σ γ => ?_
  rcases rest with _ | ⟨x, rest⟩
  · simp only [List.append_nil] at hk hres
    obtain ⟨bn, hbn⟩ : ∃ x, x = pre.any (·.null) := ⟨_, rfl⟩
    obtain ⟨bs, hbs⟩ : ∃ x, x = pre.all (·.some) := ⟨_, rfl⟩
    obtain ⟨bk, hbk⟩ : ∃ x, x = pre.any stuckD := ⟨_, rfl⟩
    obtain ⟨bf, hbf⟩ : ∃ x, x = pre.any (·.fail) := ⟨_, rfl⟩
    rw [← hbn, ← hbs, ← hbk, ← hbf]
    obtain ⟨e, he⟩ : ∃ e : Dom, e = ⟨kind, false, bf, false, 0, 0⟩ := ⟨_, rfl⟩
    obtain ⟨e2, he2⟩ : ∃ e2 : Dom, e2 = ⟨kind, bn, bf, false, 0, 0⟩ := ⟨_, rfl⟩
    have er : res = (if bk = true then e else if op = 20 then truthD e a.null a.some else if op = 21 then truthD e (mayBe a 1) (a.null || mayBe a 0) else if op = 18 then truthD e ((a.null && b.null) || (if bs = true then sameC a b else (false, false)).1) (((a.null && b.some) || (a.some && b.null)) || (if bs = true then sameC a b else (false, false)).2) else if bs = true then operD op e2 a b (sameC a b) (mC (byOf b)) false else e2) := by
      rw [hres, he, he2, hbn, hbs, hbk, hbf]
      rcases hk with ⟨rfl, rfl, _⟩ | rfl <;> rfl
    clear hres
    have n1 := facts_truth e a.null a.some
    have n2 := facts_mayBe a 1
    have n3 := facts_mayBe a 0
    have n5 := facts_same a b
    have n6 := fun y z => facts_truth e y z
    have n7 : ACalls Tryz.prog 248 [.int .u8 op, dA e2, doms pre] (dA (operD op e2 a b (sameC a b) (mC (byOf b)) false)) := by
      rcases hk with ⟨rfl, rfl, _⟩ | rfl
      · exact facts_operate1 op e2 _ hia
      · exact facts_operate2 op e2 a b hia hib
    obtain ⟨r7, hr7⟩ : ∃ r, r = operD op e2 a b (sameC a b) (mC (byOf b)) false := ⟨_, rfl⟩
    rw [← hr7] at er n7
    have e1k : e.kind = kind ∧ e.null = false ∧ e.fail = bf ∧ e.some = false ∧ e.lo = 0 ∧ e.hi = 0 := by rw [he]; simp
    have e2k : e2.kind = kind ∧ e2.null = bn ∧ e2.fail = bf ∧ e2.some = false ∧ e2.lo = 0 ∧ e2.hi = 0 := by rw [he2]; simp
    obtain ⟨u1, u2, u3, u4, u5, u6⟩ := e1k
    obtain ⟨v1, v2, v3, v4, v5, v6⟩ := e2k
    have hhd : ∃ z, (pre = [a] ∧ z = [] ∧ op ≠ 18) ∨ (pre = [a, b] ∧ z = [b]) := by
      rcases hk with ⟨rfl, rfl, h⟩ | rfl
      · exact ⟨_, .inl ⟨rfl, rfl, h⟩⟩
      · exact ⟨_, .inr ⟨rfl, rfl⟩⟩
    generalize sameC a b = sp at *
    generalize mayBe a 1 = m1 at *
    generalize mayBe a 0 = m0 at *
    clear hbn hbs hbk hbf hk he he2
    simp only [dA, Dom.enc, u1, u2, u3, u4, u5, u6, v1, v2, v3, v4, v5, v6] at n1 n2 n3 n5 n6 n7
    cases bk with
    | true =>
      rw [if_pos rfl] at er
      repeat' (first | (with_reducible refine a_seq_k ?_; intro K hK) | (with_reducible first | refine a_block ?_ | refine a_ret ?_ | refine a_exit ?_ | refine a_skip ?_ | exact ConfOk.mk (by kernel_rfl)) | ((fail_if_success with_reducible show False); with_reducible apply_assumption (exfalso := false) (symm := false) only [*, rfl, trivial, congrArg]) | with_reducible refine And.intro ?_ ?_ | (intro h; contradiction) | (intro h; subst h) | intro h | ((try (with_reducible first | refine a_region (by kernel_rfl) ?_ | (refine a_draw mixed (by kernel_rfl) ?_; intro C hC) | (refine a_cond_k ?_; intro X Y hX hY) | refine RetOk.mk ?_)); simp (maxSteps := 10000000) (implicitDefEqProofs := false) only [go_sem, Dom.enc, er, u1, u2, u3, u4, u5, u6]))
    | false =>
      rw [if_neg (by simp)] at er
      by_cases o20 : op = 20
      · rw [if_pos o20] at er
        rcases hhd with ⟨z, ⟨rfl, _, _⟩ | ⟨rfl, _⟩⟩
        · repeat' (first | (with_reducible refine a_seq_k ?_; intro K hK) | (with_reducible first | refine a_block ?_ | refine a_ret ?_ | refine a_exit ?_ | refine a_skip ?_ | exact ConfOk.mk (by kernel_rfl)) | ((fail_if_success with_reducible show False); with_reducible apply_assumption (exfalso := false) (symm := false) only [*, rfl, trivial, congrArg]) | with_reducible refine And.intro ?_ ?_ | (intro h; contradiction) | (intro h; subst h) | intro h | ((try (with_reducible first | refine a_region (by kernel_rfl) ?_ | (refine a_draw mixed (by kernel_rfl) ?_; intro C hC) | (refine a_cond_k ?_; intro X Y hX hY) | refine RetOk.mk ?_ | refine CallS.intro (n1) ?_ | refine CallD.intro (n1) ?_)); simp (maxSteps := 10000000) (implicitDefEqProofs := false) only [go_sem, Dom.enc, er, o20]))
        · repeat' (first | (with_reducible refine a_seq_k ?_; intro K hK) | (with_reducible first | refine a_block ?_ | refine a_ret ?_ | refine a_exit ?_ | refine a_skip ?_ | exact ConfOk.mk (by kernel_rfl)) | ((fail_if_success with_reducible show False); with_reducible apply_assumption (exfalso := false) (symm := false) only [*, rfl, trivial, congrArg]) | with_reducible refine And.intro ?_ ?_ | (intro h; contradiction) | (intro h; subst h) | intro h | ((try (with_reducible first | refine a_region (by kernel_rfl) ?_ | (refine a_draw mixed (by kernel_rfl) ?_; intro C hC) | (refine a_cond_k ?_; intro X Y hX hY) | refine RetOk.mk ?_ | refine CallS.intro (n1) ?_ | refine CallD.intro (n1) ?_)); simp (maxSteps := 10000000) (implicitDefEqProofs := false) only [go_sem, Dom.enc, er, o20]))
      rw [if_neg o20] at er
      by_cases o21 : op = 21
      · rw [if_pos o21] at er
        rcases hhd with ⟨z, ⟨rfl, _, _⟩ | ⟨rfl, _⟩⟩
        · repeat' (first | (with_reducible refine a_seq_k ?_; intro K hK) | (with_reducible first | refine a_block ?_ | refine a_ret ?_ | refine a_exit ?_ | refine a_skip ?_ | exact ConfOk.mk (by kernel_rfl)) | ((fail_if_success with_reducible show False); with_reducible apply_assumption (exfalso := false) (symm := false) only [*, rfl, trivial, congrArg]) | with_reducible refine And.intro ?_ ?_ | (intro h; contradiction) | (intro h; subst h) | intro h | ((try (with_reducible first | refine a_region (by kernel_rfl) ?_ | (refine a_draw mixed (by kernel_rfl) ?_; intro C hC) | (refine a_cond_k ?_; intro X Y hX hY) | refine RetOk.mk ?_ | refine CallS.intro (n2) ?_ | refine CallD.intro (n2) ?_ | refine CallS.intro (n3) ?_ | refine CallD.intro (n3) ?_ | refine CallS.intro (n6 _ _) ?_ | refine CallD.intro (n6 _ _) ?_)); simp (maxSteps := 10000000) (implicitDefEqProofs := false) only [go_sem, Dom.enc, er, o21]))
          all_goals first | (simp [*]; done) | (exfalso; simp_all only [reduceCtorEq]; done)
        · repeat' (first | (with_reducible refine a_seq_k ?_; intro K hK) | (with_reducible first | refine a_block ?_ | refine a_ret ?_ | refine a_exit ?_ | refine a_skip ?_ | exact ConfOk.mk (by kernel_rfl)) | ((fail_if_success with_reducible show False); with_reducible apply_assumption (exfalso := false) (symm := false) only [*, rfl, trivial, congrArg]) | with_reducible refine And.intro ?_ ?_ | (intro h; contradiction) | (intro h; subst h) | intro h | ((try (with_reducible first | refine a_region (by kernel_rfl) ?_ | (refine a_draw mixed (by kernel_rfl) ?_; intro C hC) | (refine a_cond_k ?_; intro X Y hX hY) | refine RetOk.mk ?_ | refine CallS.intro (n2) ?_ | refine CallD.intro (n2) ?_ | refine CallS.intro (n3) ?_ | refine CallD.intro (n3) ?_ | refine CallS.intro (n6 _ _) ?_ | refine CallD.intro (n6 _ _) ?_)); simp (maxSteps := 10000000) (implicitDefEqProofs := false) only [go_sem, Dom.enc, er, o21]))
          all_goals first | (simp [*]; done) | (exfalso; simp_all only [reduceCtorEq]; done)
      rw [if_neg o21] at er
      by_cases o18 : op = 18
      · rw [if_pos o18] at er
        rcases hhd with ⟨z, ⟨rfl, _, h⟩ | ⟨rfl, _⟩⟩
        · exact absurd o18 h
        · cases bs
          · repeat' (first | (with_reducible refine a_seq_k ?_; intro K hK) | (with_reducible first | refine a_block ?_ | refine a_ret ?_ | refine a_exit ?_ | refine a_skip ?_ | exact ConfOk.mk (by kernel_rfl)) | ((fail_if_success with_reducible show False); with_reducible apply_assumption (exfalso := false) (symm := false) only [*, rfl, trivial, congrArg]) | with_reducible refine And.intro ?_ ?_ | (intro h; contradiction) | (intro h; subst h) | intro h | ((try (with_reducible first | refine a_region (by kernel_rfl) ?_ | (refine a_draw mixed (by kernel_rfl) ?_; intro C hC) | (refine a_cond_k ?_; intro X Y hX hY) | refine RetOk.mk ?_ | refine CallS.intro (n6 _ _) ?_ | refine CallD.intro (n6 _ _) ?_ | refine CallS.intro (n5) ?_ | refine CallD.intro (n5) ?_)); simp (maxSteps := 10000000) (implicitDefEqProofs := false) only [go_sem, Dom.enc, er, o18]))
            all_goals first | (simp [*]; done) | (exfalso; simp_all only [reduceCtorEq]; done)
          · repeat' (first | (with_reducible refine a_seq_k ?_; intro K hK) | (with_reducible first | refine a_block ?_ | refine a_ret ?_ | refine a_exit ?_ | refine a_skip ?_ | exact ConfOk.mk (by kernel_rfl)) | ((fail_if_success with_reducible show False); with_reducible apply_assumption (exfalso := false) (symm := false) only [*, rfl, trivial, congrArg]) | with_reducible refine And.intro ?_ ?_ | (intro h; contradiction) | (intro h; subst h) | intro h | ((try (with_reducible first | refine a_region (by kernel_rfl) ?_ | (refine a_draw mixed (by kernel_rfl) ?_; intro C hC) | (refine a_cond_k ?_; intro X Y hX hY) | refine RetOk.mk ?_ | refine CallS.intro (n6 _ _) ?_ | refine CallD.intro (n6 _ _) ?_ | refine CallS.intro (n5) ?_ | refine CallD.intro (n5) ?_)); simp (maxSteps := 10000000) (implicitDefEqProofs := false) only [go_sem, Dom.enc, er, o18]))
            all_goals first | (simp [*]; done) | (exfalso; simp_all only [reduceCtorEq]; done)
      rw [if_neg o18] at er
      cases bs
      · rw [if_neg (by simp)] at er
        rcases hhd with ⟨z, ⟨rfl, _, _⟩ | ⟨rfl, _⟩⟩
        · repeat' (first | (with_reducible refine a_seq_k ?_; intro K hK) | (with_reducible first | refine a_block ?_ | refine a_ret ?_ | refine a_exit ?_ | refine a_skip ?_ | exact ConfOk.mk (by kernel_rfl)) | ((fail_if_success with_reducible show False); with_reducible apply_assumption (exfalso := false) (symm := false) only [*, rfl, trivial, congrArg]) | with_reducible refine And.intro ?_ ?_ | (intro h; contradiction) | (intro h; subst h) | intro h | ((try (with_reducible first | refine a_region (by kernel_rfl) ?_ | (refine a_draw mixed (by kernel_rfl) ?_; intro C hC) | (refine a_cond_k ?_; intro X Y hX hY) | refine RetOk.mk ?_)); simp (maxSteps := 10000000) (implicitDefEqProofs := false) only [go_sem, Dom.enc, er, o20, o21, o18, v1, v2, v3, v4, v5, v6]))
        · repeat' (first | (with_reducible refine a_seq_k ?_; intro K hK) | (with_reducible first | refine a_block ?_ | refine a_ret ?_ | refine a_exit ?_ | refine a_skip ?_ | exact ConfOk.mk (by kernel_rfl)) | ((fail_if_success with_reducible show False); with_reducible apply_assumption (exfalso := false) (symm := false) only [*, rfl, trivial, congrArg]) | with_reducible refine And.intro ?_ ?_ | (intro h; contradiction) | (intro h; subst h) | intro h | ((try (with_reducible first | refine a_region (by kernel_rfl) ?_ | (refine a_draw mixed (by kernel_rfl) ?_; intro C hC) | (refine a_cond_k ?_; intro X Y hX hY) | refine RetOk.mk ?_)); simp (maxSteps := 10000000) (implicitDefEqProofs := false) only [go_sem, Dom.enc, er, o20, o21, o18, v1, v2, v3, v4, v5, v6]))
      · rw [if_pos rfl] at er
        rcases hhd with ⟨z, ⟨rfl, _, _⟩ | ⟨rfl, _⟩⟩
        · simp only [doms, List.map_cons, List.map_nil, Dom.enc] at n7
          repeat' (first | (with_reducible refine a_seq_k ?_; intro K hK) | (with_reducible first | refine a_block ?_ | refine a_ret ?_ | refine a_exit ?_ | refine a_skip ?_ | exact ConfOk.mk (by kernel_rfl)) | ((fail_if_success with_reducible show False); with_reducible apply_assumption (exfalso := false) (symm := false) only [*, rfl, trivial, congrArg]) | with_reducible refine And.intro ?_ ?_ | (intro h; contradiction) | (intro h; subst h) | intro h | ((try (with_reducible first | refine a_region (by kernel_rfl) ?_ | (refine a_draw mixed (by kernel_rfl) ?_; intro C hC) | (refine a_cond_k ?_; intro X Y hX hY) | refine RetOk.mk ?_ | refine CallS.intro (n7) ?_ | refine CallD.intro (n7) ?_)); simp (maxSteps := 10000000) (implicitDefEqProofs := false) only [go_sem, Dom.enc, er, o20, o21, o18]))
        · simp only [doms, List.map_cons, List.map_nil, Dom.enc] at n7
          repeat' (first | (with_reducible refine a_seq_k ?_; intro K hK) | (with_reducible first | refine a_block ?_ | refine a_ret ?_ | refine a_exit ?_ | refine a_skip ?_ | exact ConfOk.mk (by kernel_rfl)) | ((fail_if_success with_reducible show False); with_reducible apply_assumption (exfalso := false) (symm := false) only [*, rfl, trivial, congrArg]) | with_reducible refine And.intro ?_ ?_ | (intro h; contradiction) | (intro h; subst h) | intro h | ((try (with_reducible first | refine a_region (by kernel_rfl) ?_ | (refine a_draw mixed (by kernel_rfl) ?_; intro C hC) | (refine a_cond_k ?_; intro X Y hX hY) | refine RetOk.mk ?_ | refine CallS.intro (n7) ?_ | refine CallD.intro (n7) ?_)); simp (maxSteps := 10000000) (implicitDefEqProofs := false) only [go_sem, Dom.enc, er, o20, o21, o18]))
  · repeat' (first | (with_reducible refine a_seq_k ?_; intro K hK) | (with_reducible first | refine a_block ?_ | refine a_ret ?_ | refine a_exit ?_ | refine a_skip ?_ | exact ConfOk.mk (by kernel_rfl)) | ((fail_if_success with_reducible show False); with_reducible apply_assumption (exfalso := false) (symm := false) only [*, rfl, trivial, congrArg]) | with_reducible refine And.intro ?_ ?_ | (intro h; contradiction) | (intro h; subst h) | intro h | ((try (with_reducible first | refine a_region (by kernel_rfl) ?_ | (refine a_draw mixed (by kernel_rfl) ?_; intro C hC) | (refine a_cond_k ?_; intro X Y hX hY) | refine RetOk.mk ?_)); simp (maxSteps := 10000000) (implicitDefEqProofs := false) only [go_sem, Dom.enc, hw]))
    all_goals exact ⟨⟨rest.length, by simp, 0, pre ++ [x], rest, (), by simp, rfl, ⟨rfl, rfl, by simp [Dom.enc, *], by simp [Dom.enc, *]⟩⟩⟩
-- @enc(Dom.enc, kd, dZ, noneD)@
attribute [local go_sem] memS memS0 memT allocB
theorem set_rep {α : Type} (a : List α) (n : Nat) (z v : α) : (a ++ List.replicate (n + 1) z).set a.length v = (a ++ [v]) ++ List.replicate n z := by
  simp [List.replicate_succ]
theorem getD_rep {α : Type} (a : List α) (n : Nat) (z w : α) : (a ++ List.replicate (n + 1) z).getD a.length w = z := by
  simp [List.replicate_succ]
theorem len6 (c v : Dom) (r : List Dom) : ∀ y ∈ c.enc :: v.enc :: r.map Dom.enc, y.length = 6 := by
  intro y h
  rw [List.mem_cons, List.mem_cons, List.mem_map] at h
  rcases h with rfl | rfl | ⟨z, _, rfl⟩ <;> rfl
theorem facts_node (op k : Int) (kids : List Dom) (hl : kids.length < 2 ^ 40) (hk : (kindC op (kids.map (·.kind))).1 = k)
    (hs : kids.any emptyD = false → op ≠ 23 → op ≠ 24 → op ≠ 25 → op ≠ 26 → ACalls Tryz.prog 169 [.int .u8 op, dA (noneD k), doms kids] (dA (nodeD op k kids))) :
    ACalls Tryz.prog 88 [.int .u8 op, .sliceF (kids.map Dom.enc)] (dA (nodeD op k kids)) := by
  obtain ⟨res, hres⟩ : ∃ r, r = nodeD op k kids := ⟨_, rfl⟩
  rw [← hres] at hs ⊢
  have c1 := sl_ContainsFuncD kids 91 [] emptyD (fun _ _ => rfl) facts_empty (by omega)
  unfold nodeD at hres
  obtain ⟨eb, heb⟩ : ∃ b, b = kids.any emptyD := ⟨_, rfl⟩
  rw [← heb] at c1 hs hres
  have c2 := (calc_Kind op (kids.map (·.kind)) (by simpa using Nat.lt_trans hl (by decide)))
  rw [hk] at c2
  generalize (kindC op (kids.map (·.kind))).2 = er at c2
  refine acalls_k Tryz.func88 rfl (by kernel_rfl) (congrArg Array.toList Tryz.results88) Tryz.ntmps88 ?_
  intro R hR
  simp only [st0, List.length_cons, List.length_nil, Nat.reduceAdd, Nat.reduceSub, List.replicate_succ, List.replicate_zero, List.cons_append, List.nil_append]
  repeat' (first | (with_reducible refine a_seq_k ?_; intro K hK) | (with_reducible first | refine a_block ?_ | refine a_ret ?_ | refine a_exit ?_ | refine a_skip ?_ | exact ConfOk.mk (by kernel_rfl)) | ((fail_if_success with_reducible show False); with_reducible apply_assumption (exfalso := false) (symm := false) only [*, rfl, trivial, congrArg]) | with_reducible refine And.intro ?_ ?_ | (intro h; contradiction) | (intro h; subst h) | intro h | ((try (with_reducible first | refine a_region (by kernel_rfl) ?_ | (refine a_draw mixed (by kernel_rfl) ?_; intro C hC) | (refine a_cond_k ?_; intro X Y hX hY) | refine RetOk.mk ?_)); simp (maxSteps := 10000000) (implicitDefEqProofs := false) only [go_sem, Dom.enc]))
  any_goals omega
  simp only [kinds, List.map_map, Function.comp_def, kd] at c2
  refine a_loop_k (fun n st => ∃ (g : Nat) (pre rest : List _) (u : Unit), kids = pre ++ rest ∧ n = rest.length ∧ (True) ∧ Has st 116 [(0, .int .u8 op), (1, .sliceF (kids.map Dom.enc)), (4, .ptr 4 0 0), (5, .viewF 17 1), (18, .sliceF (kids.map Dom.enc)), (19, .int .i64 kids.length), (20, .int .i64 pre.length)] [(4, .box 0 dZ), (17, .row 1 1 (pre.map (fun x => [.int .u8 x.kind]) ++ List.replicate rest.length [.int .u8 0]))]) (kids).length ⟨0, [], kids, (), rfl, rfl, trivial, ⟨rfl, rfl, by simp [Dom.enc, kd, dZ, noneD], by simp [Dom.enc, kd, dZ, noneD]⟩⟩ ?_
  rintro n st ⟨g, pre, rest, u, he, rfl, hp, hs⟩ K hK
  have hw := wrap_nat pre.length (by have := congrArg List.length he; simp at this; omega)
  subst he
  refine a_has hs fun τ σ γ => ?_
  rcases rest with _ | ⟨x, rest⟩
  · simp only [List.append_nil, List.length_nil, List.replicate_zero] at *
    have c3 := facts_chain pre 0 (.inl rfl) hl
    have c4 := facts_chain pre 1 (.inr rfl) hl
    simp only [dA, Dom.enc, noneD, doms] at c1 c3 c4 hs
    cases eb with
    | true =>
      rw [if_pos rfl] at hres
      repeat' (first | (with_reducible refine a_seq_k ?_; intro K hK) | (with_reducible first | refine a_block ?_ | refine a_ret ?_ | refine a_exit ?_ | refine a_skip ?_ | exact ConfOk.mk (by kernel_rfl)) | ((fail_if_success with_reducible show False); with_reducible apply_assumption (exfalso := false) (symm := false) only [*, rfl, trivial, congrArg]) | with_reducible refine And.intro ?_ ?_ | (intro h; contradiction) | (intro h; subst h) | intro h | ((try (with_reducible first | refine a_region (by kernel_rfl) ?_ | (refine a_draw mixed (by kernel_rfl) ?_; intro C hC) | (refine a_cond_k ?_; intro X Y hX hY) | refine RetOk.mk ?_ | refine CallS.intro (c2.weakF rfl) ?_ | refine CallD.intro (c2.weakF rfl) ?_ | refine CallS.intro (c1.weakF rfl) ?_ | refine CallD.intro (c1.weakF rfl) ?_)); simp (maxSteps := 10000000) (implicitDefEqProofs := false) only [go_sem, Dom.enc, hres, noneD]))
    | false =>
      rw [if_neg (by simp)] at hres
      by_cases o23 : op = 23
      · rw [if_pos o23] at hres
        subst o23
        repeat' (first | (with_reducible refine a_seq_k ?_; intro K hK) | (with_reducible first | refine a_block ?_ | refine a_ret ?_ | refine a_exit ?_ | refine a_skip ?_ | exact ConfOk.mk (by kernel_rfl)) | ((fail_if_success with_reducible show False); with_reducible apply_assumption (exfalso := false) (symm := false) only [*, rfl, trivial, congrArg]) | with_reducible refine And.intro ?_ ?_ | (intro h; contradiction) | (intro h; subst h) | intro h | ((try (with_reducible first | refine a_region (by kernel_rfl) ?_ | (refine a_draw mixed (by kernel_rfl) ?_; intro C hC) | (refine a_cond_k ?_; intro X Y hX hY) | refine RetOk.mk ?_ | refine CallS.intro (c2.weakF rfl) ?_ | refine CallD.intro (c2.weakF rfl) ?_ | refine CallS.intro (c1.weakF rfl) ?_ | refine CallD.intro (c1.weakF rfl) ?_ | refine CallS.intro (c3.weakF rfl) ?_ | refine CallD.intro (c3.weakF rfl) ?_)); simp (maxSteps := 10000000) (implicitDefEqProofs := false) only [go_sem, Dom.enc, hres, noneD]))
      rw [if_neg o23] at hres
      by_cases o24 : op = 24
      · rw [if_pos o24] at hres
        subst o24
        repeat' (first | (with_reducible refine a_seq_k ?_; intro K hK) | (with_reducible first | refine a_block ?_ | refine a_ret ?_ | refine a_exit ?_ | refine a_skip ?_ | exact ConfOk.mk (by kernel_rfl)) | ((fail_if_success with_reducible show False); with_reducible apply_assumption (exfalso := false) (symm := false) only [*, rfl, trivial, congrArg]) | with_reducible refine And.intro ?_ ?_ | (intro h; contradiction) | (intro h; subst h) | intro h | ((try (with_reducible first | refine a_region (by kernel_rfl) ?_ | (refine a_draw mixed (by kernel_rfl) ?_; intro C hC) | (refine a_cond_k ?_; intro X Y hX hY) | refine RetOk.mk ?_ | refine CallS.intro (c2.weakF rfl) ?_ | refine CallD.intro (c2.weakF rfl) ?_ | refine CallS.intro (c1.weakF rfl) ?_ | refine CallD.intro (c1.weakF rfl) ?_ | refine CallS.intro (c4.weakF rfl) ?_ | refine CallD.intro (c4.weakF rfl) ?_)); simp (maxSteps := 10000000) (implicitDefEqProofs := false) only [go_sem, Dom.enc, hres, noneD]))
      rw [if_neg o24] at hres
      by_cases o25 : op = 25
      · rw [if_pos o25] at hres
        clear hs
        subst o25
        repeat' (first | (with_reducible refine a_seq_k ?_; intro K hK) | (with_reducible first | refine a_block ?_ | refine a_ret ?_ | refine a_exit ?_ | refine a_skip ?_ | exact ConfOk.mk (by kernel_rfl)) | ((fail_if_success with_reducible show False); with_reducible apply_assumption (exfalso := false) (symm := false) only [*, rfl, trivial, congrArg]) | with_reducible refine And.intro ?_ ?_ | (intro h; contradiction) | (intro h; subst h) | intro h | ((try (with_reducible first | refine a_region (by kernel_rfl) ?_ | (refine a_draw mixed (by kernel_rfl) ?_; intro C hC) | (refine a_cond_k ?_; intro X Y hX hY) | refine RetOk.mk ?_ | refine CallS.intro (c2.weakF rfl) ?_ | refine CallD.intro (c2.weakF rfl) ?_ | refine CallS.intro (c1.weakF rfl) ?_ | refine CallD.intro (c1.weakF rfl) ?_)); simp (maxSteps := 10000000) (implicitDefEqProofs := false) only [go_sem, Dom.enc, noneD]))
        refine a_loop_k (fun m st => ∃ (g : Nat) (d : Dom) (r : List Dom), caseD joinC (fun c => mayBe c 1) (fun c => mayBe c 0) (fun d => joinC d ⟨0, true, false, false, 0, 0⟩) d r = res ∧ m = r.length ∧ r.length < 2 ^ 40 ∧ Has st 116 [(1, .sliceF (r.map Dom.enc)), (4, .ptr 4 0 0), (10, .ptr 10 g 0)] [(4, .box 0 dZ), (10, .box g d.enc)]) pre.length ⟨γ + 1 + 1, noneD k, pre, hres.symm, rfl, hl, ⟨rfl, rfl, by simp [Dom.enc, noneD], by simp [Dom.enc, noneD]⟩⟩ ?_
        rintro m st ⟨g, d, r, hd, rfl, hr, hs2⟩ K2 hK2
        clear hres c1 c2 hk hs heb
        refine a_has hs2 fun τ σ γ => ?_
        rcases r with _ | ⟨c, _ | ⟨v, r⟩⟩
        · have j0 := facts_join d ⟨0, true, false, false, 0, 0⟩
          simp only [caseD] at hd
          rw [hd] at j0
          simp only [dA, Dom.enc] at j0
          repeat' (first | (with_reducible refine a_seq_k ?_; intro K hK) | (with_reducible first | refine a_block ?_ | refine a_ret ?_ | refine a_exit ?_ | refine a_skip ?_ | exact ConfOk.mk (by kernel_rfl)) | ((fail_if_success with_reducible show False); with_reducible apply_assumption (exfalso := false) (symm := false) only [*, rfl, trivial, congrArg]) | with_reducible refine And.intro ?_ ?_ | (intro h; contradiction) | (intro h; subst h) | intro h | ((try (with_reducible first | refine a_region (by kernel_rfl) ?_ | (refine a_draw mixed (by kernel_rfl) ?_; intro C hC) | (refine a_cond_k ?_; intro X Y hX hY) | refine RetOk.mk ?_ | refine CallS.intro (j0) ?_ | refine CallD.intro (j0) ?_)); simp (maxSteps := 10000000) (implicitDefEqProofs := false) only [go_sem, Dom.enc]))
        · have j0 := facts_join d c
          simp only [caseD] at hd
          rw [hd] at j0
          simp only [dA, Dom.enc] at j0
          repeat' (first | (with_reducible refine a_seq_k ?_; intro K hK) | (with_reducible first | refine a_block ?_ | refine a_ret ?_ | refine a_exit ?_ | refine a_skip ?_ | exact ConfOk.mk (by kernel_rfl)) | ((fail_if_success with_reducible show False); with_reducible apply_assumption (exfalso := false) (symm := false) only [*, rfl, trivial, congrArg]) | with_reducible refine And.intro ?_ ?_ | (intro h; contradiction) | (intro h; subst h) | intro h | ((try (with_reducible first | refine a_region (by kernel_rfl) ?_ | (refine a_draw mixed (by kernel_rfl) ?_; intro C hC) | (refine a_cond_k ?_; intro X Y hX hY) | refine RetOk.mk ?_ | refine CallS.intro (j0) ?_ | refine CallD.intro (j0) ?_)); simp (maxSteps := 10000000) (implicitDefEqProofs := false) only [go_sem, Dom.enc]))
        · have hgt : (1 : Int) < ((r.length + 1 + 1 : Nat) : Int) := by omega
          have htk : List.take r.length (r.map Dom.enc) = r.map Dom.enc := List.take_of_length_le (by simp)
          have m1 := facts_mayBe c 1
          have m0 := facts_mayBe c 0
          have j0 := facts_join (addFail d c.fail) v
          obtain ⟨e, he⟩ : ∃ e, e = (if mayBe c 1 = true then joinC (addFail d c.fail) v else addFail d c.fail) := ⟨_, rfl⟩
          simp only [caseD, ← he] at hd
          obtain ⟨dk, dn, df, ds, dl, dh⟩ := d
          simp only [dA, Dom.enc, addFail] at m1 m0 j0 he
          generalize mayBe c 1 = b1 at *
          generalize mayBe c 0 = b0 at *
          cases df
          all_goals
            simp only [Bool.false_or, Bool.true_or] at j0 he
            cases b1
            all_goals
              simp only [if_true, Bool.false_eq_true, if_false] at he
              try rw [← he] at j0
              repeat' (first | (with_reducible refine a_seq_k ?_; intro K hK) | (with_reducible first | refine a_block ?_ | refine a_ret ?_ | refine a_exit ?_ | refine a_skip ?_ | exact ConfOk.mk (by kernel_rfl)) | ((fail_if_success with_reducible show False); with_reducible apply_assumption (exfalso := false) (symm := false) only [*, rfl, trivial, congrArg]) | with_reducible refine And.intro ?_ ?_ | (intro h; contradiction) | (intro h; subst h) | intro h | ((try (with_reducible first | refine a_region (by kernel_rfl) ?_ | (refine a_draw mixed (by kernel_rfl) ?_; intro C hC) | (refine a_cond_k ?_; intro X Y hX hY) | refine RetOk.mk ?_ | refine CallS.intro (m1) ?_ | refine CallD.intro (m1) ?_ | refine CallS.intro (j0) ?_ | refine CallD.intro (j0) ?_ | refine CallS.intro (m0) ?_ | refine CallD.intro (m0) ?_)); simp (maxSteps := 10000000) (implicitDefEqProofs := false) only [go_sem, Dom.enc, hgt, htk]))
              try any_goals omega
              all_goals first
                | exact len6 c v r _ h
                | (rw [if_pos (by simp [*])] at hd; subst hd; first | rfl | (subst he; rfl) | (simp [*]; done))
                | (rw [if_neg (by simp [*])] at hd; exact ⟨⟨r.length, by omega, g, e, r, hd, rfl, by simp at hr; omega, ⟨rfl, rfl, by simp [Dom.enc, *], by simp [Dom.enc, *]⟩⟩⟩)
      rw [if_neg o25] at hres
      by_cases o26 : op = 26
      · rw [if_pos o26] at hres
        clear hs
        subst o26
        repeat' (first | (with_reducible refine a_seq_k ?_; intro K hK) | (with_reducible first | refine a_block ?_ | refine a_ret ?_ | refine a_exit ?_ | refine a_skip ?_ | exact ConfOk.mk (by kernel_rfl)) | ((fail_if_success with_reducible show False); with_reducible apply_assumption (exfalso := false) (symm := false) only [*, rfl, trivial, congrArg]) | with_reducible refine And.intro ?_ ?_ | (intro h; contradiction) | (intro h; subst h) | intro h | ((try (with_reducible first | refine a_region (by kernel_rfl) ?_ | (refine a_draw mixed (by kernel_rfl) ?_; intro C hC) | (refine a_cond_k ?_; intro X Y hX hY) | refine RetOk.mk ?_ | refine CallS.intro (c2.weakF rfl) ?_ | refine CallD.intro (c2.weakF rfl) ?_ | refine CallS.intro (c1.weakF rfl) ?_ | refine CallD.intro (c1.weakF rfl) ?_)); simp (maxSteps := 10000000) (implicitDefEqProofs := false) only [go_sem, Dom.enc, noneD]))
        refine a_loop_k (fun n st => ∃ (g : Nat) (pre2 rest2 : List _) (d : Dom), pre = pre2 ++ rest2 ∧ n = rest2.length ∧ (coalD joinC d rest2 = res) ∧ Has st 116 [(4, .ptr 4 0 0), (10, .ptr 10 g 0), (94, .sliceF (pre.map Dom.enc)), (95, .int .i64 pre.length), (96, .int .i64 pre2.length)] [(4, .box 0 dZ), (10, .box g d.enc)]) (pre).length ⟨γ + 1 + 1, [], pre, noneD k, rfl, rfl, hres.symm, ⟨rfl, rfl, by simp [Dom.enc, kd, dZ, noneD], by simp [Dom.enc, kd, dZ, noneD]⟩⟩ ?_
        rintro n st ⟨g, pre2, rest2, d, he, rfl, hp2, hs2⟩ K2 hK2
        have hw2 := wrap_nat pre2.length (by have := congrArg List.length he; simp at this; omega)
        subst he
        refine a_has hs2 fun τ σ γ => ?_
        rcases rest2 with _ | ⟨x2, rest2⟩
        · simp only [coalD] at hp2
          subst hp2
          repeat' (first | (with_reducible refine a_seq_k ?_; intro K hK) | (with_reducible first | refine a_block ?_ | refine a_ret ?_ | refine a_exit ?_ | refine a_skip ?_ | exact ConfOk.mk (by kernel_rfl)) | ((fail_if_success with_reducible show False); with_reducible apply_assumption (exfalso := false) (symm := false) only [*, rfl, trivial, congrArg]) | with_reducible refine And.intro ?_ ?_ | (intro h; contradiction) | (intro h; subst h) | intro h | ((try (with_reducible first | refine a_region (by kernel_rfl) ?_ | (refine a_draw mixed (by kernel_rfl) ?_; intro C hC) | (refine a_cond_k ?_; intro X Y hX hY) | refine RetOk.mk ?_)); simp (maxSteps := 10000000) (implicitDefEqProofs := false) only [go_sem, Dom.enc]))
        · obtain ⟨xk, xn, xf, xs, xl, xh⟩ := x2
          have j0 := facts_join d ⟨xk, false, xf, xs, xl, xh⟩
          simp only [coalD] at hp2
          obtain ⟨e, he⟩ : ∃ e, e = joinC d ⟨xk, false, xf, xs, xl, xh⟩ := ⟨_, rfl⟩
          rw [← he] at j0 hp2
          simp only [dA, Dom.enc] at j0
          clear he
          cases xn
          · simp only [if_true] at hp2
            subst hp2
            repeat' (first | (with_reducible refine a_seq_k ?_; intro K hK) | (with_reducible first | refine a_block ?_ | refine a_ret ?_ | refine a_exit ?_ | refine a_skip ?_ | exact ConfOk.mk (by kernel_rfl)) | ((fail_if_success with_reducible show False); with_reducible apply_assumption (exfalso := false) (symm := false) only [*, rfl, trivial, congrArg]) | with_reducible refine And.intro ?_ ?_ | (intro h; contradiction) | (intro h; subst h) | intro h | ((try (with_reducible first | refine a_region (by kernel_rfl) ?_ | (refine a_draw mixed (by kernel_rfl) ?_; intro C hC) | (refine a_cond_k ?_; intro X Y hX hY) | refine RetOk.mk ?_ | refine CallS.intro (j0) ?_ | refine CallD.intro (j0) ?_)); simp (maxSteps := 10000000) (implicitDefEqProofs := false) only [go_sem, Dom.enc, hw2]))
          · simp only [Bool.true_eq_false, if_false] at hp2
            repeat' (first | (with_reducible refine a_seq_k ?_; intro K hK) | (with_reducible first | refine a_block ?_ | refine a_ret ?_ | refine a_exit ?_ | refine a_skip ?_ | exact ConfOk.mk (by kernel_rfl)) | ((fail_if_success with_reducible show False); with_reducible apply_assumption (exfalso := false) (symm := false) only [*, rfl, trivial, congrArg]) | with_reducible refine And.intro ?_ ?_ | (intro h; contradiction) | (intro h; subst h) | intro h | ((try (with_reducible first | refine a_region (by kernel_rfl) ?_ | (refine a_draw mixed (by kernel_rfl) ?_; intro C hC) | (refine a_cond_k ?_; intro X Y hX hY) | refine RetOk.mk ?_ | refine CallS.intro (j0) ?_ | refine CallD.intro (j0) ?_)); simp (maxSteps := 10000000) (implicitDefEqProofs := false) only [go_sem, Dom.enc, hw2]))
            exact ⟨⟨rest2.length, by simp, g, pre2 ++ [⟨xk, true, xf, xs, xl, xh⟩], rest2, e, by simp, rfl, hp2, ⟨rfl, rfl, by simp [Dom.enc], by simp [Dom.enc]⟩⟩⟩
      rw [if_neg o26] at hres
      have c5 := hs rfl o23 o24 o25 o26
      clear hres
      repeat' (first | (with_reducible refine a_seq_k ?_; intro K hK) | (with_reducible first | refine a_block ?_ | refine a_ret ?_ | refine a_exit ?_ | refine a_skip ?_ | exact ConfOk.mk (by kernel_rfl)) | ((fail_if_success with_reducible show False); with_reducible apply_assumption (exfalso := false) (symm := false) only [*, rfl, trivial, congrArg]) | with_reducible refine And.intro ?_ ?_ | (intro h; contradiction) | (intro h; subst h) | intro h | ((try (with_reducible first | refine a_region (by kernel_rfl) ?_ | (refine a_draw mixed (by kernel_rfl) ?_; intro C hC) | (refine a_cond_k ?_; intro X Y hX hY) | refine RetOk.mk ?_ | refine CallS.intro (c2.weakF rfl) ?_ | refine CallD.intro (c2.weakF rfl) ?_ | refine CallS.intro (c1.weakF rfl) ?_ | refine CallD.intro (c1.weakF rfl) ?_ | refine CallS.intro (c5.weakF rfl) ?_ | refine CallD.intro (c5.weakF rfl) ?_)); simp (maxSteps := 10000000) (implicitDefEqProofs := false) only [go_sem, Dom.enc, noneD, o23, o24, o25, o26]))
  · have hz := set_rep (pre.map (fun x : Dom => [AV.int .u8 x.kind])) rest.length [.int .u8 0] [.int .u8 x.kind]
    have hg := getD_rep (pre.map (fun x : Dom => [AV.int .u8 x.kind])) rest.length [AV.int .u8 0] []
    simp only [List.length_map] at hz hg
    repeat' (first | (with_reducible refine a_seq_k ?_; intro K hK) | (with_reducible first | refine a_block ?_ | refine a_ret ?_ | refine a_exit ?_ | refine a_skip ?_ | exact ConfOk.mk (by kernel_rfl)) | ((fail_if_success with_reducible show False); with_reducible apply_assumption (exfalso := false) (symm := false) only [*, rfl, trivial, congrArg]) | with_reducible refine And.intro ?_ ?_ | (intro h; contradiction) | (intro h; subst h) | intro h | ((try (with_reducible first | refine a_region (by kernel_rfl) ?_ | (refine a_draw mixed (by kernel_rfl) ?_; intro C hC) | (refine a_cond_k ?_; intro X Y hX hY) | refine RetOk.mk ?_)); simp (maxSteps := 10000000) (implicitDefEqProofs := false) only [go_sem, Dom.enc, hw, hz, hg, List.length_replicate]))
    try any_goals omega
    all_goals exact ⟨⟨rest.length, by simp, 0, pre ++ [x], rest, (), by simp, rfl, ⟨rfl, rfl, by simp [Dom.enc, *], by simp [Dom.enc, *]⟩⟩⟩
end Go.Proofs.YtoggbjfjmbjegaaGreatDoor
