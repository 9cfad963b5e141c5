/- Strict nodes in the document: jointerref12.same, strict. -/
import Derived.Test.YtoggbjfjmbjegaaGreatDoorH5
set_option linter.unusedSimpArgs false
set_option linter.unusedVariables false
set_option linter.unusedSimpArgs false
set_option linter.unusedVariables false
namespace Go.Proofs.YtoggbjfjmbjegaaGreatDoor
open Go Go.Ab
-- @enc(Dom.enc, En.enc, kd, dZ)@
attribute [local go_sem ↓] parts_tt parts_ff parts_tf parts_ft reduceIte
attribute [local go_sem] reduceCtorEq Nat.reduceAdd Nat.reduceSub Nat.reduceLeDiff Nat.reduceEqDiff Nat.reduceMul Nat.reduceLT Nat.reducePow Int.reduceEq Int.reduceLT Int.reduceLE Int.reduceGT Int.reduceGE Int.reduceAdd Int.reduceSub Int.reduceNeg Int.reduceToNat parts_eq learnT aops_nil aops_cons aopsD_nil aopsD_cons stepS stepD gval St.learn skipR St.after putτ applyUpd List.foldl_cons List.foldl_nil pureOp memOp callOf litA closeO closeK List.flatMap_cons List.flatMap_nil Option.map_none decide_false opnd ofConst leaf binA unA lenA indexA indexAddrA fieldAddrA fieldA weak_slice weak_nils weak_str weak_view weak_viewF weak_sliceF weak_ptr weak_cptr weak_rptr weak_sl weak_sl0 weak_any sliceFA_slice sliceFA_str sliceFA_view sliceFA_none sliceFA_some sameO sliceA convertA pickV fillA placeS cellsA setA partA loadM storeM appendM srcEls lookBox lookRow lookMap closeL closeV scalarB scalarL killed buildEls lookupA leafEq eqAll resA resL tupA retA thenA blockA isInt loA hiA foldA maxA minA okSize leafB closedB Res.foot List.getD_cons_zero List.getD_cons_succ List.set_cons_zero List.set_cons_succ List.map_cons List.map_nil List.append_nil List.nil_append List.cons_append List.length_cons List.length_nil List.take_succ_cons List.take_zero List.drop_succ_cons List.drop_zero List.take_nil List.drop_nil List.all_cons List.all_nil List.getElem?_toArray List.getElem?_cons_zero List.getElem?_cons_succ Option.bind_some Option.map_some true_and and_true true_implies ne_eq not_true_eq_false not_false_eq_true Bool.true_eq_false Bool.false_eq_true Bool.not_true Bool.not_false decide_eq_true_eq decide_eq_false_iff_not false_implies implies_true and_self ite_true ite_false cond_true cond_false Option.some.injEq List.reverse_cons List.reverse_nil Bool.and_self Bool.true_and Bool.and_true Bool.false_and Bool.and_false Bool.or_true Bool.true_or Bool.or_false Bool.false_or Bool.not_eq_eq_eq_not Bool.not_not Bool.or_self beq_self_eq_true and_false false_and or_true true_or or_false false_or not_true not_false_iff Decidable.not_not lookT lookR tabT tabR Int.toNat_natCast List.length_map List.map_append List.length_append decide_true decide_false tmod2 List.mem_singleton forall_eq elOk1 elOk3 elOk4 castn0 castn1 castn2 castn3 getD_mid getD_mid_map at_lt at_end mid_lt mid_lt' nat_ge List.size_toArray Array.size_empty Nat.add_zero Nat.zero_add
attribute [local irreducible] ASpec ACalls retA ti EqT
set_option linter.unusedSimpArgs false
set_option maxHeartbeats 4000000
set_option maxRecDepth 100000
set_option linter.unusedVariables false
attribute [local go_sem] ti2 ti3 ti4 ti5 ti9 ti21 ti22 ti23 ti24 ti26 ti27 ti28 ti30 ti33 ti34 ti37 ti41 ti42 ti46 ti52 ti56 ti68 ti69 ti73 ti78 ti86 ti89 ti99 ti117 ti122 ti123 ti124 ti144 ti166 ti173 ti174 ti190 ti191 ti199 ti245 ti247 ti257 ti271 ti288 ti290 ti343
theorem ref_same (d a b : Dom) : ACalls Tryz.prog 136 [dA d, dA a, dA b] (dA (truthD d ((a.null && b.null) || (if (a.some && b.some) = true then alike a b else (false, false)).1) (((a.null && b.some) || (a.some && b.null)) || (if (a.some && b.some) = true then alike a b else (false, false)).2))) := by
  have h1 := ref_alike a b
  have h2 := fun y z => ref_truth d y z
  generalize alike a b = p at *
  obtain ⟨k, n, f, s, lo, hi⟩ := a
  obtain ⟨k', n', f', s', lo', hi'⟩ := b
  obtain ⟨dk, dn, df, ds, dl, dh⟩ := d
  obtain ⟨p1, p2⟩ := p
  simp only [dA, Dom.enc] at h1 h2
  refine acalls_k Tryz.func136 rfl (by kernel_rfl) (congrArg Array.toList Tryz.results136) Tryz.ntmps136 ?_
  intro R hR
  simp only [st0, List.length_cons, List.length_nil, Nat.reduceAdd, Nat.reduceSub, List.replicate_succ, List.replicate_zero, List.cons_append, List.nil_append]
  repeat' (first | (with_reducible refine a_seq_k ?_; intro K hK) | (with_reducible first | refine a_block ?_ | refine a_ret ?_ | refine a_exit ?_ | refine a_skip ?_ | exact ConfOk.mk (by kernel_rfl)) | ((fail_if_success with_reducible show False); with_reducible apply_assumption (exfalso := false) (symm := false) only [*, rfl, trivial, congrArg]) | with_reducible refine And.intro ?_ ?_ | (intro h; contradiction) | (intro h; subst h) | intro h | ((try (with_reducible first | refine a_region (by kernel_rfl) ?_ | (refine a_draw mixed (by kernel_rfl) ?_; intro C hC) | (refine a_cond_k ?_; intro X Y hX hY) | refine RetOk.mk ?_ | refine CallS.intro (h1) ?_ | refine CallD.intro (h1) ?_ | refine CallS.intro (h2 _ _) ?_ | refine CallD.intro (h2 _ _) ?_)); simp (maxSteps := 10000000) (implicitDefEqProofs := false) only [go_sem, Dom.enc]))
  all_goals first | (simp [*]; done) | (exfalso; simp_all only [reduceCtorEq]; done)
theorem ref_strict (op kind : Int) (kids : List Dom) (a b : Dom) (hl : kids.length < 2 ^ 40) (hk : (kids = [a] ∧ b = a ∧ op ≠ 18) ∨ kids = [a, b]) (hia : a.In) (hib : b.In) (hlb : b.some = true → b.lo ≤ b.hi)
    (hop : op ≠ 18 → op ≠ 20 → op ≠ 21 → ¬ (op = 4 ∨ op = 5 ∨ op = 6 ∨ op = 7 ∨ op = 8 ∨ op = 9 ∨ op = 10 ∨ op = 11 ∨ op = 22 ∨ op = 19) → 12 ≤ op ∧ op ≤ 17) :
    ACalls Tryz.prog 69 [.int .u8 op, .int .u8 kind, doms kids] (dA (strictD op kind kids mayD mayNotD (alike a b) (mR b) true)) := by
  obtain ⟨res, hres⟩ : ∃ res, res = strictD op kind kids mayD mayNotD (alike a b) (mR b) true := ⟨_, rfl⟩
  rw [← hres]
  have ms := fun x => ref_maySome x
  simp only [dA, Dom.enc] at ms
  refine acalls_k Tryz.func69 rfl (by kernel_rfl) (congrArg Array.toList Tryz.results69) Tryz.ntmps69 ?_
  intro R hR
  simp only [st0, List.length_cons, List.length_nil, Nat.reduceAdd, Nat.reduceSub, List.replicate_succ, List.replicate_zero, List.cons_append, List.nil_append]
  repeat' (first | (with_reducible refine a_seq_k ?_; intro K hK) | (with_reducible first | refine a_block ?_ | refine a_ret ?_ | refine a_exit ?_ | refine a_skip ?_ | exact ConfOk.mk (by kernel_rfl)) | ((fail_if_success with_reducible show False); with_reducible apply_assumption (exfalso := false) (symm := false) only [*, rfl, trivial, congrArg]) | with_reducible refine And.intro ?_ ?_ | (intro h; contradiction) | (intro h; subst h) | intro h | ((try (with_reducible first | refine a_region (by kernel_rfl) ?_ | (refine a_draw mixed (by kernel_rfl) ?_; intro C hC) | (refine a_cond_k ?_; intro X Y hX hY) | refine RetOk.mk ?_)); simp (maxSteps := 10000000) (implicitDefEqProofs := false) only [go_sem, Dom.enc, noneD]))
  refine a_loop_k (fun n st => ∃ (g : Nat) (pre rest : List _) (u : Unit), kids = pre ++ rest ∧ n = rest.length ∧ (True) ∧ Has st 108 [(0, .int .u8 op), (1, .int .u8 kind), (2, .slice (kids.map Dom.enc)), (6, .ptr 6 0 0), (7, .ptr 7 1 0), (8, .bool (pre.any (·.null))), (9, .bool (pre.all (·.some))), (10, .int .i64 pre.length)] [(6, .box 0 dZ), (7, .box 1 [.int .u8 kind, .bool false, .bool (pre.any (·.fail)), .bool false, .int .i64 0, .int .i64 0])]) (kids).length ⟨0, [], kids, (), rfl, rfl, trivial, ⟨rfl, rfl, by simp [Dom.enc, En.enc, kd, dZ], by simp [Dom.enc, En.enc, kd, dZ]⟩⟩ ?_
  rintro n st ⟨g, pre, rest, u, he, rfl, hp, hs⟩ K hK
  have hw := wrap_nat pre.length (by have := congrArg List.length he; simp at this; omega)
  subst he
  refine a_has hs fun τ σ γ => ?_
  rcases rest with _ | ⟨x, rest⟩
  · simp only [List.append_nil] at hk hres hl
    obtain ⟨bn, hbn⟩ : ∃ x, x = pre.any (·.null) := ⟨_, rfl⟩
    obtain ⟨bs, hbs⟩ : ∃ x, x = pre.all (·.some) := ⟨_, rfl⟩
    obtain ⟨bk, hbk⟩ : ∃ x, x = pre.any stuckD := ⟨_, rfl⟩
    obtain ⟨bf, hbf⟩ : ∃ x, x = pre.any (·.fail) := ⟨_, rfl⟩
    rw [← hbn, ← hbs, ← hbf]
    obtain ⟨e, he⟩ : ∃ e : Dom, e = ⟨kind, false, bf, false, 0, 0⟩ := ⟨_, rfl⟩
    obtain ⟨e2, he2⟩ : ∃ e2 : Dom, e2 = ⟨kind, bn, bf, false, 0, 0⟩ := ⟨_, rfl⟩
    have er : res = (if bk = true then e else if op = 20 then truthD e a.null a.some else if op = 21 then truthD e (mayD a) (a.null || mayNotD a) else if op = 18 then truthD e ((a.null && b.null) || (if bs = true then alike a b else (false, false)).1) (((a.null && b.some) || (a.some && b.null)) || (if bs = true then alike a b else (false, false)).2) else if bs = true then operD op e2 a b (alike a b) (mR b) true else e2) := by
      rw [hres, he, he2, hbn, hbs, hbk, hbf]
      rcases hk with ⟨rfl, rfl, _⟩ | rfl <;> rfl
    clear hres
    repeat' (first | (with_reducible refine a_seq_k ?_; intro K hK) | (with_reducible first | refine a_block ?_ | refine a_ret ?_ | refine a_exit ?_ | refine a_skip ?_ | exact ConfOk.mk (by kernel_rfl)) | ((fail_if_success with_reducible show False); with_reducible apply_assumption (exfalso := false) (symm := false) only [*, rfl, trivial, congrArg]) | with_reducible refine And.intro ?_ ?_ | (intro h; contradiction) | (intro h; subst h) | intro h | ((try (with_reducible first | refine a_region (by kernel_rfl) ?_ | (refine a_draw mixed (by kernel_rfl) ?_; intro C hC) | (refine a_cond_k ?_; intro X Y hX hY) | refine RetOk.mk ?_)); simp (maxSteps := 10000000) (implicitDefEqProofs := false) only [go_sem]))
    refine a_loop_k (fun n st => ∃ (g : Nat) (pre2 rest2 : List _) (u : Unit), pre = pre2 ++ rest2 ∧ n = rest2.length ∧ (pre2.any stuckD = false) ∧ Has st 108 [(0, .int .u8 op), (2, .slice (pre.map Dom.enc)), (6, .ptr 6 0 0), (7, .ptr 7 1 0), (8, .bool bn), (9, .bool bs), (11, .int .i64 pre2.length)] [(6, .box 0 dZ), (7, .box 1 [.int .u8 kind, .bool false, .bool bf, .bool false, .int .i64 0, .int .i64 0])]) (pre).length ⟨0, [], pre, (), rfl, rfl, rfl, ⟨rfl, rfl, by simp [Dom.enc, En.enc, kd, dZ], by simp [Dom.enc, En.enc, kd, dZ]⟩⟩ ?_
    rintro n st ⟨g, pre2, rest2, u, he, rfl, hp2, hs2⟩ K2 hK2
    have hw2 := wrap_nat pre2.length (by have := congrArg List.length he; simp at this; omega)
    subst he
    refine a_has hs2 fun τ σ γ => ?_
    rcases rest2 with _ | ⟨x2, rest2⟩
    · simp only [List.append_nil] at *
      rw [hbk, hp2, if_neg (by simp)] at er
      have n1 := ref_truth e a.null a.some
      have n2 := ref_May a
      have n3 := ref_mayNot a
      have n5 := ref_same e a b
      have n6 := fun y z => ref_truth e y z
      have hhd : ∃ z, (pre2 = [a] ∧ z = [] ∧ b = a ∧ op ≠ 18) ∨ (pre2 = [a, b] ∧ z = [b]) := by
        rcases hk with ⟨rfl, rfl, h⟩ | rfl
        · exact ⟨_, .inl ⟨rfl, rfl, rfl, h⟩⟩
        · exact ⟨_, .inr ⟨rfl, rfl⟩⟩
      have hbs2 : bs = true → b.some = true := by
        intro h
        rw [hbs, List.all_eq_true] at h
        rcases hk with ⟨rfl, rfl, _⟩ | rfl
        · exact h _ (by simp)
        · exact h _ (by simp)
      have hbs3 : op = 18 → (a.some && b.some) = bs := by
        intro h
        rw [hbs]
        rcases hk with ⟨_, _, h2⟩ | rfl
        · exact absurd h h2
        · simp
      have e1k : e.kind = kind ∧ e.null = false ∧ e.fail = bf ∧ e.some = false ∧ e.lo = 0 ∧ e.hi = 0 := by rw [he]; simp
      have e2k : e2.kind = kind ∧ e2.null = bn ∧ e2.fail = bf ∧ e2.some = false ∧ e2.lo = 0 ∧ e2.hi = 0 := by rw [he2]; simp
      obtain ⟨u1, u2, u3, u4, u5, u6⟩ := e1k
      obtain ⟨v1, v2, v3, v4, v5, v6⟩ := e2k
      by_cases o20 : op = 20
      · rw [if_pos o20] at er
        simp only [dA, Dom.enc, u1, u2, u3, u4, u5, u6] at n1
        clear hbn hbs hbk hbf hk he he2 n2 n3 n5 n6 hbs2 hbs3 hop ms
        rcases hhd with ⟨z, ⟨rfl, _, _⟩ | ⟨rfl, _⟩⟩
        all_goals
          repeat' (first | (with_reducible refine a_seq_k ?_; intro K hK) | (with_reducible first | refine a_block ?_ | refine a_ret ?_ | refine a_exit ?_ | refine a_skip ?_ | exact ConfOk.mk (by kernel_rfl)) | ((fail_if_success with_reducible show False); with_reducible apply_assumption (exfalso := false) (symm := false) only [*, rfl, trivial, congrArg]) | with_reducible refine And.intro ?_ ?_ | (intro h; contradiction) | (intro h; subst h) | intro h | ((try (with_reducible first | refine a_region (by kernel_rfl) ?_ | (refine a_draw mixed (by kernel_rfl) ?_; intro C hC) | (refine a_cond_k ?_; intro X Y hX hY) | refine RetOk.mk ?_ | refine CallS.intro (n1) ?_ | refine CallD.intro (n1) ?_)); simp (maxSteps := 10000000) (implicitDefEqProofs := false) only [go_sem, Dom.enc, er, o20]))
      rw [if_neg o20] at er
      by_cases o21 : op = 21
      · rw [if_pos o21] at er
        generalize mayD a = m1 at *
        generalize mayNotD a = m0 at *
        simp only [dA, Dom.enc, u1, u2, u3, u4, u5, u6] at n2 n3 n6
        clear hbn hbs hbk hbf hk he he2 n1 n5 hbs2 hbs3 hop ms
        rcases hhd with ⟨z, ⟨rfl, _, _⟩ | ⟨rfl, _⟩⟩
        all_goals
          repeat' (first | (with_reducible refine a_seq_k ?_; intro K hK) | (with_reducible first | refine a_block ?_ | refine a_ret ?_ | refine a_exit ?_ | refine a_skip ?_ | exact ConfOk.mk (by kernel_rfl)) | ((fail_if_success with_reducible show False); with_reducible apply_assumption (exfalso := false) (symm := false) only [*, rfl, trivial, congrArg]) | with_reducible refine And.intro ?_ ?_ | (intro h; contradiction) | (intro h; subst h) | intro h | ((try (with_reducible first | refine a_region (by kernel_rfl) ?_ | (refine a_draw mixed (by kernel_rfl) ?_; intro C hC) | (refine a_cond_k ?_; intro X Y hX hY) | refine RetOk.mk ?_ | refine CallS.intro (n2) ?_ | refine CallD.intro (n2) ?_ | refine CallS.intro (n3) ?_ | refine CallD.intro (n3) ?_ | refine CallS.intro (n6 _ _) ?_ | refine CallD.intro (n6 _ _) ?_)); simp (maxSteps := 10000000) (implicitDefEqProofs := false) only [go_sem, Dom.enc, er, o21]))
          all_goals first | (simp [*]; done) | (exfalso; simp_all only [reduceCtorEq]; done)
      rw [if_neg o21] at er
      by_cases o18 : op = 18
      · rw [if_pos o18] at er
        rw [hbs3 o18, ← er] at n5
        simp only [dA, Dom.enc, u1, u2, u3, u4, u5, u6] at n5
        clear hbn hbs hbk hbf hk he he2 n1 n2 n3 n6 hbs2 hbs3 hop ms er
        rcases hhd with ⟨z, ⟨rfl, _, _, h⟩ | ⟨rfl, _⟩⟩
        · exact absurd o18 h
        · repeat' (first | (with_reducible refine a_seq_k ?_; intro K hK) | (with_reducible first | refine a_block ?_ | refine a_ret ?_ | refine a_exit ?_ | refine a_skip ?_ | exact ConfOk.mk (by kernel_rfl)) | ((fail_if_success with_reducible show False); with_reducible apply_assumption (exfalso := false) (symm := false) only [*, rfl, trivial, congrArg]) | with_reducible refine And.intro ?_ ?_ | (intro h; contradiction) | (intro h; subst h) | intro h | ((try (with_reducible first | refine a_region (by kernel_rfl) ?_ | (refine a_draw mixed (by kernel_rfl) ?_; intro C hC) | (refine a_cond_k ?_; intro X Y hX hY) | refine RetOk.mk ?_ | refine CallS.intro (n5) ?_ | refine CallD.intro (n5) ?_)); simp (maxSteps := 10000000) (implicitDefEqProofs := false) only [go_sem, Dom.enc, o18]))
      rw [if_neg o18] at er
      cases bs
      · rw [if_neg (by simp)] at er
        clear hbn hbs hbk hbf hk he he2 n1 n2 n3 n5 n6 hbs2 hbs3 hop ms
        repeat' (first | (with_reducible refine a_seq_k ?_; intro K hK) | (with_reducible first | refine a_block ?_ | refine a_ret ?_ | refine a_exit ?_ | refine a_skip ?_ | exact ConfOk.mk (by kernel_rfl)) | ((fail_if_success with_reducible show False); with_reducible apply_assumption (exfalso := false) (symm := false) only [*, rfl, trivial, congrArg]) | with_reducible refine And.intro ?_ ?_ | (intro h; contradiction) | (intro h; subst h) | intro h | ((try (with_reducible first | refine a_region (by kernel_rfl) ?_ | (refine a_draw mixed (by kernel_rfl) ?_; intro C hC) | (refine a_cond_k ?_; intro X Y hX hY) | refine RetOk.mk ?_)); simp (maxSteps := 10000000) (implicitDefEqProofs := false) only [go_sem, Dom.enc, er, o20, o21, o18, v1, v2, v3, v4, v5, v6]))
      · rw [if_pos rfl] at er
        have n7 : ACalls Tryz.prog 137 [.int .u8 op, dA e2, doms pre2] (dA (operD op e2 a b (alike a b) (mR b) true)) := by
          have hle := hlb (hbs2 rfl)
          rcases hk with ⟨rfl, rfl, _⟩ | rfl
          · exact ref_someValue1 op e2 _ hia hle (hop o18 o20 o21)
          · exact ref_someValue2 op e2 a b hia hib hle (hop o18 o20 o21)
        rw [← er] at n7
        simp only [dA, Dom.enc, doms, v1, v2, v3, v4, v5, v6] at n7
        clear hbn hbs hbk hbf hk he he2 n1 n2 n3 n5 n6 hbs2 hbs3 hop ms er
        repeat' (first | (with_reducible refine a_seq_k ?_; intro K hK) | (with_reducible first | refine a_block ?_ | refine a_ret ?_ | refine a_exit ?_ | refine a_skip ?_ | exact ConfOk.mk (by kernel_rfl)) | ((fail_if_success with_reducible show False); with_reducible apply_assumption (exfalso := false) (symm := false) only [*, rfl, trivial, congrArg]) | with_reducible refine And.intro ?_ ?_ | (intro h; contradiction) | (intro h; subst h) | intro h | ((try (with_reducible first | refine a_region (by kernel_rfl) ?_ | (refine a_draw mixed (by kernel_rfl) ?_; intro C hC) | (refine a_cond_k ?_; intro X Y hX hY) | refine RetOk.mk ?_ | refine CallS.intro (n7) ?_ | refine CallD.intro (n7) ?_)); simp (maxSteps := 10000000) (implicitDefEqProofs := false) only [go_sem, Dom.enc, o20, o21, o18]))
    · have m1 := ms x2
      clear hs
      cases hq : (x2.null || x2.some)
      · rw [hq] at m1
        have hst : stuckD x2 = true := by
          simp only [stuckD]; cases h1 : x2.null <;> cases h2 : x2.some <;> simp_all
        repeat' (first | (with_reducible refine a_seq_k ?_; intro K hK) | (with_reducible first | refine a_block ?_ | refine a_ret ?_ | refine a_exit ?_ | refine a_skip ?_ | exact ConfOk.mk (by kernel_rfl)) | ((fail_if_success with_reducible show False); with_reducible apply_assumption (exfalso := false) (symm := false) only [*, rfl, trivial, congrArg]) | with_reducible refine And.intro ?_ ?_ | (intro h; contradiction) | (intro h; subst h) | intro h | ((try (with_reducible first | refine a_region (by kernel_rfl) ?_ | (refine a_draw mixed (by kernel_rfl) ?_; intro C hC) | (refine a_cond_k ?_; intro X Y hX hY) | refine RetOk.mk ?_ | refine CallS.intro (m1) ?_ | refine CallD.intro (m1) ?_)); simp (maxSteps := 10000000) (implicitDefEqProofs := false) only [go_sem, Dom.enc, hw2]))
        all_goals rw [er, if_pos (by rw [hbk, List.any_append, List.any_cons, hst]; simp), he]
      · rw [hq] at m1
        have hst : stuckD x2 = false := by
          simp only [stuckD]; cases h1 : x2.null <;> cases h2 : x2.some <;> simp_all
        repeat' (first | (with_reducible refine a_seq_k ?_; intro K hK) | (with_reducible first | refine a_block ?_ | refine a_ret ?_ | refine a_exit ?_ | refine a_skip ?_ | exact ConfOk.mk (by kernel_rfl)) | ((fail_if_success with_reducible show False); with_reducible apply_assumption (exfalso := false) (symm := false) only [*, rfl, trivial, congrArg]) | with_reducible refine And.intro ?_ ?_ | (intro h; contradiction) | (intro h; subst h) | intro h | ((try (with_reducible first | refine a_region (by kernel_rfl) ?_ | (refine a_draw mixed (by kernel_rfl) ?_; intro C hC) | (refine a_cond_k ?_; intro X Y hX hY) | refine RetOk.mk ?_ | refine CallS.intro (m1) ?_ | refine CallD.intro (m1) ?_)); simp (maxSteps := 10000000) (implicitDefEqProofs := false) only [go_sem, Dom.enc, hw2]))
        all_goals exact ⟨⟨rest2.length, by simp, 0, pre2 ++ [x2], rest2, (), by simp, rfl, by rw [List.any_append, hp2, List.any_cons, hst]; rfl, ⟨rfl, rfl, by simp [Dom.enc, En.enc, kd, dZ], by simp [Dom.enc, En.enc, kd, dZ]⟩⟩⟩
  · repeat' (first | (with_reducible refine a_seq_k ?_; intro K hK) | (with_reducible first | refine a_block ?_ | refine a_ret ?_ | refine a_exit ?_ | refine a_skip ?_ | exact ConfOk.mk (by kernel_rfl)) | ((fail_if_success with_reducible show False); with_reducible apply_assumption (exfalso := false) (symm := false) only [*, rfl, trivial, congrArg]) | with_reducible refine And.intro ?_ ?_ | (intro h; contradiction) | (intro h; subst h) | intro h | ((try (with_reducible first | refine a_region (by kernel_rfl) ?_ | (refine a_draw mixed (by kernel_rfl) ?_; intro C hC) | (refine a_cond_k ?_; intro X Y hX hY) | refine RetOk.mk ?_)); simp (maxSteps := 10000000) (implicitDefEqProofs := false) only [go_sem, Dom.enc, hw]))
    all_goals exact ⟨⟨rest.length, by simp, 0, pre ++ [x], rest, (), by simp, rfl, ⟨rfl, rfl, by simp [Dom.enc, *], by simp [Dom.enc, *]⟩⟩⟩
end Go.Proofs.YtoggbjfjmbjegaaGreatDoor
