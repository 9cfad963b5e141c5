/- Patterns told from the front: the plain law. Matches, of the document. -/
import Derived.Test.YtmlaogjndaeihaaGreatDoorM0
import Derived.Test.YtmlaogjndaeihaaGreatDoorT7
section
namespace Go.Proofs.YtmlaogjndaeihaaGreatDoor
open Go Go.Ab
theorem star_iff (p u : List Int) : gm (37 :: p) u = true ↔ ∃ a b, u = a ++ b ∧ gm p b = true := by
  constructor
  · exact gm_star_split p u
  · rintro ⟨a, b, rfl, h⟩
    exact gm_star_append p a b (gm_star_of p b h)
theorem one_iff {c : Int} (p u : List Int) (hc : c ≠ 37) : gm (c :: p) u = true ↔ ∃ x t, u = x :: t ∧ (c = 95 ∨ c = x) ∧ gm p t = true := by
  cases u with
  | nil => rw [gm_one_nil p hc]; simp
  | cons x t =>
    rw [gm_one p t hc]
    simp only [Bool.and_eq_true, Bool.or_eq_true, decide_eq_true_eq]
    constructor
    · rintro ⟨h1, h2⟩; exact ⟨x, t, rfl, h1, h2⟩
    · rintro ⟨y, v, e, h1, h2⟩; cases e; exact ⟨h1, h2⟩
theorem nil_iff (u : List Int) : gm [] u = true ↔ u = [] := by
  cases u with
  | nil => rw [gm]; simp
  | cons x t => rw [gm]; simp
theorem app_iff (q : List Int) : ∀ p u : List Int, gm (p ++ q) u = true ↔ ∃ a b, u = a ++ b ∧ gm p a = true ∧ gm q b = true
  | [], u => by
    constructor
    · intro h; exact ⟨[], u, rfl, (nil_iff []).2 rfl, h⟩
    · rintro ⟨a, b, rfl, h1, h2⟩
      rw [(nil_iff a).1 h1]; exact h2
  | c :: p, u => by
    by_cases hc : c = 37
    · subst hc
      rw [List.cons_append, star_iff]
      constructor
      · rintro ⟨a, b, rfl, h⟩
        obtain ⟨d, e, rfl, h1, h2⟩ := (app_iff q p b).1 h
        exact ⟨a ++ d, e, by simp, (star_iff p _).2 ⟨a, d, rfl, h1⟩, h2⟩
      · rintro ⟨a, b, rfl, h1, h2⟩
        obtain ⟨d, e, rfl, h3⟩ := (star_iff p a).1 h1
        exact ⟨d, e ++ b, by simp, (app_iff q p _).2 ⟨e, b, rfl, h3, h2⟩⟩
    · rw [List.cons_append, one_iff _ _ hc]
      constructor
      · rintro ⟨x, t, rfl, h1, h⟩
        obtain ⟨d, e, rfl, h2, h3⟩ := (app_iff q p t).1 h
        exact ⟨x :: d, e, rfl, (one_iff p _ hc).2 ⟨x, d, rfl, h1, h2⟩, h3⟩
      · rintro ⟨a, b, rfl, h1, h2⟩
        obtain ⟨x, t, rfl, h3, h4⟩ := (one_iff p a hc).1 h1
        exact ⟨x, t ++ b, rfl, h3, (app_iff q p _).2 ⟨t, b, rfl, h4, h2⟩⟩
theorem any_star (u : List Int) : gm [37] u = true := (star_iff [] u).2 ⟨u, [], by simp, by rw [gm]⟩
theorem snoc_nil (p : List Int) (c : Int) : gm (p ++ [c]) [] = (gm p [] && decide (c = 37)) := by
  rw [Bool.eq_iff_iff, app_iff, Bool.and_eq_true, decide_eq_true_eq]
  constructor
  · rintro ⟨a, b, h, h1, h2⟩
    obtain ⟨rfl, rfl⟩ := List.append_eq_nil_iff.1 h.symm
    refine ⟨h1, ?_⟩
    by_cases hc : c = 37
    · exact hc
    · rw [gm_one_nil [] hc] at h2; cases h2
  · rintro ⟨h1, rfl⟩
    exact ⟨[], [], rfl, h1, any_star []⟩
theorem snoc_star (p t : List Int) (x : Int) : gm (p ++ [37]) (t ++ [x]) = (gm p (t ++ [x]) || gm (p ++ [37]) t) := by
  rw [Bool.eq_iff_iff, Bool.or_eq_true, app_iff, app_iff]
  constructor
  · rintro ⟨a, b, h, h1, h2⟩
    rcases List.eq_nil_or_concat b with rfl | ⟨b', y, rfl⟩
    · rw [List.append_nil] at h
      left; rw [h]; exact h1
    · rw [List.concat_eq_append, ← List.append_assoc] at h
      have := List.append_inj_left' h rfl
      right; exact ⟨a, b', this, h1, any_star b'⟩
  · rintro (h | ⟨a, b, rfl, h1, h2⟩)
    · exact ⟨t ++ [x], [], by simp, h, any_star []⟩
    · exact ⟨a, b ++ [x], by simp, h1, any_star _⟩
theorem snoc_one (p t : List Int) (c x : Int) (hc : c ≠ 37) : gm (p ++ [c]) (t ++ [x]) = (gm p t && (decide (c = 95) || decide (c = x))) := by
  rw [Bool.eq_iff_iff, app_iff, Bool.and_eq_true, Bool.or_eq_true, decide_eq_true_eq, decide_eq_true_eq]
  constructor
  · rintro ⟨a, b, h, h1, h2⟩
    obtain ⟨y, v, rfl, h3, h4⟩ := (one_iff [] b hc).1 h2
    rw [(nil_iff v).1 h4] at h
    have e1 := List.append_inj_left' h rfl
    have e2 := List.append_inj_right' h rfl
    cases e2
    rw [e1]; exact ⟨h1, h3⟩
  · rintro ⟨h1, h2⟩
    exact ⟨t, [x], rfl, h1, (one_iff [] [x] hc).2 ⟨x, [], rfl, h2, by rw [gm]⟩⟩
theorem take_snoc {l : List Int} {i : Nat} (h : i < l.length) : l.take (i + 1) = l.take i ++ [l.getD i 0] := by
  rw [List.take_add_one, List.getElem?_eq_getElem h, List.getD_eq_getElem?_getD, List.getElem?_eq_getElem h]; rfl
/-- The table: the first j bytes of the pattern, the first i of the text. -/
def tb (P T : List Int) (i j : Nat) : Bool := gm (P.take j) (T.take i)
theorem tb_00 (P T : List Int) : tb P T 0 0 = true := by unfold tb; rw [List.take_zero, List.take_zero]; exact (nil_iff []).2 rfl
theorem tb_i0 {P T : List Int} {i : Nat} (h : i < T.length) : tb P T (i + 1) 0 = false := by
  unfold tb
  rw [List.take_zero, take_snoc h, ← Bool.not_eq_true, nil_iff]
  simp
theorem tb_0j {P T : List Int} {j : Nat} (h : j < P.length) : tb P T 0 (j + 1) = (tb P T 0 j && decide (P.getD j 0 = 37)) := by
  unfold tb
  rw [List.take_zero, take_snoc h, snoc_nil]
theorem tb_star {P T : List Int} {i j : Nat} (hi : i < T.length) (hj : j < P.length) (h : P.getD j 0 = 37) : tb P T (i + 1) (j + 1) = (tb P T (i + 1) j || tb P T i (j + 1)) := by
  unfold tb
  rw [take_snoc hi, take_snoc hj, h, snoc_star]
theorem tb_any {P T : List Int} {i j : Nat} (hi : i < T.length) (hj : j < P.length) (h : P.getD j 0 = 95) : tb P T (i + 1) (j + 1) = tb P T i j := by
  unfold tb
  rw [take_snoc hi, take_snoc hj, h, snoc_one _ _ _ _ (by decide)]
  simp
theorem tb_one {P T : List Int} {i j : Nat} (hi : i < T.length) (hj : j < P.length) (h1 : P.getD j 0 ≠ 37) (h2 : P.getD j 0 ≠ 95) : tb P T (i + 1) (j + 1) = (tb P T i j && decide (P.getD j 0 = T.getD i 0)) := by
  unfold tb
  rw [take_snoc hi, take_snoc hj, snoc_one _ _ _ _ h1]
  rw [decide_eq_false h2, Bool.false_or]
theorem tb_end (P T : List Int) : tb P T T.length P.length = gm P T := by
  unfold tb; rw [List.take_length, List.take_length]
/-- A row of truths. -/
def bel (n : Nat) (B : Nat → Bool) : List (List AV) := (List.range n).map fun k => [.bool (B k)]
theorem bel_len (n : Nat) (B : Nat → Bool) : (bel n B).length = n := by simp [bel]
theorem bel_get {n i : Nat} (B : Nat → Bool) (h : i < n) : (bel n B).getD i [] = [.bool (B i)] := by
  unfold bel
  rw [List.getD_eq_getElem?_getD, List.getElem?_map, List.getElem?_range h]
  rfl
theorem bel_set (n i : Nat) (B : Nat → Bool) (v : Bool) : (bel n B).set i [.bool v] = bel n (fun k => if k = i then v else B k) := by
  unfold bel
  apply List.ext_getElem
  · simp
  · intro k h1 h2
    simp only [List.length_set, List.length_map, List.length_range] at h1
    rw [List.getElem_set, List.getElem_map, List.getElem_map, List.getElem_range]
    by_cases hk : i = k
    · rw [if_pos hk]
      show _ = [AV.bool (if k = i then v else B k)]
      rw [if_pos hk.symm]
    · rw [if_neg hk]
      show _ = [AV.bool (if k = i then v else B k)]
      rw [if_neg (fun e => hk e.symm)]
theorem bel_rep (n : Nat) : List.replicate n [AV.bool false] = bel n fun _ => false := by
  unfold bel
  apply List.ext_getElem
  · simp
  · intro k h1 h2
    simp
theorem bel_congr {n : Nat} {B C : Nat → Bool} (h : ∀ k, k < n → B k = C k) : bel n B = bel n C := by
  unfold bel
  apply List.map_congr_left
  intro k hk
  rw [h k (List.mem_range.1 hk)]
end Go.Proofs.YtmlaogjndaeihaaGreatDoor
end

section
namespace Go.Proofs.YtmlaogjndaeihaaGreatDoor
open Go Go.Ab
theorem ti85 : ti Tryz.prog 85 = ⟨(.slice 4), 1, 24, false, some [.nils]⟩ := by kernel_rfl

attribute [local go_sem ↓] parts_tt parts_ff parts_tf parts_ft
attribute [local go_sem] parts_eq learnT aops_nil aops_cons aopsD_nil aopsD_cons stepS stepD gval St.learn skipR St.after putτ applyUpd List.foldl_cons List.foldl_nil pureOp memOp callOf litA closeO closeK List.flatMap_cons List.flatMap_nil Option.map_none decide_false opnd ofConst leaf binA unA lenA indexA indexAddrA fieldAddrA fieldA sliceA convertA pickV fillA placeS cellsA setA partA loadM storeM appendM srcEls lookBox lookRow lookMap closeL closeV scalarB scalarL killed buildEls lookupA leafEq eqAll resA resL tupA retA thenA blockA isInt loA hiA foldA maxA minA okSize leafB closedB Res.foot List.getD_cons_zero List.getD_cons_succ List.set_cons_zero List.set_cons_succ List.map_cons List.map_nil List.append_nil List.nil_append List.cons_append List.length_cons List.length_nil List.take_succ_cons List.take_zero List.drop_succ_cons List.drop_zero List.take_nil List.drop_nil List.all_cons List.all_nil List.getElem?_toArray List.getElem?_cons_zero List.getElem?_cons_succ Option.bind_some Option.map_some true_and and_true true_implies ne_eq not_true_eq_false not_false_eq_true Bool.true_eq_false Bool.false_eq_true Bool.not_true Bool.not_false decide_eq_true_eq decide_eq_false_iff_not false_implies implies_true and_self ite_true ite_false cond_true cond_false Option.some.injEq List.reverse_cons List.reverse_nil Bool.and_self Bool.true_and Bool.and_true Bool.false_and Bool.and_false Bool.or_true Bool.true_or Bool.or_false Bool.false_or Bool.not_eq_eq_eq_not Bool.not_not Bool.or_self beq_self_eq_true and_false false_and or_true true_or or_false false_or not_true not_false_iff Decidable.not_not lookT lookR tabT tabR Int.toNat_natCast List.length_map List.map_append List.length_append decide_true decide_false tmod2 List.mem_singleton forall_eq elOk1 elOk3 elOk4 castn0 castn1 castn2 castn3 getD_mid getD_mid_map at_lt at_end mid_lt mid_lt' nat_ge List.size_toArray Array.size_empty Nat.add_zero Nat.zero_add
attribute [local irreducible] ASpec ACalls retA ti EqT
set_option linter.unusedSimpArgs false
set_option maxHeartbeats 4000000
set_option maxRecDepth 100000
set_option linter.unusedVariables false
attribute [local go_sem] ti2 ti3 ti4 ti5 ti9 ti21 ti22 ti23 ti24 ti26 ti27 ti29 ti41 ti47 ti49 ti56 ti59 ti63 ti67 ti71 ti75 ti78 ti79 ti80 ti85 ti86 ti90 ti110
def rowJ (F : Nat → Bool) (j k : Nat) : Bool := if k ≤ j then F k else false
theorem rowJ_set (n j : Nat) (F : Nat → Bool) : (bel n (rowJ F j)).set (j + 1) [.bool (F (j + 1))] = bel n (rowJ F (j + 1)) := by
  rw [bel_set]
  apply bel_congr
  intro k _
  unfold rowJ
  by_cases h1 : k = j + 1
  · rw [if_pos h1, if_pos (by omega), h1]
  · rw [if_neg h1]
    by_cases h2 : k ≤ j
    · rw [if_pos h2, if_pos (by omega)]
    · rw [if_neg h2, if_neg (by omega)]
theorem row0_set (n : Nat) (F : Nat → Bool) : (bel n fun _ => false).set 0 [.bool (F 0)] = bel n (rowJ F 0) := by
  rw [bel_set]
  apply bel_congr
  intro k _
  unfold rowJ
  by_cases h1 : k = 0
  · rw [if_pos h1, if_pos (by omega), h1]
  · rw [if_neg h1, if_neg (by omega)]
theorem bel_full (n : Nat) (F : Nat → Bool) : bel (n + 1) (rowJ F n) = bel (n + 1) F := by
  apply bel_congr
  intro k hk
  unfold rowJ
  rw [if_pos (by omega)]
theorem ref_Matches (a b : ByteArray) (ha : a.size < 2 ^ 40) (hb : b.size < 2 ^ 40) : ACalls Tryz.prog 35 [.str a, .str b] (.bool (gm (LB b) (LB a))) := by
  have hw1 := wrap_nat b.size (by omega)
  have hlen := LB_len b
  have hlen2 := LB_len a
  have bP : ∀ i : Nat, bt b i = (LB b).getD i 0 := bt_LB b
  have bT : ∀ i : Nat, bt a i = (LB a).getD i 0 := bt_LB a
  generalize hF : tb (LB b) (LB a) = F
  have f0 : F 0 0 = true := by rw [← hF]; exact tb_00 _ _
  have hg0 : (bel (b.size + 1) fun _ => false).getD 0 [] = [.bool false] := bel_get _ (by omega)
  have hs0 := row0_set (b.size + 1) (F 0)
  rw [f0] at hs0
  have mpos'' : 0 < b.size + 1 := by omega
  refine acalls_k Tryz.func35 rfl (by kernel_rfl) (congrArg Array.toList Tryz.results35) Tryz.ntmps35 ?_
  intro R hR
  simp only [st0, List.length_cons, List.length_nil, Nat.reduceAdd, Nat.reduceSub, List.replicate_succ, List.replicate_zero, List.cons_append, List.nil_append]
  repeat' (first
      | (with_reducible refine a_seq_k ?_; intro K hK)
      | ((first | with_reducible refine a_region (by kernel_rfl) ?_ | (with_reducible refine a_draw mixed (by kernel_rfl) ?_; intro C hC) | (with_reducible refine a_cond_k ?_; intro X Y hX hY) | with_reducible refine RetOk.mk ?_); simp (maxSteps := 10000000) (implicitDefEqProofs := false) only [go_sem, hw1, bel_rep, hg0, hs0, bel_len,  ↓reduceIte, reduceCtorEq, Nat.reduceAdd, Nat.reduceSub, Nat.reduceLeDiff, Nat.reduceEqDiff, Nat.reduceMul, Nat.reduceLT, Nat.reducePow, Int.reduceEq, Int.reduceLT, Int.reduceLE, Int.reduceGT, Int.reduceGE, Int.reduceAdd, Int.reduceSub, Int.reduceNeg, Int.reduceToNat])
      | with_reducible refine a_block ?_
      | with_reducible refine a_ret ?_
      | with_reducible refine a_exit ?_
      | with_reducible refine a_skip ?_
      | with_reducible exact ConfOk.mk (by kernel_rfl)
      | (with_reducible refine eqT_of (eq33 _ _ _ _ _ _) ?_; simp)
      | (with_reducible refine eqT_of (eq35 _ _ _ _ _ _ _ _) ?_; simp)
      | ((fail_if_success with_reducible show False); with_reducible apply_assumption (exfalso := false) (symm := false) only [*, rfl, trivial, congrArg])
      | with_reducible refine And.intro ?_ ?_
      | (intro h; contradiction)
      | (intro h; subst h)
      | intro h
      | simp (maxSteps := 10000000) (implicitDefEqProofs := false) only [go_sem, hw1, bel_rep, hg0, hs0, bel_len,  ↓reduceIte, reduceCtorEq, Nat.reduceAdd, Nat.reduceSub, Nat.reduceLeDiff, Nat.reduceEqDiff, Nat.reduceMul, Nat.reduceLT, Nat.reducePow, Int.reduceEq, Int.reduceLT, Int.reduceLE, Int.reduceGT, Int.reduceGE, Int.reduceAdd, Int.reduceSub, Int.reduceNeg, Int.reduceToNat])
  · omega
  · omega
  · omega
  · omega
  clear hg0 hs0
  refine a_loop_k (fun n st => ∃ g j : Nat, j ≤ b.size ∧ n = b.size - j ∧ Has st 105 [(0, .str a), (1, .str b), (5, .view 13 g), (6, .int .i64 j)] [(13, .row g 1 (bel (b.size + 1) (rowJ (F 0) j)))]) b.size ⟨1, 0, Nat.zero_le _, rfl, ⟨rfl, rfl, by simp, by simp⟩⟩ ?_
  rintro n st ⟨g, j, hj, rfl, hh⟩ K hK
  refine a_has hh fun τ σ γ => ?_
  have hwj := wrap_nat j (by omega)
  have hgj : (bel (b.size + 1) (rowJ (F 0) j)).getD j [] = [.bool (F 0 j)] := by
    rw [bel_get _ (by omega)]; unfold rowJ; rw [if_pos (Nat.le_refl _)]
  by_cases hlt : j < b.size
  · have c1 : (j : Int) < (b.size : Int) := by omega
    have hgj1 : ((bel (b.size + 1) (rowJ (F 0) j)).getD (j + 1) []).length = 1 := by rw [bel_get _ (by omega)]; rfl
    have hgj2 : List.drop 1 ((bel (b.size + 1) (rowJ (F 0) j)).getD (j + 1) []) = [] := by rw [bel_get _ (by omega)]; rfl
    have e := tb_0j (P := LB b) (T := LB a) (j := j) (by omega)
    rw [hF] at e
    have hset := rowJ_set (b.size + 1) j (F 0)
    rw [e, ← bP] at hset
    repeat' (first
        | (with_reducible refine a_seq_k ?_; intro K hK)
        | ((first | with_reducible refine a_region (by kernel_rfl) ?_ | (with_reducible refine a_draw mixed (by kernel_rfl) ?_; intro C hC) | (with_reducible refine a_cond_k ?_; intro X Y hX hY) | with_reducible refine RetOk.mk ?_); simp (maxSteps := 10000000) (implicitDefEqProofs := false) only [go_sem, hwj, hgj, hgj1, hgj2, bel_len, c1,  ↓reduceIte, reduceCtorEq, Nat.reduceAdd, Nat.reduceSub, Nat.reduceLeDiff, Nat.reduceEqDiff, Nat.reduceMul, Nat.reduceLT, Nat.reducePow, Int.reduceEq, Int.reduceLT, Int.reduceLE, Int.reduceGT, Int.reduceGE, Int.reduceAdd, Int.reduceSub, Int.reduceNeg, Int.reduceToNat])
        | with_reducible refine a_block ?_
        | with_reducible refine a_ret ?_
        | with_reducible refine a_exit ?_
        | with_reducible refine a_skip ?_
        | with_reducible exact ConfOk.mk (by kernel_rfl)
        | (with_reducible refine eqT_of (eq33 _ _ _ _ _ _) ?_; simp)
        | (with_reducible refine eqT_of (eq35 _ _ _ _ _ _ _ _) ?_; simp)
        | ((fail_if_success with_reducible show False); with_reducible apply_assumption (exfalso := false) (symm := false) only [*, rfl, trivial, congrArg])
        | with_reducible refine And.intro ?_ ?_
        | (intro h; contradiction)
        | (intro h; subst h)
        | intro h
        | simp (maxSteps := 10000000) (implicitDefEqProofs := false) only [go_sem, hwj, hgj, hgj1, hgj2, bel_len, c1,  ↓reduceIte, reduceCtorEq, Nat.reduceAdd, Nat.reduceSub, Nat.reduceLeDiff, Nat.reduceEqDiff, Nat.reduceMul, Nat.reduceLT, Nat.reducePow, Int.reduceEq, Int.reduceLT, Int.reduceLE, Int.reduceGT, Int.reduceGE, Int.reduceAdd, Int.reduceSub, Int.reduceNeg, Int.reduceToNat])
    all_goals try omega
    all_goals
      rename F 0 j = _ => hv
      rw [hv] at hset
      simp only [Bool.true_and, Bool.false_and] at hset
      exact ⟨⟨b.size - (j + 1), by omega, g, j + 1, by omega, rfl, ⟨rfl, rfl, by simp, by simp [hset]⟩⟩⟩
  · have c1 : ¬ (j : Int) < (b.size : Int) := by omega
    have hjm : j = b.size := by omega
    subst hjm
    repeat' (first
        | (with_reducible refine a_seq_k ?_; intro K hK)
        | ((first | with_reducible refine a_region (by kernel_rfl) ?_ | (with_reducible refine a_draw mixed (by kernel_rfl) ?_; intro C hC) | (with_reducible refine a_cond_k ?_; intro X Y hX hY) | with_reducible refine RetOk.mk ?_); simp (maxSteps := 10000000) (implicitDefEqProofs := false) only [go_sem, c1,  ↓reduceIte, reduceCtorEq, Nat.reduceAdd, Nat.reduceSub, Nat.reduceLeDiff, Nat.reduceEqDiff, Nat.reduceMul, Nat.reduceLT, Nat.reducePow, Int.reduceEq, Int.reduceLT, Int.reduceLE, Int.reduceGT, Int.reduceGE, Int.reduceAdd, Int.reduceSub, Int.reduceNeg, Int.reduceToNat])
        | with_reducible refine a_block ?_
        | with_reducible refine a_ret ?_
        | with_reducible refine a_exit ?_
        | with_reducible refine a_skip ?_
        | with_reducible exact ConfOk.mk (by kernel_rfl)
        | (with_reducible refine eqT_of (eq33 _ _ _ _ _ _) ?_; simp)
        | (with_reducible refine eqT_of (eq35 _ _ _ _ _ _ _ _) ?_; simp)
        | ((fail_if_success with_reducible show False); with_reducible apply_assumption (exfalso := false) (symm := false) only [*, rfl, trivial, congrArg])
        | with_reducible refine And.intro ?_ ?_
        | (intro h; contradiction)
        | (intro h; subst h)
        | intro h
        | simp (maxSteps := 10000000) (implicitDefEqProofs := false) only [go_sem, c1,  ↓reduceIte, reduceCtorEq, Nat.reduceAdd, Nat.reduceSub, Nat.reduceLeDiff, Nat.reduceEqDiff, Nat.reduceMul, Nat.reduceLT, Nat.reducePow, Int.reduceEq, Int.reduceLT, Int.reduceLE, Int.reduceGT, Int.reduceGE, Int.reduceAdd, Int.reduceSub, Int.reduceNeg, Int.reduceToNat])
    refine a_freeze [5] (k := 13) (g := g) (es := 1) (els := bel (b.size + 1) (rowJ (F 0) b.size)) (by simp) (by simp [lookRow]) ?_
    simp only [putAll, List.set_cons_zero, List.set_cons_succ, applyUpd, List.foldl_cons, List.foldl_nil]
    rw [bel_full]
    clear hgj hj hwj c1 hlt
    refine a_loop_k (fun n st => ∃ i : Nat, i ≤ a.size ∧ n = a.size - i ∧ Has st 105 [(0, .str a), (1, .str b), (5, .slice (bel (b.size + 1) (F i))), (7, .int .i64 i)] []) a.size ⟨0, Nat.zero_le _, rfl, ⟨rfl, rfl, by simp, by simp⟩⟩ ?_
    rintro n st ⟨i, hi, rfl, hh⟩ K hK
    refine a_has hh fun τ σ γ => ?_
    have hwi := wrap_nat i (by omega)
    by_cases hli : i < a.size
    · have c2 : ((i : Int) < (a.size : Int)) = True := eq_true (by omega)
      have f1 : F (i + 1) 0 = false := by rw [← hF]; exact tb_i0 (by omega)
      repeat' (first
          | (with_reducible refine a_seq_k ?_; intro K hK)
          | ((first | with_reducible refine a_region (by kernel_rfl) ?_ | (with_reducible refine a_draw mixed (by kernel_rfl) ?_; intro C hC) | (with_reducible refine a_cond_k ?_; intro X Y hX hY) | with_reducible refine RetOk.mk ?_); simp (maxSteps := 10000000) (implicitDefEqProofs := false) only [go_sem, hw1, bel_rep, c2,  ↓reduceIte, reduceCtorEq, Nat.reduceAdd, Nat.reduceSub, Nat.reduceLeDiff, Nat.reduceEqDiff, Nat.reduceMul, Nat.reduceLT, Nat.reducePow, Int.reduceEq, Int.reduceLT, Int.reduceLE, Int.reduceGT, Int.reduceGE, Int.reduceAdd, Int.reduceSub, Int.reduceNeg, Int.reduceToNat])
          | with_reducible refine a_block ?_
          | with_reducible refine a_ret ?_
          | with_reducible refine a_exit ?_
          | with_reducible refine a_skip ?_
          | with_reducible exact ConfOk.mk (by kernel_rfl)
          | (with_reducible refine eqT_of (eq33 _ _ _ _ _ _) ?_; simp)
          | (with_reducible refine eqT_of (eq35 _ _ _ _ _ _ _ _) ?_; simp)
          | ((fail_if_success with_reducible show False); with_reducible apply_assumption (exfalso := false) (symm := false) only [*, rfl, trivial, congrArg])
          | with_reducible refine And.intro ?_ ?_
          | (intro h; contradiction)
          | (intro h; subst h)
          | intro h
          | simp (maxSteps := 10000000) (implicitDefEqProofs := false) only [go_sem, hw1, bel_rep, c2,  ↓reduceIte, reduceCtorEq, Nat.reduceAdd, Nat.reduceSub, Nat.reduceLeDiff, Nat.reduceEqDiff, Nat.reduceMul, Nat.reduceLT, Nat.reducePow, Int.reduceEq, Int.reduceLT, Int.reduceLE, Int.reduceGT, Int.reduceGE, Int.reduceAdd, Int.reduceSub, Int.reduceNeg, Int.reduceToNat])
      any_goals omega
      have e0 : bel (b.size + 1) (fun _ => false) = bel (b.size + 1) (rowJ (F (i + 1)) 0) := by
        apply bel_congr
        intro k _
        unfold rowJ
        by_cases h1 : k = 0
        · rw [if_pos (by omega), h1, f1]
        · rw [if_neg (by omega)]
      refine a_loop_k (fun n st => ∃ g j : Nat, j ≤ b.size ∧ n = b.size - j ∧ Has st 105 [(0, .str a), (1, .str b), (5, .slice (bel (b.size + 1) (F i))), (7, .int .i64 i), (8, .view 45 g), (9, .int .i64 j)] [(45, .row g 1 (bel (b.size + 1) (rowJ (F (i + 1)) j)))]) b.size ⟨γ + 1, 0, Nat.zero_le _, rfl, ⟨rfl, rfl, by simp, by simp [e0]⟩⟩ ?_
      rintro n st ⟨g, j, hj, rfl, hh2⟩ K hK
      refine a_has hh2 fun τ σ γ => ?_
      have hwj := wrap_nat j (by omega)
      by_cases hlt : j < b.size
      · have c3 : ((j : Int) < (b.size : Int)) = True := eq_true (by omega)
        have r1 : (bel (b.size + 1) (rowJ (F (i + 1)) j)).getD j [] = [.bool (F (i + 1) j)] := by
          rw [bel_get _ (by omega)]; unfold rowJ; rw [if_pos (Nat.le_refl _)]
        have r2 : ((bel (b.size + 1) (rowJ (F (i + 1)) j)).getD (j + 1) []).length = 1 := by rw [bel_get _ (by omega)]; rfl
        have r3 : List.drop 1 ((bel (b.size + 1) (rowJ (F (i + 1)) j)).getD (j + 1) []) = [] := by rw [bel_get _ (by omega)]; rfl
        have s1 : (bel (b.size + 1) (F i)).getD j [] = [.bool (F i j)] := bel_get _ (by omega)
        have s2 : (bel (b.size + 1) (F i)).getD (j + 1) [] = [.bool (F i (j + 1))] := bel_get _ (by omega)
        have hset := rowJ_set (b.size + 1) j (F (i + 1))
        by_cases q1 : bt b j = 37
        · have e := tb_star (P := LB b) (T := LB a) (i := i) (j := j) (by omega) (by omega) (by rw [← bP]; exact q1)
          rw [hF] at e
          rw [e] at hset
          repeat' (first
              | (with_reducible refine a_seq_k ?_; intro K hK)
              | ((first | with_reducible refine a_region (by kernel_rfl) ?_ | (with_reducible refine a_draw mixed (by kernel_rfl) ?_; intro C hC) | (with_reducible refine a_cond_k ?_; intro X Y hX hY) | with_reducible refine RetOk.mk ?_); simp (maxSteps := 10000000) (implicitDefEqProofs := false) only [go_sem, hwj, r1, r2, r3, s1, s2, bel_len, c3, q1,  ↓reduceIte, reduceCtorEq, Nat.reduceAdd, Nat.reduceSub, Nat.reduceLeDiff, Nat.reduceEqDiff, Nat.reduceMul, Nat.reduceLT, Nat.reducePow, Int.reduceEq, Int.reduceLT, Int.reduceLE, Int.reduceGT, Int.reduceGE, Int.reduceAdd, Int.reduceSub, Int.reduceNeg, Int.reduceToNat])
              | with_reducible refine a_block ?_
              | with_reducible refine a_ret ?_
              | with_reducible refine a_exit ?_
              | with_reducible refine a_skip ?_
              | with_reducible exact ConfOk.mk (by kernel_rfl)
              | (with_reducible refine eqT_of (eq33 _ _ _ _ _ _) ?_; simp)
              | (with_reducible refine eqT_of (eq35 _ _ _ _ _ _ _ _) ?_; simp)
              | ((fail_if_success with_reducible show False); with_reducible apply_assumption (exfalso := false) (symm := false) only [*, rfl, trivial, congrArg])
              | with_reducible refine And.intro ?_ ?_
              | (intro h; contradiction)
              | (intro h; subst h)
              | intro h
              | simp (maxSteps := 10000000) (implicitDefEqProofs := false) only [go_sem, hwj, r1, r2, r3, s1, s2, bel_len, c3, q1,  ↓reduceIte, reduceCtorEq, Nat.reduceAdd, Nat.reduceSub, Nat.reduceLeDiff, Nat.reduceEqDiff, Nat.reduceMul, Nat.reduceLT, Nat.reducePow, Int.reduceEq, Int.reduceLT, Int.reduceLE, Int.reduceGT, Int.reduceGE, Int.reduceAdd, Int.reduceSub, Int.reduceNeg, Int.reduceToNat])
          all_goals try omega
          all_goals
            rename F (i + 1) j = _ => hv
            rw [hv] at hset
            simp only [Bool.true_or, Bool.false_or] at hset
            exact ⟨⟨b.size - (j + 1), by omega, g, j + 1, by omega, rfl, ⟨rfl, rfl, by simp, by simp [hset]⟩⟩⟩
        · by_cases q2 : bt b j = 95
          · have e := tb_any (P := LB b) (T := LB a) (i := i) (j := j) (by omega) (by omega) (by rw [← bP]; exact q2)
            rw [hF] at e
            rw [e] at hset
            repeat' (first
                | (with_reducible refine a_seq_k ?_; intro K hK)
                | ((first | with_reducible refine a_region (by kernel_rfl) ?_ | (with_reducible refine a_draw mixed (by kernel_rfl) ?_; intro C hC) | (with_reducible refine a_cond_k ?_; intro X Y hX hY) | with_reducible refine RetOk.mk ?_); simp (maxSteps := 10000000) (implicitDefEqProofs := false) only [go_sem, hwj, r1, r2, r3, s1, s2, bel_len, c3, q2,  ↓reduceIte, reduceCtorEq, Nat.reduceAdd, Nat.reduceSub, Nat.reduceLeDiff, Nat.reduceEqDiff, Nat.reduceMul, Nat.reduceLT, Nat.reducePow, Int.reduceEq, Int.reduceLT, Int.reduceLE, Int.reduceGT, Int.reduceGE, Int.reduceAdd, Int.reduceSub, Int.reduceNeg, Int.reduceToNat])
                | with_reducible refine a_block ?_
                | with_reducible refine a_ret ?_
                | with_reducible refine a_exit ?_
                | with_reducible refine a_skip ?_
                | with_reducible exact ConfOk.mk (by kernel_rfl)
                | (with_reducible refine eqT_of (eq33 _ _ _ _ _ _) ?_; simp)
                | (with_reducible refine eqT_of (eq35 _ _ _ _ _ _ _ _) ?_; simp)
                | ((fail_if_success with_reducible show False); with_reducible apply_assumption (exfalso := false) (symm := false) only [*, rfl, trivial, congrArg])
                | with_reducible refine And.intro ?_ ?_
                | (intro h; contradiction)
                | (intro h; subst h)
                | intro h
                | simp (maxSteps := 10000000) (implicitDefEqProofs := false) only [go_sem, hwj, r1, r2, r3, s1, s2, bel_len, c3, q2,  ↓reduceIte, reduceCtorEq, Nat.reduceAdd, Nat.reduceSub, Nat.reduceLeDiff, Nat.reduceEqDiff, Nat.reduceMul, Nat.reduceLT, Nat.reducePow, Int.reduceEq, Int.reduceLT, Int.reduceLE, Int.reduceGT, Int.reduceGE, Int.reduceAdd, Int.reduceSub, Int.reduceNeg, Int.reduceToNat])
            all_goals try omega
            all_goals exact ⟨⟨b.size - (j + 1), by omega, g, j + 1, by omega, rfl, ⟨rfl, rfl, by simp, by simp [hset]⟩⟩⟩
          · have e := tb_one (P := LB b) (T := LB a) (i := i) (j := j) (by omega) (by omega) (by rw [← bP]; exact q1) (by rw [← bP]; exact q2)
            rw [hF] at e
            rw [e, ← bP, ← bT] at hset
            repeat' (first
                | (with_reducible refine a_seq_k ?_; intro K hK)
                | ((first | with_reducible refine a_region (by kernel_rfl) ?_ | (with_reducible refine a_draw mixed (by kernel_rfl) ?_; intro C hC) | (with_reducible refine a_cond_k ?_; intro X Y hX hY) | with_reducible refine RetOk.mk ?_); simp (maxSteps := 10000000) (implicitDefEqProofs := false) only [go_sem, hwj, r1, r2, r3, s1, s2, bel_len, c3, q1, q2,  ↓reduceIte, reduceCtorEq, Nat.reduceAdd, Nat.reduceSub, Nat.reduceLeDiff, Nat.reduceEqDiff, Nat.reduceMul, Nat.reduceLT, Nat.reducePow, Int.reduceEq, Int.reduceLT, Int.reduceLE, Int.reduceGT, Int.reduceGE, Int.reduceAdd, Int.reduceSub, Int.reduceNeg, Int.reduceToNat])
                | with_reducible refine a_block ?_
                | with_reducible refine a_ret ?_
                | with_reducible refine a_exit ?_
                | with_reducible refine a_skip ?_
                | with_reducible exact ConfOk.mk (by kernel_rfl)
                | (with_reducible refine eqT_of (eq33 _ _ _ _ _ _) ?_; simp)
                | (with_reducible refine eqT_of (eq35 _ _ _ _ _ _ _ _) ?_; simp)
                | ((fail_if_success with_reducible show False); with_reducible apply_assumption (exfalso := false) (symm := false) only [*, rfl, trivial, congrArg])
                | with_reducible refine And.intro ?_ ?_
                | (intro h; contradiction)
                | (intro h; subst h)
                | intro h
                | simp (maxSteps := 10000000) (implicitDefEqProofs := false) only [go_sem, hwj, r1, r2, r3, s1, s2, bel_len, c3, q1, q2,  ↓reduceIte, reduceCtorEq, Nat.reduceAdd, Nat.reduceSub, Nat.reduceLeDiff, Nat.reduceEqDiff, Nat.reduceMul, Nat.reduceLT, Nat.reducePow, Int.reduceEq, Int.reduceLT, Int.reduceLE, Int.reduceGT, Int.reduceGE, Int.reduceAdd, Int.reduceSub, Int.reduceNeg, Int.reduceToNat])
            all_goals try omega
            all_goals
              rename F i j = _ => hv
              rw [hv] at hset
              simp only [Bool.true_and, Bool.false_and] at hset
              exact ⟨⟨b.size - (j + 1), by omega, g, j + 1, by omega, rfl, ⟨rfl, rfl, by simp, by simp [hset]⟩⟩⟩
      · have c3 : ((j : Int) < (b.size : Int)) = False := eq_false (by omega)
        have hjm : j = b.size := by omega
        subst hjm
        simp only [tabT, tabR, lookT, lookR, Nat.reduceAdd, ↓reduceIte, Nat.reduceEqDiff, reduceCtorEq]
        refine a_freeze [8] (k := 45) (g := g) (es := 1) (els := bel (b.size + 1) (rowJ (F (i + 1)) b.size)) (by simp) (by simp [lookRow]) ?_
        simp only [putAll, List.set_cons_zero, List.set_cons_succ, applyUpd, List.foldl_cons, List.foldl_nil]
        rw [bel_full]
        repeat' (first
            | (with_reducible refine a_seq_k ?_; intro K hK)
            | ((first | with_reducible refine a_region (by kernel_rfl) ?_ | (with_reducible refine a_draw mixed (by kernel_rfl) ?_; intro C hC) | (with_reducible refine a_cond_k ?_; intro X Y hX hY) | with_reducible refine RetOk.mk ?_); simp (maxSteps := 10000000) (implicitDefEqProofs := false) only [go_sem, c3, hwi,  ↓reduceIte, reduceCtorEq, Nat.reduceAdd, Nat.reduceSub, Nat.reduceLeDiff, Nat.reduceEqDiff, Nat.reduceMul, Nat.reduceLT, Nat.reducePow, Int.reduceEq, Int.reduceLT, Int.reduceLE, Int.reduceGT, Int.reduceGE, Int.reduceAdd, Int.reduceSub, Int.reduceNeg, Int.reduceToNat])
            | with_reducible refine a_block ?_
            | with_reducible refine a_ret ?_
            | with_reducible refine a_exit ?_
            | with_reducible refine a_skip ?_
            | with_reducible exact ConfOk.mk (by kernel_rfl)
            | (with_reducible refine eqT_of (eq33 _ _ _ _ _ _) ?_; simp)
            | (with_reducible refine eqT_of (eq35 _ _ _ _ _ _ _ _) ?_; simp)
            | ((fail_if_success with_reducible show False); with_reducible apply_assumption (exfalso := false) (symm := false) only [*, rfl, trivial, congrArg])
            | with_reducible refine And.intro ?_ ?_
            | (intro h; contradiction)
            | (intro h; subst h)
            | intro h
            | simp (maxSteps := 10000000) (implicitDefEqProofs := false) only [go_sem, c3, hwi,  ↓reduceIte, reduceCtorEq, Nat.reduceAdd, Nat.reduceSub, Nat.reduceLeDiff, Nat.reduceEqDiff, Nat.reduceMul, Nat.reduceLT, Nat.reducePow, Int.reduceEq, Int.reduceLT, Int.reduceLE, Int.reduceGT, Int.reduceGE, Int.reduceAdd, Int.reduceSub, Int.reduceNeg, Int.reduceToNat])
        exact ⟨⟨a.size - (i + 1), by omega, i + 1, by omega, rfl, ⟨rfl, rfl, by simp, by simp⟩⟩⟩
    · have c2 : ((i : Int) < (a.size : Int)) = False := eq_false (by omega)
      have him : i = a.size := by omega
      subst him
      have hg := bel_get (n := b.size + 1) (i := b.size) (F a.size) (by omega)
      have hv : F a.size b.size = gm (LB b) (LB a) := by rw [← hF, ← hlen, ← hlen2, tb_end]
      rw [hv] at hg
      repeat' (first
          | (with_reducible refine a_seq_k ?_; intro K hK)
          | ((first | with_reducible refine a_region (by kernel_rfl) ?_ | (with_reducible refine a_draw mixed (by kernel_rfl) ?_; intro C hC) | (with_reducible refine a_cond_k ?_; intro X Y hX hY) | with_reducible refine RetOk.mk ?_); simp (maxSteps := 10000000) (implicitDefEqProofs := false) only [go_sem, c2, hg, bel_len,  ↓reduceIte, reduceCtorEq, Nat.reduceAdd, Nat.reduceSub, Nat.reduceLeDiff, Nat.reduceEqDiff, Nat.reduceMul, Nat.reduceLT, Nat.reducePow, Int.reduceEq, Int.reduceLT, Int.reduceLE, Int.reduceGT, Int.reduceGE, Int.reduceAdd, Int.reduceSub, Int.reduceNeg, Int.reduceToNat])
          | with_reducible refine a_block ?_
          | with_reducible refine a_ret ?_
          | with_reducible refine a_exit ?_
          | with_reducible refine a_skip ?_
          | with_reducible exact ConfOk.mk (by kernel_rfl)
          | (with_reducible refine eqT_of (eq33 _ _ _ _ _ _) ?_; simp)
          | (with_reducible refine eqT_of (eq35 _ _ _ _ _ _ _ _) ?_; simp)
          | ((fail_if_success with_reducible show False); with_reducible apply_assumption (exfalso := false) (symm := false) only [*, rfl, trivial, congrArg])
          | with_reducible refine And.intro ?_ ?_
          | (intro h; contradiction)
          | (intro h; subst h)
          | intro h
          | simp (maxSteps := 10000000) (implicitDefEqProofs := false) only [go_sem, c2, hg, bel_len,  ↓reduceIte, reduceCtorEq, Nat.reduceAdd, Nat.reduceSub, Nat.reduceLeDiff, Nat.reduceEqDiff, Nat.reduceMul, Nat.reduceLT, Nat.reducePow, Int.reduceEq, Int.reduceLT, Int.reduceLE, Int.reduceGT, Int.reduceGE, Int.reduceAdd, Int.reduceSub, Int.reduceNeg, Int.reduceToNat])
      all_goals omega
end Go.Proofs.YtmlaogjndaeihaaGreatDoor
end
