/- Quotients and remainders: the program's facts.divided. Strict operators on values: the program's facts.operate. -/
import Derived.Test.YtoggbjfjmbjegaaGreatDoorFA
set_option linter.unusedSimpArgs false
set_option linter.unusedVariables false
set_option linter.unusedSimpArgs false
set_option linter.unusedVariables false
namespace Go.Proofs.YtoggbjfjmbjegaaGreatDoor
open Go Go.Ab
-- @enc(wideL, Dom.enc, k64)@
attribute [local go_sem ↓] parts_tt parts_ff parts_tf parts_ft reduceIte
attribute [local go_sem] reduceCtorEq Nat.reduceAdd Nat.reduceSub Nat.reduceLeDiff Nat.reduceEqDiff Nat.reduceMul Nat.reduceLT Nat.reducePow Int.reduceEq Int.reduceLT Int.reduceLE Int.reduceGT Int.reduceGE Int.reduceAdd Int.reduceSub Int.reduceNeg Int.reduceToNat parts_eq learnT aops_nil aops_cons aopsD_nil aopsD_cons stepS stepD gval St.learn skipR St.after putτ applyUpd List.foldl_cons List.foldl_nil pureOp memOp callOf litA closeO closeK List.flatMap_cons List.flatMap_nil Option.map_none decide_false opnd ofConst leaf binA unA lenA indexA indexAddrA fieldAddrA fieldA weak_slice weak_nils weak_str weak_view weak_viewF weak_sliceF weak_ptr weak_cptr weak_rptr weak_sl weak_sl0 weak_any sliceFA_slice sliceFA_str sliceFA_view sliceFA_none sliceFA_some sameO sliceA convertA pickV fillA placeS cellsA setA partA loadM storeM appendM srcEls lookBox lookRow lookMap closeL closeV scalarB scalarL killed buildEls lookupA leafEq eqAll resA resL tupA retA thenA blockA isInt loA hiA foldA maxA minA okSize leafB closedB Res.foot List.getD_cons_zero List.getD_cons_succ List.set_cons_zero List.set_cons_succ List.map_cons List.map_nil List.append_nil List.nil_append List.cons_append List.length_cons List.length_nil List.take_succ_cons List.take_zero List.drop_succ_cons List.drop_zero List.take_nil List.drop_nil List.all_cons List.all_nil List.getElem?_toArray List.getElem?_cons_zero List.getElem?_cons_succ Option.bind_some Option.map_some true_and and_true true_implies ne_eq not_true_eq_false not_false_eq_true Bool.true_eq_false Bool.false_eq_true Bool.not_true Bool.not_false decide_eq_true_eq decide_eq_false_iff_not false_implies implies_true and_self ite_true ite_false cond_true cond_false Option.some.injEq List.reverse_cons List.reverse_nil Bool.and_self Bool.true_and Bool.and_true Bool.false_and Bool.and_false Bool.or_true Bool.true_or Bool.or_false Bool.false_or Bool.not_eq_eq_eq_not Bool.not_not Bool.or_self beq_self_eq_true and_false false_and or_true true_or or_false false_or not_true not_false_iff Decidable.not_not lookT lookR tabT tabR Int.toNat_natCast List.length_map List.map_append List.length_append decide_true decide_false tmod2 List.mem_singleton forall_eq elOk1 elOk3 elOk4 castn0 castn1 castn2 castn3 getD_mid getD_mid_map at_lt at_end mid_lt mid_lt' nat_ge List.size_toArray Array.size_empty Nat.add_zero Nat.zero_add
attribute [local irreducible] ASpec ACalls retA ti EqT
set_option linter.unusedSimpArgs false
set_option maxHeartbeats 4000000
set_option maxRecDepth 100000
set_option linter.unusedVariables false
attribute [local go_sem] ti2 ti3 ti4 ti5 ti9 ti21 ti22 ti23 ti24 ti26 ti27 ti28 ti30 ti33 ti34 ti37 ti46 ti52 ti68 ti69 ti73 ti78 ti86 ti89 ti99 ti122 ti123 ti124 ti144 ti173 ti174 ti190 ti191 ti199 ti245 ti247 ti257 ti271 ti288 ti290 ti343
def k64 (n : Int) : List AV := [.int .i64 n]
theorem all2 (a b c d : Int) : (∀ y ∈ [[AV.int .i64 a, AV.int .u64 b], [AV.int .i64 c, AV.int .u64 d]], elOk 2 y = true) = True := by simp [elOk, leafB]
theorem exs_mem {b : Dom} (hb : b.In) {x : Int} (hx : x ∈ byOf b) : x ≠ 0 ∧ In64 x := by
  unfold byOf at hx
  rw [List.mem_filter] at hx
  obtain ⟨h1, h2⟩ := hx
  simp only [exs, Bool.and_eq_true, decide_eq_true_eq] at h2
  obtain ⟨_, ⟨a1, a2⟩, ⟨b1, b2⟩⟩ := hb
  exact ⟨h2.1, by omega, by omega⟩
theorem mC_nn (l : List Int) (h : ∀ x ∈ l, x ≠ 0 ∧ In64 x) : ∀ m : Int, 0 ≤ m ∧ m ≤ 9223372036854775807 → 0 ≤ l.foldl (fun m n => if m < sizeI n then sizeI n else m) m ∧ l.foldl (fun m n => if m < sizeI n then sizeI n else m) m ≤ 9223372036854775807 := by
  induction l with
  | nil => intro m hm; exact hm
  | cons x r ih =>
    intro m hm
    rw [List.foldl_cons]
    refine ih (fun y hy => h y (by simp [hy])) _ ?_
    obtain ⟨h1, h2, h3⟩ := h x (by simp)
    unfold sizeI
    split <;> split <;> omega
@[reducible] def dZ : List AV := [.int .u8 0, .bool false, .bool false, .bool false, .int .i64 0, .int .i64 0]
def divD (op : Int) (d a b : Dom) : Dom := if op = 8 then interL (addFail d (zeroIn b)) (endsOf a b) else if byOf b = [] then addFail d (zeroIn b) else remD (addFail d (zeroIn b)) a (mC (byOf b))
theorem facts_divided (op : Int) (d a b : Dom) (ha : a.In) (hb : b.In) : ACalls Tryz.prog 297 [.int .u8 op, dA d, dA a, dA b] (dA (divD op d a b)) := by
  have hmem : ∀ x ∈ byOf b, x ≠ 0 ∧ In64 x := fun x hx => exs_mem hb hx
  have hmc := mC_nn (byOf b) hmem 0 (by decide)
  obtain ⟨bs, hbs⟩ : ∃ bs : List Int, bs = [b.lo, b.hi, 1, -1] := ⟨_, rfl⟩
  have hby : bs.filter (exs b.lo b.hi) = byOf b := by rw [hbs]; rfl
  have hbl : bs.length = 4 := by rw [hbs]; rfl
  obtain ⟨e, he⟩ : ∃ e : Dom, e = addFail d (zeroIn b) := ⟨_, rfl⟩
  unfold divD
  rw [← he]
  have hL4 : (byOf b).length ≤ 4 := List.length_filter_le (exs b.lo b.hi) [b.lo, b.hi, 1, -1]
  have hE0 : endsOf a b = (byOf b).flatMap (fun n => [Int.tdiv a.lo n, Int.tdiv a.hi n]) := rfl
  rw [hE0]
  clear hE0
  unfold mC at *
  generalize byOf b = L at *
  refine acalls_k Tryz.func297 rfl (by kernel_rfl) (congrArg Array.toList Tryz.results297) Tryz.ntmps297 ?_
  intro R hR
  simp only [st0, List.length_cons, List.length_nil, Nat.reduceAdd, Nat.reduceSub, List.replicate_succ, List.replicate_zero, List.cons_append, List.nil_append]
  refine a_cut (fun st => Has st 125 [(0, .int .u8 op), (5, .ptr 5 0 0), (6, .ptr 6 0 0), (7, .ptr 7 0 0), (8, .ptr 8 0 0)] [(5, .box 0 d.enc), (6, .box 0 a.enc), (7, .box 0 b.enc), (8, .box 0 dZ)]) (fun K hK => ?_) ?_
  · repeat' (first | (with_reducible refine a_seq_k ?_; intro K hK) | (with_reducible first | refine a_block ?_ | refine a_ret ?_ | refine a_exit ?_ | refine a_skip ?_ | exact ConfOk.mk (by kernel_rfl)) | ((fail_if_success with_reducible show False); with_reducible apply_assumption (exfalso := false) (symm := false) only [*, rfl, trivial, congrArg]) | with_reducible refine And.intro ?_ ?_ | (intro h; contradiction) | (intro h; subst h) | intro h | ((try (with_reducible first | refine a_region (by kernel_rfl) ?_ | (refine a_draw mixed (by kernel_rfl) ?_; intro C hC) | (refine a_cond_k ?_; intro X Y hX hY) | refine RetOk.mk ?_)); simp (maxSteps := 10000000) (implicitDefEqProofs := false) only [go_sem, Dom.enc]))
    exact ⟨⟨rfl, rfl, by simp, by simp [Dom.enc]⟩⟩
  rintro st hs
  refine a_has hs fun τ σ γ => ?_
  refine a_cut (fun st => Has st 125 [(0, .int .u8 op), (5, .ptr 5 0 0), (6, .ptr 6 0 0), (7, .ptr 7 0 0), (8, .ptr 8 0 0)] [(5, .box 0 e.enc), (6, .box 0 a.enc), (7, .box 0 b.enc), (8, .box 0 dZ)]) (fun K hK => ?_) ?_
  · repeat' (first | (with_reducible refine a_seq_k ?_; intro K hK) | (with_reducible first | refine a_block ?_ | refine a_ret ?_ | refine a_exit ?_ | refine a_skip ?_ | exact ConfOk.mk (by kernel_rfl)) | ((fail_if_success with_reducible show False); with_reducible apply_assumption (exfalso := false) (symm := false) only [*, rfl, trivial, congrArg]) | with_reducible refine And.intro ?_ ?_ | (intro h; contradiction) | (intro h; subst h) | intro h | ((try (with_reducible first | refine a_region (by kernel_rfl) ?_ | (refine a_draw mixed (by kernel_rfl) ?_; intro C hC) | (refine a_cond_k ?_; intro X Y hX hY) | refine RetOk.mk ?_)); simp (maxSteps := 10000000) (implicitDefEqProofs := false) only [go_sem, Dom.enc]))
    all_goals exact ⟨⟨rfl, rfl, by simp, by simp [Dom.enc, he, zeroIn, *]⟩⟩
  rintro st hs
  refine a_has hs fun τ σ γ => ?_
  repeat' (first | (with_reducible refine a_seq_reg ?_; intro K hK) | (with_reducible first | refine a_block ?_ | refine a_ret ?_ | refine a_exit ?_ | refine a_skip ?_ | exact ConfOk.mk (by kernel_rfl)) | ((fail_if_success with_reducible show False); with_reducible apply_assumption (exfalso := false) (symm := false) only [*, rfl, trivial, congrArg]) | with_reducible refine And.intro ?_ ?_ | (intro h; contradiction) | (intro h; subst h) | intro h | ((try (with_reducible first | refine a_region (by kernel_rfl) ?_ | (refine a_draw mixed (by kernel_rfl) ?_; intro C hC) | (refine a_cond_k ?_; intro X Y hX hY) | refine RetOk.mk ?_)); simp (maxSteps := 10000000) (implicitDefEqProofs := false) only [go_sem, Dom.enc]))
  refine a_cut (fun st => (L = [] ∧ Has st 125 [(0, .int .u8 op), (5, .ptr 5 0 0), (6, .ptr 6 0 0), (8, .ptr 8 0 0), (9, .nils)] [(5, .box 0 e.enc), (6, .box 0 a.enc), (8, .box 0 dZ)]) ∨
    (L ≠ [] ∧ ∃ g, Has st 125 [(0, .int .u8 op), (5, .ptr 5 0 0), (6, .ptr 6 0 0), (8, .ptr 8 0 0), (9, .view 58 g)] [(5, .box 0 e.enc), (6, .box 0 a.enc), (8, .box 0 dZ), (58, .row g 1 (L.map k64))])) (fun K hK => ?_) ?_
  · repeat' (first | (with_reducible refine a_seq_reg ?_; intro K hK) | (with_reducible first | refine a_block ?_ | refine a_ret ?_ | refine a_exit ?_ | refine a_skip ?_ | exact ConfOk.mk (by kernel_rfl)) | ((fail_if_success with_reducible show False); with_reducible apply_assumption (exfalso := false) (symm := false) only [*, rfl, trivial, congrArg]) | with_reducible refine And.intro ?_ ?_ | (intro h; contradiction) | (intro h; subst h) | intro h | ((try (with_reducible first | refine a_region (by kernel_rfl) ?_ | (refine a_draw mixed (by kernel_rfl) ?_; intro C hC) | (refine a_cond_k ?_; intro X Y hX hY) | refine RetOk.mk ?_)); simp (maxSteps := 10000000) (implicitDefEqProofs := false) only [go_sem, Dom.enc]))
    refine a_loop_k (fun n st => ∃ (g1 : Nat) (pre rest : List Int), bs = pre ++ rest ∧ n = rest.length ∧
        ((pre.filter (exs b.lo b.hi) = [] ∧ Has st 125 [(0, .int .u8 op), (5, .ptr 5 0 0), (6, .ptr 6 0 0), (7, .ptr 7 0 0), (8, .ptr 8 0 0), (9, .nils), (35, .view 35 g1), (36, .int .i64 bs.length), (37, .int .i64 pre.length)] [(5, .box 0 e.enc), (6, .box 0 a.enc), (7, .box 0 b.enc), (8, .box 0 dZ), (35, .row g1 1 (bs.map k64))]) ∨
         (pre.filter (exs b.lo b.hi) ≠ [] ∧ ∃ g, Has st 125 [(0, .int .u8 op), (5, .ptr 5 0 0), (6, .ptr 6 0 0), (7, .ptr 7 0 0), (8, .ptr 8 0 0), (9, .view 58 g), (35, .view 35 g1), (36, .int .i64 bs.length), (37, .int .i64 pre.length)] [(5, .box 0 e.enc), (6, .box 0 a.enc), (7, .box 0 b.enc), (8, .box 0 dZ), (35, .row g1 1 (bs.map k64)), (58, .row g 1 ((pre.filter (exs b.lo b.hi)).map k64))])))
      bs.length ⟨γ + 1, [], bs, rfl, rfl, .inl ⟨rfl, ⟨rfl, rfl, by simp [hbl], by simp [Dom.enc, hbs, k64]⟩⟩⟩ ?_
    rintro n st ⟨g1, pre, rest, he0, rfl, hst⟩ K2 hK2
    have hw := wrap_nat pre.length (by have := congrArg List.length he0; simp at this; omega)
    have hlen : (pre.filter (exs b.lo b.hi)).length ≤ 4 := by have := List.length_filter_le (exs b.lo b.hi) pre; have h2 := congrArg List.length he0; simp at h2; omega
    rcases hst with ⟨hp, hs⟩ | ⟨hp, g, hs⟩
    · rcases rest with _ | ⟨x, rest⟩
      · rw [List.append_nil] at he0
        subst he0
        refine a_has hs fun τ σ γ => ?_
        repeat' (first | (with_reducible refine a_seq_k ?_; intro K hK) | (with_reducible first | refine a_block ?_ | refine a_ret ?_ | refine a_exit ?_ | refine a_skip ?_ | exact ConfOk.mk (by kernel_rfl)) | ((fail_if_success with_reducible show False); with_reducible apply_assumption (exfalso := false) (symm := false) only [*, rfl, trivial, congrArg]) | with_reducible refine And.intro ?_ ?_ | (intro h; contradiction) | (intro h; subst h) | intro h | ((try (with_reducible first | refine a_region (by kernel_rfl) ?_ | (refine a_draw mixed (by kernel_rfl) ?_; intro C hC) | (refine a_cond_k ?_; intro X Y hX hY) | refine RetOk.mk ?_)); simp (maxSteps := 10000000) (implicitDefEqProofs := false) only [go_sem, k64, hw, List.length_map]))
        exact ⟨.inl ⟨by rw [← hby, hp], ⟨rfl, rfl, by simp, by simp⟩⟩⟩
      · subst he0
        refine a_has hs fun τ σ γ => ?_
        repeat' (first | (with_reducible refine a_seq_k ?_; intro K hK) | (with_reducible first | refine a_block ?_ | refine a_ret ?_ | refine a_exit ?_ | refine a_skip ?_ | exact ConfOk.mk (by kernel_rfl)) | ((fail_if_success with_reducible show False); with_reducible apply_assumption (exfalso := false) (symm := false) only [*, rfl, trivial, congrArg]) | with_reducible refine And.intro ?_ ?_ | (intro h; contradiction) | (intro h; subst h) | intro h | ((try (with_reducible first | refine a_region (by kernel_rfl) ?_ | (refine a_draw mixed (by kernel_rfl) ?_; intro C hC) | (refine a_cond_k ?_; intro X Y hX hY) | refine RetOk.mk ?_)); simp (maxSteps := 10000000) (implicitDefEqProofs := false) only [go_sem, k64, hw, Dom.enc, List.length_map, List.map_append]))
        · exact ⟨⟨rest.length, by simp, g1, pre ++ [x], rest, by simp, rfl, .inr ⟨by simp [List.filter_append, hp, exs, *], γ + 1 + 1 + 1, ⟨rfl, rfl, by simp, by simp [k64, List.filter_append, hp, exs, *]⟩⟩⟩⟩
        · exact ⟨⟨rest.length, by simp, g1, pre ++ [x], rest, by simp, rfl, .inl ⟨by simp [List.filter_append, hp, exs, *], ⟨rfl, rfl, by simp, by simp [k64]⟩⟩⟩⟩
        · exact ⟨⟨rest.length, by simp, g1, pre ++ [x], rest, by simp, rfl, .inl ⟨by simp [List.filter_append, hp, exs, *], ⟨rfl, rfl, by simp, by simp [k64]⟩⟩⟩⟩
        · exact ⟨⟨rest.length, by simp, g1, pre ++ [0], rest, by simp, rfl, .inl ⟨by simp [List.filter_append, hp, exs], ⟨rfl, rfl, by simp, by simp [k64]⟩⟩⟩⟩
    · rcases rest with _ | ⟨x, rest⟩
      · rw [List.append_nil] at he0
        subst he0
        refine a_has hs fun τ σ γ => ?_
        repeat' (first | (with_reducible refine a_seq_k ?_; intro K hK) | (with_reducible first | refine a_block ?_ | refine a_ret ?_ | refine a_exit ?_ | refine a_skip ?_ | exact ConfOk.mk (by kernel_rfl)) | ((fail_if_success with_reducible show False); with_reducible apply_assumption (exfalso := false) (symm := false) only [*, rfl, trivial, congrArg]) | with_reducible refine And.intro ?_ ?_ | (intro h; contradiction) | (intro h; subst h) | intro h | ((try (with_reducible first | refine a_region (by kernel_rfl) ?_ | (refine a_draw mixed (by kernel_rfl) ?_; intro C hC) | (refine a_cond_k ?_; intro X Y hX hY) | refine RetOk.mk ?_)); simp (maxSteps := 10000000) (implicitDefEqProofs := false) only [go_sem, k64, hw, List.length_map]))
        exact ⟨.inr ⟨by rw [← hby]; exact hp, g, ⟨rfl, rfl, by simp, by simp [← hby]⟩⟩⟩
      · subst he0
        refine a_has hs fun τ σ γ => ?_
        repeat' (first | (with_reducible refine a_seq_k ?_; intro K hK) | (with_reducible first | refine a_block ?_ | refine a_ret ?_ | refine a_exit ?_ | refine a_skip ?_ | exact ConfOk.mk (by kernel_rfl)) | ((fail_if_success with_reducible show False); with_reducible apply_assumption (exfalso := false) (symm := false) only [*, rfl, trivial, congrArg]) | with_reducible refine And.intro ?_ ?_ | (intro h; contradiction) | (intro h; subst h) | intro h | ((try (with_reducible first | refine a_region (by kernel_rfl) ?_ | (refine a_draw mixed (by kernel_rfl) ?_; intro C hC) | (refine a_cond_k ?_; intro X Y hX hY) | refine RetOk.mk ?_)); simp (maxSteps := 10000000) (implicitDefEqProofs := false) only [go_sem, k64, hw, Dom.enc, List.length_map, List.map_append]))
        · omega
        · omega
        · exact ⟨⟨rest.length, by simp, g1, pre ++ [x], rest, by simp, rfl, .inr ⟨by simp [List.filter_append, hp], γ + 1 + 1 + 1, ⟨rfl, rfl, by simp, by simp [k64, List.filter_append, exs, *]⟩⟩⟩⟩
        · exact ⟨⟨rest.length, by simp, g1, pre ++ [x], rest, by simp, rfl, .inr ⟨by simp [List.filter_append, hp], g, ⟨rfl, rfl, by simp, by simp [k64, List.filter_append, exs, *]⟩⟩⟩⟩
        · exact ⟨⟨rest.length, by simp, g1, pre ++ [x], rest, by simp, rfl, .inr ⟨by simp [List.filter_append, hp], g, ⟨rfl, rfl, by simp, by simp [k64, List.filter_append, exs, *]⟩⟩⟩⟩
        · exact ⟨⟨rest.length, by simp, g1, pre ++ [0], rest, by simp, rfl, .inr ⟨by simp [List.filter_append, hp], g, ⟨rfl, rfl, by simp, by simp [k64, List.filter_append, exs, *]⟩⟩⟩⟩
  · clear hbs hby hbl
    rintro st (⟨hb0, hs⟩ | ⟨hb0, g, hs⟩)
    · refine a_has hs fun τ σ γ => ?_
      have hE : (L.flatMap fun n => [Int.tdiv a.lo n, Int.tdiv a.hi n]) = [] := by simp [hb0]
      have e1 : (if op = 8 then interL e ((L.flatMap fun n => [Int.tdiv a.lo n, Int.tdiv a.hi n])) else if L = [] then e else remD e a (L.foldl (fun m n => if m < sizeI n then sizeI n else m) 0)) = e := by
        rw [hE, hb0]; simp [interL]
      repeat' (first | (with_reducible refine a_seq_k ?_; intro K hK) | (with_reducible first | refine a_block ?_ | refine a_ret ?_ | refine a_exit ?_ | refine a_skip ?_ | exact ConfOk.mk (by kernel_rfl)) | ((fail_if_success with_reducible show False); with_reducible apply_assumption (exfalso := false) (symm := false) only [*, rfl, trivial, congrArg]) | with_reducible refine And.intro ?_ ?_ | (intro h; contradiction) | (intro h; subst h) | intro h | ((try (with_reducible first | refine a_region (by kernel_rfl) ?_ | (refine a_draw mixed (by kernel_rfl) ?_; intro C hC) | (refine a_cond_k ?_; intro X Y hX hY) | refine RetOk.mk ?_)); simp (maxSteps := 10000000) (implicitDefEqProofs := false) only [go_sem, Dom.enc, e1, nilB]))
    · obtain ⟨v, vs, hv⟩ : ∃ v vs, L = v :: vs := by
        cases hq : L with
        | nil => exact absurd hq hb0
        | cons v vs => exact ⟨v, vs, rfl⟩
      have hlen : L.length ≤ 4 := hL4
      refine a_has hs fun τ σ γ => ?_
      simp (maxSteps := 10000000) (implicitDefEqProofs := false) only [go_sem]
      refine a_freeze [9] (k := 58) (g := g) (es := 1) (els := L.map k64) (by simp) (by simp [lookRow]) ?_
      simp only [putAll, List.set_cons_zero, List.set_cons_succ, applyUpd, List.foldl_cons, List.foldl_nil]
      have hnil : nilB (.slice (L.map k64)) = some false := by rw [hv]; rfl
      by_cases h8 : op = 8
      · have hI : ACalls Tryz.prog 293 [dA e, .slice (((L.flatMap fun n => [Int.tdiv a.lo n, Int.tdiv a.hi n])).map wideL)] (dA (interL e ((L.flatMap fun n => [Int.tdiv a.lo n, Int.tdiv a.hi n])))) := by
          have hE : (L.flatMap fun n => [Int.tdiv a.lo n, Int.tdiv a.hi n]) = Int.tdiv a.lo v :: (Int.tdiv a.hi v :: vs.flatMap fun n => [Int.tdiv a.lo n, Int.tdiv a.hi n]) := by
            rw [hv]; rfl
          have hL : ((L.flatMap fun n => [Int.tdiv a.lo n, Int.tdiv a.hi n])).length ≤ 8 := by
            have : ∀ l : List Int, (l.flatMap fun n => [Int.tdiv a.lo n, Int.tdiv a.hi n]).length = 2 * l.length := by
              intro l; induction l with
              | nil => rfl
              | cons x r ih => simp only [List.flatMap_cons, List.length_append, ih, List.length_cons, List.length_nil]; omega
            rw [this]; omega
          rw [hE] at hL ⊢
          exact facts_interval e _ _ (by simp at hL ⊢; omega)
        have hq : ∀ n ∈ L, ACalls Tryz.prog 342 [.int .i64 a.lo, .int .i64 n] (wideA (Int.tdiv a.lo n)) ∧ ACalls Tryz.prog 342 [.int .i64 a.hi, .int .i64 n] (wideA (Int.tdiv a.hi n)) :=
          fun n hn => ⟨facts_quotient _ _ ha.2.1 (hmem n hn).2 (hmem n hn).1, facts_quotient _ _ ha.2.2 (hmem n hn).2 (hmem n hn).1⟩
        simp only [dA, Dom.enc, wideA, wideL] at hI hq
        subst h8
        repeat' (first | (with_reducible refine a_seq_k ?_; intro K hK) | (with_reducible first | refine a_block ?_ | refine a_ret ?_ | refine a_exit ?_ | refine a_skip ?_ | exact ConfOk.mk (by kernel_rfl)) | ((fail_if_success with_reducible show False); with_reducible apply_assumption (exfalso := false) (symm := false) only [*, rfl, trivial, congrArg]) | with_reducible refine And.intro ?_ ?_ | (intro h; contradiction) | (intro h; subst h) | intro h | ((try (with_reducible first | refine a_region (by kernel_rfl) ?_ | (refine a_draw mixed (by kernel_rfl) ?_; intro C hC) | (refine a_cond_k ?_; intro X Y hX hY) | refine RetOk.mk ?_)); simp (maxSteps := 10000000) (implicitDefEqProofs := false) only [go_sem, Dom.enc, hnil]))
        refine a_nilrow [12] 81 2 (by simp) ?_
        simp only [putAll, List.set_cons_zero, List.set_cons_succ]
        refine a_loop_k (fun n st => ∃ (g : Nat) (pre rest : List _) (o : List Int), L = pre ++ rest ∧ n = rest.length ∧ (o = pre.flatMap (fun n => [Int.tdiv a.lo n, Int.tdiv a.hi n]) ∧ o.length = 2 * pre.length) ∧ Has st 125 [(5, .ptr 5 0 0), (6, .ptr 6 0 0), (8, .ptr 8 0 0), (12, .view 81 g), (65, .slice (L.map k64)), (66, .int .i64 L.length), (67, .int .i64 pre.length)] [(5, .box 0 e.enc), (6, .box 0 a.enc), (8, .box 0 dZ), (81, .row g 2 (o.map wideL))]) (L).length ⟨γ + 1 + 1 + 1 + 1, [], L, [], rfl, rfl, ⟨rfl, by simp⟩, ⟨rfl, rfl, by simp [wideL, Dom.enc, k64], by simp [wideL, Dom.enc, k64]⟩⟩ ?_
        rintro n st ⟨g, pre, rest, o, he, rfl, hp, hs⟩ K hK
        have hw := wrap_nat pre.length (by have := congrArg List.length he; simp at this; omega)
        subst he
        refine a_has hs fun τ σ γ => ?_
        rcases rest with _ | ⟨x, rest⟩
        · obtain ⟨rfl, hol⟩ := hp
          simp only [List.append_nil] at hI
          have e8 : (if (8 : Int) = 8 then interL e (pre.flatMap fun n => [Int.tdiv a.lo n, Int.tdiv a.hi n]) else if pre = [] then e else remD e a (pre.foldl (fun m n => if m < sizeI n then sizeI n else m) 0)) = interL e (pre.flatMap fun n => [Int.tdiv a.lo n, Int.tdiv a.hi n]) := if_pos rfl
          repeat' (first | (with_reducible refine a_seq_k ?_; intro K hK) | (with_reducible first | refine a_block ?_ | refine a_ret ?_ | refine a_exit ?_ | refine a_skip ?_ | exact ConfOk.mk (by kernel_rfl)) | ((fail_if_success with_reducible show False); with_reducible apply_assumption (exfalso := false) (symm := false) only [*, rfl, trivial, congrArg]) | with_reducible refine And.intro ?_ ?_ | (intro h; contradiction) | (intro h; subst h) | intro h | ((try (with_reducible first | refine a_region (by kernel_rfl) ?_ | (refine a_draw mixed (by kernel_rfl) ?_; intro C hC) | (refine a_cond_k ?_; intro X Y hX hY) | refine RetOk.mk ?_ | refine CallS.intro (hI) ?_ | refine CallD.intro (hI) ?_)); simp (maxSteps := 10000000) (implicitDefEqProofs := false) only [go_sem, Dom.enc, hw, e8, List.append_nil]))
        · obtain ⟨q1, q2⟩ := hq x (by simp)
          have hl4 : pre.length ≤ 3 := by simp at hL4; omega
          repeat' (first | (with_reducible refine a_seq_k ?_; intro K hK) | (with_reducible first | refine a_block ?_ | refine a_ret ?_ | refine a_exit ?_ | refine a_skip ?_ | exact ConfOk.mk (by kernel_rfl)) | ((fail_if_success with_reducible show False); with_reducible apply_assumption (exfalso := false) (symm := false) only [*, rfl, trivial, congrArg]) | with_reducible refine And.intro ?_ ?_ | (intro h; contradiction) | (intro h; subst h) | intro h | ((try (with_reducible first | refine a_region (by kernel_rfl) ?_ | (refine a_draw mixed (by kernel_rfl) ?_; intro C hC) | (refine a_cond_k ?_; intro X Y hX hY) | refine RetOk.mk ?_ | refine CallS.intro (q1) ?_ | refine CallD.intro (q1) ?_ | refine CallS.intro (q2) ?_ | refine CallD.intro (q2) ?_)); simp (maxSteps := 10000000) (implicitDefEqProofs := false) only [go_sem, Dom.enc, hw, k64, all2]))
          · omega
          · omega
          · exact ⟨⟨rest.length, by simp, γ + 1 + 1, pre ++ [x], rest, o ++ [Int.tdiv a.lo x, Int.tdiv a.hi x], by simp, rfl, ⟨by rw [hp.1]; simp, by simp [hp.2]; omega⟩, ⟨rfl, rfl, by simp [wideL, Dom.enc, k64], by simp [wideL, Dom.enc, k64]⟩⟩⟩
      · have hne : ¬ (L = []) := hb0
        have hrem : ∀ n ∈ L, (n < 0 → IntKind.wrap .i64 (n + 1) = n + 1 ∧ IntKind.wrap .i64 (0 - (n + 1)) = -(n + 1)) ∧ (¬ n < 0 → IntKind.wrap .i64 (n - 1) = n - 1) := by
          intro n hn
          obtain ⟨h1, h2, h3⟩ := hmem n hn
          exact ⟨fun h => ⟨wrapI _ (by omega), by rw [wrapI _ (by omega)]; omega⟩, fun h => wrapI _ (by omega)⟩
        repeat' (first | (with_reducible refine a_seq_k ?_; intro K hK) | (with_reducible first | refine a_block ?_ | refine a_ret ?_ | refine a_exit ?_ | refine a_skip ?_ | exact ConfOk.mk (by kernel_rfl)) | ((fail_if_success with_reducible show False); with_reducible apply_assumption (exfalso := false) (symm := false) only [*, rfl, trivial, congrArg]) | with_reducible refine And.intro ?_ ?_ | (intro h; contradiction) | (intro h; subst h) | intro h | ((try (with_reducible first | refine a_region (by kernel_rfl) ?_ | (refine a_draw mixed (by kernel_rfl) ?_; intro C hC) | (refine a_cond_k ?_; intro X Y hX hY) | refine RetOk.mk ?_)); simp (maxSteps := 10000000) (implicitDefEqProofs := false) only [go_sem, Dom.enc, hnil, h8]))
        refine a_loop_k (fun n st => ∃ (g : Nat) (pre rest : List _) (m : Int), L = pre ++ rest ∧ n = rest.length ∧ (rest.foldl (fun m n => if m < sizeI n then sizeI n else m) m = L.foldl (fun m n => if m < sizeI n then sizeI n else m) 0 ∧ 0 ≤ m ∧ m ≤ 9223372036854775807) ∧ Has st 125 [(5, .ptr 5 0 0), (6, .ptr 6 0 0), (8, .ptr 8 0 0), (15, .int .i64 m), (86, .slice (L.map k64)), (87, .int .i64 L.length), (88, .int .i64 pre.length)] [(5, .box 0 e.enc), (6, .box 0 a.enc), (8, .box 0 dZ)]) (L).length ⟨0, [], L, 0, rfl, rfl, ⟨rfl, by decide, by decide⟩, ⟨rfl, rfl, by simp [wideL, Dom.enc, k64], by simp [wideL, Dom.enc, k64]⟩⟩ ?_
        rintro n st ⟨g, pre, rest, m, he, rfl, hp, hs⟩ K hK
        have hw := wrap_nat pre.length (by have := congrArg List.length he; simp at this; omega)
        subst he
        refine a_has hs fun τ σ γ => ?_
        rcases rest with _ | ⟨x, rest⟩
        · obtain ⟨hp1, hp2, hp3⟩ := hp
          simp only [List.foldl_nil, List.append_nil] at hp1 hne
          have hwm := wrapI (0 - m) (by omega)
          have e8 : (if op = 8 then interL e (pre.flatMap fun n => [Int.tdiv a.lo n, Int.tdiv a.hi n]) else if pre = [] then e else remD e a (pre.foldl (fun m n => if m < sizeI n then sizeI n else m) 0)) = remD e a m := by rw [if_neg h8, if_neg hne, ← hp1]
          repeat' (first | (with_reducible refine a_seq_k ?_; intro K hK) | (with_reducible first | refine a_block ?_ | refine a_ret ?_ | refine a_exit ?_ | refine a_skip ?_ | exact ConfOk.mk (by kernel_rfl)) | ((fail_if_success with_reducible show False); with_reducible apply_assumption (exfalso := false) (symm := false) only [*, rfl, trivial, congrArg]) | with_reducible refine And.intro ?_ ?_ | (intro h; contradiction) | (intro h; subst h) | intro h | ((try (with_reducible first | refine a_region (by kernel_rfl) ?_ | (refine a_draw mixed (by kernel_rfl) ?_; intro C hC) | (refine a_cond_k ?_; intro X Y hX hY) | refine RetOk.mk ?_)); simp (maxSteps := 10000000) (implicitDefEqProofs := false) only [go_sem, Dom.enc, hw, e8, hwm, List.append_nil]))
          all_goals simp [remD, *]
        · obtain ⟨hp1, hp2, hp3⟩ := hp
          obtain ⟨r1, r2⟩ := hrem x (by simp)
          obtain ⟨x0, x1, x2⟩ := hmem x (by simp)
          have hsz := sizeI_nn x0
          rw [List.foldl_cons] at hp1
          by_cases hx : x < 0
          · obtain ⟨r3, r4⟩ := r1 hx
            have es : sizeI x = -(x + 1) := if_pos hx
            rw [es] at hp1 hsz
            repeat' (first | (with_reducible refine a_seq_k ?_; intro K hK) | (with_reducible first | refine a_block ?_ | refine a_ret ?_ | refine a_exit ?_ | refine a_skip ?_ | exact ConfOk.mk (by kernel_rfl)) | ((fail_if_success with_reducible show False); with_reducible apply_assumption (exfalso := false) (symm := false) only [*, rfl, trivial, congrArg]) | with_reducible refine And.intro ?_ ?_ | (intro h; contradiction) | (intro h; subst h) | intro h | ((try (with_reducible first | refine a_region (by kernel_rfl) ?_ | (refine a_draw mixed (by kernel_rfl) ?_; intro C hC) | (refine a_cond_k ?_; intro X Y hX hY) | refine RetOk.mk ?_)); simp (maxSteps := 10000000) (implicitDefEqProofs := false) only [go_sem, Dom.enc, hw, k64, r3, r4, hx]))
            exact ⟨⟨rest.length, by simp, 0, pre ++ [x], rest, if m < -(x + 1) then -(x + 1) else m, by simp, rfl, ⟨hp1, by split <;> omega, by split <;> omega⟩, ⟨rfl, rfl, by simp [wideL, Dom.enc, k64], by simp [wideL, Dom.enc, k64]⟩⟩⟩
          · have r3 := r2 hx
            have es : sizeI x = x - 1 := if_neg hx
            rw [es] at hp1 hsz
            repeat' (first | (with_reducible refine a_seq_k ?_; intro K hK) | (with_reducible first | refine a_block ?_ | refine a_ret ?_ | refine a_exit ?_ | refine a_skip ?_ | exact ConfOk.mk (by kernel_rfl)) | ((fail_if_success with_reducible show False); with_reducible apply_assumption (exfalso := false) (symm := false) only [*, rfl, trivial, congrArg]) | with_reducible refine And.intro ?_ ?_ | (intro h; contradiction) | (intro h; subst h) | intro h | ((try (with_reducible first | refine a_region (by kernel_rfl) ?_ | (refine a_draw mixed (by kernel_rfl) ?_; intro C hC) | (refine a_cond_k ?_; intro X Y hX hY) | refine RetOk.mk ?_)); simp (maxSteps := 10000000) (implicitDefEqProofs := false) only [go_sem, Dom.enc, hw, k64, r3, hx]))
            exact ⟨⟨rest.length, by simp, 0, pre ++ [x], rest, if m < x - 1 then x - 1 else m, by simp, rfl, ⟨hp1, by split <;> omega, by split <;> omega⟩, ⟨rfl, rfl, by simp [wideL, Dom.enc, k64], by simp [wideL, Dom.enc, k64]⟩⟩⟩
-- @enc(wideL, Dom.enc, k64)@
theorem wr0 : IntKind.wrap .i64 0 = 0 := rfl
theorem wr1 : IntKind.wrap .i64 1 = 1 := rfl
theorem Mid_of {n : Int} (h : In64 n) : Mid n := ⟨by have := h.1; omega, by have := h.2; omega⟩
theorem Mid_neg {n : Int} (h : In64 n) : Mid (-n) := ⟨by have := h.2; omega, by have := h.1; omega⟩
theorem plus_neg (a b : Int) (ha : In64 a) (hb : In64 b) : ACalls Tryz.prog 295 [wideA a, wideA (-b)] (wideA (a - b)) := by
  rw [Int.sub_eq_add_neg]; exact facts_plus a (-b) (Mid_of ha) (Mid_neg hb)
theorem minus_zero (a : Int) (ha : In64 a) : ACalls Tryz.prog 294 [wideA a] (wideA (0 - a)) := by
  rw [Int.zero_sub]; exact facts_minus a (Mid_of ha)
theorem facts_operate1 (op : Int) (d a : Dom) (ha : a.In) : ACalls Tryz.prog 248 [.int .u8 op, dA d, .slice [a.enc]] (dA (operD op d a a (sameC a a) (mC (byOf a)) false)) := by
  by_cases o4 : op = 4
  · subst o4
    rw [show operD 4 d a a (sameC a a) (mC (byOf a)) false = interD d (0 - a.lo) [0 - a.hi] from rfl]
    have w1 := facts_widen a.lo ha.2.1
    have w2 := facts_widen a.hi ha.2.2
    have m1 := minus_zero a.lo ha.2.1
    have m2 := minus_zero a.hi ha.2.2
    have i1 := facts_interval d (0 - a.lo) [0 - a.hi] (by simp)
    simp only [dA, Dom.enc, wideA, wideL, wides, List.map_cons, List.map_nil] at w1 w2 m1 m2 i1
    refine acalls_k Tryz.func248 rfl (by kernel_rfl) (congrArg Array.toList Tryz.results248) Tryz.ntmps248 ?_
    intro R hR
    simp only [st0, List.length_cons, List.length_nil, Nat.reduceAdd, Nat.reduceSub, List.replicate_succ, List.replicate_zero, List.cons_append, List.nil_append]
    repeat' (first | (with_reducible refine a_seq_k ?_; intro K hK) | (with_reducible first | refine a_block ?_ | refine a_ret ?_ | refine a_exit ?_ | refine a_skip ?_ | exact ConfOk.mk (by kernel_rfl)) | ((fail_if_success with_reducible show False); with_reducible apply_assumption (exfalso := false) (symm := false) only [*, rfl, trivial, congrArg]) | with_reducible refine And.intro ?_ ?_ | (intro h; contradiction) | (intro h; subst h) | intro h | ((try (with_reducible first | refine a_region (by kernel_rfl) ?_ | (refine a_draw mixed (by kernel_rfl) ?_; intro C hC) | (refine a_cond_k ?_; intro X Y hX hY) | refine RetOk.mk ?_ | refine CallS.intro (w1) ?_ | refine CallD.intro (w1) ?_ | refine CallS.intro (w2) ?_ | refine CallD.intro (w2) ?_ | refine CallS.intro (m1) ?_ | refine CallD.intro (m1) ?_ | refine CallS.intro (m2) ?_ | refine CallD.intro (m2) ?_ | refine CallS.intro (i1) ?_ | refine CallD.intro (i1) ?_)); simp (maxSteps := 10000000) (implicitDefEqProofs := false) only [go_sem, Dom.enc, wr0, wr1, Int.toNat_zero, Int.toNat_one]))
  by_cases o5 : op = 5
  · subst o5
    rw [show operD 5 d a a (sameC a a) (mC (byOf a)) false = interD d (a.lo + a.lo) [a.hi + a.hi] from rfl]
    have w1 := facts_widen a.lo ha.2.1
    have w2 := facts_widen a.hi ha.2.2
    have m1 := facts_plus a.lo a.lo (Mid_of ha.2.1) (Mid_of ha.2.1)
    have m2 := facts_plus a.hi a.hi (Mid_of ha.2.2) (Mid_of ha.2.2)
    have i1 := facts_interval d (a.lo + a.lo) [a.hi + a.hi] (by simp)
    simp only [dA, Dom.enc, wideA, wideL, wides, List.map_cons, List.map_nil] at w1 w2 m1 m2 i1
    refine acalls_k Tryz.func248 rfl (by kernel_rfl) (congrArg Array.toList Tryz.results248) Tryz.ntmps248 ?_
    intro R hR
    simp only [st0, List.length_cons, List.length_nil, Nat.reduceAdd, Nat.reduceSub, List.replicate_succ, List.replicate_zero, List.cons_append, List.nil_append]
    repeat' (first | (with_reducible refine a_seq_k ?_; intro K hK) | (with_reducible first | refine a_block ?_ | refine a_ret ?_ | refine a_exit ?_ | refine a_skip ?_ | exact ConfOk.mk (by kernel_rfl)) | ((fail_if_success with_reducible show False); with_reducible apply_assumption (exfalso := false) (symm := false) only [*, rfl, trivial, congrArg]) | with_reducible refine And.intro ?_ ?_ | (intro h; contradiction) | (intro h; subst h) | intro h | ((try (with_reducible first | refine a_region (by kernel_rfl) ?_ | (refine a_draw mixed (by kernel_rfl) ?_; intro C hC) | (refine a_cond_k ?_; intro X Y hX hY) | refine RetOk.mk ?_ | refine CallS.intro (w1) ?_ | refine CallD.intro (w1) ?_ | refine CallS.intro (w2) ?_ | refine CallD.intro (w2) ?_ | refine CallS.intro (m1) ?_ | refine CallD.intro (m1) ?_ | refine CallS.intro (m2) ?_ | refine CallD.intro (m2) ?_ | refine CallS.intro (i1) ?_ | refine CallD.intro (i1) ?_)); simp (maxSteps := 10000000) (implicitDefEqProofs := false) only [go_sem, Dom.enc, wr0, wr1, Int.toNat_zero, Int.toNat_one]))
  by_cases o6 : op = 6
  · subst o6
    rw [show operD 6 d a a (sameC a a) (mC (byOf a)) false = interD d (a.lo - a.hi) [a.hi - a.lo] from rfl]
    have w1 := facts_widen a.lo ha.2.1
    have w2 := facts_widen a.hi ha.2.2
    have n1 := facts_minus a.lo (Mid_of ha.2.1)
    have n2 := facts_minus a.hi (Mid_of ha.2.2)
    have m1 := plus_neg a.lo a.hi ha.2.1 ha.2.2
    have m2 := plus_neg a.hi a.lo ha.2.2 ha.2.1
    have i1 := facts_interval d (a.lo - a.hi) [a.hi - a.lo] (by simp)
    simp only [dA, Dom.enc, wideA, wideL, wides, List.map_cons, List.map_nil] at w1 w2 n1 n2 m1 m2 i1
    refine acalls_k Tryz.func248 rfl (by kernel_rfl) (congrArg Array.toList Tryz.results248) Tryz.ntmps248 ?_
    intro R hR
    simp only [st0, List.length_cons, List.length_nil, Nat.reduceAdd, Nat.reduceSub, List.replicate_succ, List.replicate_zero, List.cons_append, List.nil_append]
    repeat' (first | (with_reducible refine a_seq_k ?_; intro K hK) | (with_reducible first | refine a_block ?_ | refine a_ret ?_ | refine a_exit ?_ | refine a_skip ?_ | exact ConfOk.mk (by kernel_rfl)) | ((fail_if_success with_reducible show False); with_reducible apply_assumption (exfalso := false) (symm := false) only [*, rfl, trivial, congrArg]) | with_reducible refine And.intro ?_ ?_ | (intro h; contradiction) | (intro h; subst h) | intro h | ((try (with_reducible first | refine a_region (by kernel_rfl) ?_ | (refine a_draw mixed (by kernel_rfl) ?_; intro C hC) | (refine a_cond_k ?_; intro X Y hX hY) | refine RetOk.mk ?_ | refine CallS.intro (w1) ?_ | refine CallD.intro (w1) ?_ | refine CallS.intro (w2) ?_ | refine CallD.intro (w2) ?_ | refine CallS.intro (n1) ?_ | refine CallD.intro (n1) ?_ | refine CallS.intro (n2) ?_ | refine CallD.intro (n2) ?_ | refine CallS.intro (m1) ?_ | refine CallD.intro (m1) ?_ | refine CallS.intro (m2) ?_ | refine CallD.intro (m2) ?_ | refine CallS.intro (i1) ?_ | refine CallD.intro (i1) ?_)); simp (maxSteps := 10000000) (implicitDefEqProofs := false) only [go_sem, Dom.enc, wr0, wr1, Int.toNat_zero, Int.toNat_one]))
  by_cases o7 : op = 7
  · subst o7
    rw [show operD 7 d a a (sameC a a) (mC (byOf a)) false = interD d (a.lo * a.lo) [a.lo * a.hi, a.hi * a.lo, a.hi * a.hi] from rfl]
    have p1 := facts_product a.lo a.lo ha.2.1 ha.2.1
    have p2 := facts_product a.lo a.hi ha.2.1 ha.2.2
    have p3 := facts_product a.hi a.lo ha.2.2 ha.2.1
    have p4 := facts_product a.hi a.hi ha.2.2 ha.2.2
    have i1 := facts_interval d (a.lo * a.lo) [a.lo * a.hi, a.hi * a.lo, a.hi * a.hi] (by simp)
    simp only [dA, Dom.enc, wideA, wideL, wides, List.map_cons, List.map_nil] at p1 p2 p3 p4 i1
    refine acalls_k Tryz.func248 rfl (by kernel_rfl) (congrArg Array.toList Tryz.results248) Tryz.ntmps248 ?_
    intro R hR
    simp only [st0, List.length_cons, List.length_nil, Nat.reduceAdd, Nat.reduceSub, List.replicate_succ, List.replicate_zero, List.cons_append, List.nil_append]
    repeat' (first | (with_reducible refine a_seq_k ?_; intro K hK) | (with_reducible first | refine a_block ?_ | refine a_ret ?_ | refine a_exit ?_ | refine a_skip ?_ | exact ConfOk.mk (by kernel_rfl)) | ((fail_if_success with_reducible show False); with_reducible apply_assumption (exfalso := false) (symm := false) only [*, rfl, trivial, congrArg]) | with_reducible refine And.intro ?_ ?_ | (intro h; contradiction) | (intro h; subst h) | intro h | ((try (with_reducible first | refine a_region (by kernel_rfl) ?_ | (refine a_draw mixed (by kernel_rfl) ?_; intro C hC) | (refine a_cond_k ?_; intro X Y hX hY) | refine RetOk.mk ?_ | refine CallS.intro (p1) ?_ | refine CallD.intro (p1) ?_ | refine CallS.intro (p2) ?_ | refine CallD.intro (p2) ?_ | refine CallS.intro (p3) ?_ | refine CallD.intro (p3) ?_ | refine CallS.intro (p4) ?_ | refine CallD.intro (p4) ?_ | refine CallS.intro (i1) ?_ | refine CallD.intro (i1) ?_)); simp (maxSteps := 10000000) (implicitDefEqProofs := false) only [go_sem, Dom.enc, wr0, wr1, Int.toNat_zero, Int.toNat_one]))
  by_cases o8 : op = 8
  · subst o8
    rw [show operD 8 d a a (sameC a a) (mC (byOf a)) false = divD 8 d a a from rfl]
    have i1 := facts_divided 8 d a a ha ha
    simp only [dA, Dom.enc, wideA, wideL, wides, List.map_cons, List.map_nil] at i1
    refine acalls_k Tryz.func248 rfl (by kernel_rfl) (congrArg Array.toList Tryz.results248) Tryz.ntmps248 ?_
    intro R hR
    simp only [st0, List.length_cons, List.length_nil, Nat.reduceAdd, Nat.reduceSub, List.replicate_succ, List.replicate_zero, List.cons_append, List.nil_append]
    repeat' (first | (with_reducible refine a_seq_k ?_; intro K hK) | (with_reducible first | refine a_block ?_ | refine a_ret ?_ | refine a_exit ?_ | refine a_skip ?_ | exact ConfOk.mk (by kernel_rfl)) | ((fail_if_success with_reducible show False); with_reducible apply_assumption (exfalso := false) (symm := false) only [*, rfl, trivial, congrArg]) | with_reducible refine And.intro ?_ ?_ | (intro h; contradiction) | (intro h; subst h) | intro h | ((try (with_reducible first | refine a_region (by kernel_rfl) ?_ | (refine a_draw mixed (by kernel_rfl) ?_; intro C hC) | (refine a_cond_k ?_; intro X Y hX hY) | refine RetOk.mk ?_ | refine CallS.intro (i1) ?_ | refine CallD.intro (i1) ?_)); simp (maxSteps := 10000000) (implicitDefEqProofs := false) only [go_sem, Dom.enc, wr0, wr1, Int.toNat_zero, Int.toNat_one]))
  by_cases o9 : op = 9
  · subst o9
    rw [show operD 9 d a a (sameC a a) (mC (byOf a)) false = divD 9 d a a from rfl]
    have i1 := facts_divided 9 d a a ha ha
    simp only [dA, Dom.enc, wideA, wideL, wides, List.map_cons, List.map_nil] at i1
    refine acalls_k Tryz.func248 rfl (by kernel_rfl) (congrArg Array.toList Tryz.results248) Tryz.ntmps248 ?_
    intro R hR
    simp only [st0, List.length_cons, List.length_nil, Nat.reduceAdd, Nat.reduceSub, List.replicate_succ, List.replicate_zero, List.cons_append, List.nil_append]
    repeat' (first | (with_reducible refine a_seq_k ?_; intro K hK) | (with_reducible first | refine a_block ?_ | refine a_ret ?_ | refine a_exit ?_ | refine a_skip ?_ | exact ConfOk.mk (by kernel_rfl)) | ((fail_if_success with_reducible show False); with_reducible apply_assumption (exfalso := false) (symm := false) only [*, rfl, trivial, congrArg]) | with_reducible refine And.intro ?_ ?_ | (intro h; contradiction) | (intro h; subst h) | intro h | ((try (with_reducible first | refine a_region (by kernel_rfl) ?_ | (refine a_draw mixed (by kernel_rfl) ?_; intro C hC) | (refine a_cond_k ?_; intro X Y hX hY) | refine RetOk.mk ?_ | refine CallS.intro (i1) ?_ | refine CallD.intro (i1) ?_)); simp (maxSteps := 10000000) (implicitDefEqProofs := false) only [go_sem, Dom.enc, wr0, wr1, Int.toNat_zero, Int.toNat_one]))
  by_cases o10 : op = 10
  · subst o10
    rw [show operD 10 d a a (sameC a a) (mC (byOf a)) false = (if 100 < IntKind.wrap .i64 (a.lo + a.lo) then addFail d (decide (100 < IntKind.wrap .i64 (a.hi + a.hi))) else { addFail d (decide (100 < IntKind.wrap .i64 (a.hi + a.hi))) with some := true, lo := IntKind.wrap .i64 (a.lo + a.lo), hi := if 100 < IntKind.wrap .i64 (a.hi + a.hi) then 100 else IntKind.wrap .i64 (a.hi + a.hi) }) from rfl]
    refine acalls_k Tryz.func248 rfl (by kernel_rfl) (congrArg Array.toList Tryz.results248) Tryz.ntmps248 ?_
    intro R hR
    simp only [st0, List.length_cons, List.length_nil, Nat.reduceAdd, Nat.reduceSub, List.replicate_succ, List.replicate_zero, List.cons_append, List.nil_append]
    repeat' (first | (with_reducible refine a_seq_k ?_; intro K hK) | (with_reducible first | refine a_block ?_ | refine a_ret ?_ | refine a_exit ?_ | refine a_skip ?_ | exact ConfOk.mk (by kernel_rfl)) | ((fail_if_success with_reducible show False); with_reducible apply_assumption (exfalso := false) (symm := false) only [*, rfl, trivial, congrArg]) | with_reducible refine And.intro ?_ ?_ | (intro h; contradiction) | (intro h; subst h) | intro h | ((try (with_reducible first | refine a_region (by kernel_rfl) ?_ | (refine a_draw mixed (by kernel_rfl) ?_; intro C hC) | (refine a_cond_k ?_; intro X Y hX hY) | refine RetOk.mk ?_)); simp (maxSteps := 10000000) (implicitDefEqProofs := false) only [go_sem, Dom.enc, wr0, wr1, Int.toNat_zero, Int.toNat_one]))
    all_goals (rw [Eq.comm]; split <;> simp_all <;> omega)
  by_cases o11 : op = 11
  · subst o11
    rw [show operD 11 d a a (sameC a a) (mC (byOf a)) false = { d with some := true, lo := a.lo, hi := a.hi } from rfl]
    refine acalls_k Tryz.func248 rfl (by kernel_rfl) (congrArg Array.toList Tryz.results248) Tryz.ntmps248 ?_
    intro R hR
    simp only [st0, List.length_cons, List.length_nil, Nat.reduceAdd, Nat.reduceSub, List.replicate_succ, List.replicate_zero, List.cons_append, List.nil_append]
    repeat' (first | (with_reducible refine a_seq_k ?_; intro K hK) | (with_reducible first | refine a_block ?_ | refine a_ret ?_ | refine a_exit ?_ | refine a_skip ?_ | exact ConfOk.mk (by kernel_rfl)) | ((fail_if_success with_reducible show False); with_reducible apply_assumption (exfalso := false) (symm := false) only [*, rfl, trivial, congrArg]) | with_reducible refine And.intro ?_ ?_ | (intro h; contradiction) | (intro h; subst h) | intro h | ((try (with_reducible first | refine a_region (by kernel_rfl) ?_ | (refine a_draw mixed (by kernel_rfl) ?_; intro C hC) | (refine a_cond_k ?_; intro X Y hX hY) | refine RetOk.mk ?_)); simp (maxSteps := 10000000) (implicitDefEqProofs := false) only [go_sem, Dom.enc, wr0, wr1, Int.toNat_zero, Int.toNat_one]))
  by_cases o22 : op = 22
  · subst o22
    rw [show operD 22 d a a (sameC a a) (mC (byOf a)) false = truthD d (mayBe a 0) (mayBe a 1) from rfl]
    have m1 := facts_mayBe a 0
    have m2 := facts_mayBe a 1
    have i1 := facts_truth d (mayBe a 0) (mayBe a 1)
    simp only [dA, Dom.enc, wideA, wideL, wides, List.map_cons, List.map_nil] at m1 m2 i1
    refine acalls_k Tryz.func248 rfl (by kernel_rfl) (congrArg Array.toList Tryz.results248) Tryz.ntmps248 ?_
    intro R hR
    simp only [st0, List.length_cons, List.length_nil, Nat.reduceAdd, Nat.reduceSub, List.replicate_succ, List.replicate_zero, List.cons_append, List.nil_append]
    repeat' (first | (with_reducible refine a_seq_k ?_; intro K hK) | (with_reducible first | refine a_block ?_ | refine a_ret ?_ | refine a_exit ?_ | refine a_skip ?_ | exact ConfOk.mk (by kernel_rfl)) | ((fail_if_success with_reducible show False); with_reducible apply_assumption (exfalso := false) (symm := false) only [*, rfl, trivial, congrArg]) | with_reducible refine And.intro ?_ ?_ | (intro h; contradiction) | (intro h; subst h) | intro h | ((try (with_reducible first | refine a_region (by kernel_rfl) ?_ | (refine a_draw mixed (by kernel_rfl) ?_; intro C hC) | (refine a_cond_k ?_; intro X Y hX hY) | refine RetOk.mk ?_ | refine CallS.intro (m1) ?_ | refine CallD.intro (m1) ?_ | refine CallS.intro (m2) ?_ | refine CallD.intro (m2) ?_ | refine CallS.intro (i1) ?_ | refine CallD.intro (i1) ?_)); simp (maxSteps := 10000000) (implicitDefEqProofs := false) only [go_sem, Dom.enc, wr0, wr1, Int.toNat_zero, Int.toNat_one]))
  by_cases o19 : op = 19
  · subst o19
    rw [show operD 19 d a a (sameC a a) (mC (byOf a)) false = truthD d true true from rfl]
    have i1 := facts_truth d true true
    simp only [dA, Dom.enc, wideA, wideL, wides, List.map_cons, List.map_nil] at i1
    refine acalls_k Tryz.func248 rfl (by kernel_rfl) (congrArg Array.toList Tryz.results248) Tryz.ntmps248 ?_
    intro R hR
    simp only [st0, List.length_cons, List.length_nil, Nat.reduceAdd, Nat.reduceSub, List.replicate_succ, List.replicate_zero, List.cons_append, List.nil_append]
    repeat' (first | (with_reducible refine a_seq_k ?_; intro K hK) | (with_reducible first | refine a_block ?_ | refine a_ret ?_ | refine a_exit ?_ | refine a_skip ?_ | exact ConfOk.mk (by kernel_rfl)) | ((fail_if_success with_reducible show False); with_reducible apply_assumption (exfalso := false) (symm := false) only [*, rfl, trivial, congrArg]) | with_reducible refine And.intro ?_ ?_ | (intro h; contradiction) | (intro h; subst h) | intro h | ((try (with_reducible first | refine a_region (by kernel_rfl) ?_ | (refine a_draw mixed (by kernel_rfl) ?_; intro C hC) | (refine a_cond_k ?_; intro X Y hX hY) | refine RetOk.mk ?_ | refine CallS.intro (i1) ?_ | refine CallD.intro (i1) ?_)); simp (maxSteps := 10000000) (implicitDefEqProofs := false) only [go_sem, Dom.enc, wr0, wr1, Int.toNat_zero, Int.toNat_one]))
  have e0 : operD op d a a (sameC a a) (mC (byOf a)) false = truthD d (cmpWith (sameC a a) op a a).1 (cmpWith (sameC a a) op a a).2 := by
    simp only [operD, if_neg o4, if_neg o5, if_neg o6, if_neg o7, if_neg o8, if_neg o9, if_neg o10, if_neg o11, if_neg o22, if_neg o19]
  rw [e0]
  have m1 := facts_compare op a a
  have i1 := facts_truth d (cmpWith (sameC a a) op a a).1 (cmpWith (sameC a a) op a a).2
  generalize cmpWith (sameC a a) op a a = p at *
  simp only [dA, Dom.enc] at m1 i1
  refine acalls_k Tryz.func248 rfl (by kernel_rfl) (congrArg Array.toList Tryz.results248) Tryz.ntmps248 ?_
  intro R hR
  simp only [st0, List.length_cons, List.length_nil, Nat.reduceAdd, Nat.reduceSub, List.replicate_succ, List.replicate_zero, List.cons_append, List.nil_append]
  repeat' (first | (with_reducible refine a_seq_k ?_; intro K hK) | (with_reducible first | refine a_block ?_ | refine a_ret ?_ | refine a_exit ?_ | refine a_skip ?_ | exact ConfOk.mk (by kernel_rfl)) | ((fail_if_success with_reducible show False); with_reducible apply_assumption (exfalso := false) (symm := false) only [*, rfl, trivial, congrArg]) | with_reducible refine And.intro ?_ ?_ | (intro h; contradiction) | (intro h; subst h) | intro h | ((try (with_reducible first | refine a_region (by kernel_rfl) ?_ | (refine a_draw mixed (by kernel_rfl) ?_; intro C hC) | (refine a_cond_k ?_; intro X Y hX hY) | refine RetOk.mk ?_ | refine CallS.intro (m1) ?_ | refine CallD.intro (m1) ?_ | refine CallS.intro (i1) ?_ | refine CallD.intro (i1) ?_)); simp (maxSteps := 10000000) (implicitDefEqProofs := false) only [go_sem, Dom.enc, wr0, wr1, Int.toNat_zero, Int.toNat_one, o4, o5, o6, o7, o8, o9, o10, o11, o22, o19]))
theorem facts_operate2 (op : Int) (d a b : Dom) (ha : a.In) (hb : b.In) : ACalls Tryz.prog 248 [.int .u8 op, dA d, .slice [a.enc, b.enc]] (dA (operD op d a b (sameC a b) (mC (byOf b)) false)) := by
  by_cases o4 : op = 4
  · subst o4
    rw [show operD 4 d a b (sameC a b) (mC (byOf b)) false = interD d (0 - a.lo) [0 - a.hi] from rfl]
    have w1 := facts_widen a.lo ha.2.1
    have w2 := facts_widen a.hi ha.2.2
    have m1 := minus_zero a.lo ha.2.1
    have m2 := minus_zero a.hi ha.2.2
    have i1 := facts_interval d (0 - a.lo) [0 - a.hi] (by simp)
    simp only [dA, Dom.enc, wideA, wideL, wides, List.map_cons, List.map_nil] at w1 w2 m1 m2 i1
    refine acalls_k Tryz.func248 rfl (by kernel_rfl) (congrArg Array.toList Tryz.results248) Tryz.ntmps248 ?_
    intro R hR
    simp only [st0, List.length_cons, List.length_nil, Nat.reduceAdd, Nat.reduceSub, List.replicate_succ, List.replicate_zero, List.cons_append, List.nil_append]
    repeat' (first | (with_reducible refine a_seq_k ?_; intro K hK) | (with_reducible first | refine a_block ?_ | refine a_ret ?_ | refine a_exit ?_ | refine a_skip ?_ | exact ConfOk.mk (by kernel_rfl)) | ((fail_if_success with_reducible show False); with_reducible apply_assumption (exfalso := false) (symm := false) only [*, rfl, trivial, congrArg]) | with_reducible refine And.intro ?_ ?_ | (intro h; contradiction) | (intro h; subst h) | intro h | ((try (with_reducible first | refine a_region (by kernel_rfl) ?_ | (refine a_draw mixed (by kernel_rfl) ?_; intro C hC) | (refine a_cond_k ?_; intro X Y hX hY) | refine RetOk.mk ?_ | refine CallS.intro (w1) ?_ | refine CallD.intro (w1) ?_ | refine CallS.intro (w2) ?_ | refine CallD.intro (w2) ?_ | refine CallS.intro (m1) ?_ | refine CallD.intro (m1) ?_ | refine CallS.intro (m2) ?_ | refine CallD.intro (m2) ?_ | refine CallS.intro (i1) ?_ | refine CallD.intro (i1) ?_)); simp (maxSteps := 10000000) (implicitDefEqProofs := false) only [go_sem, Dom.enc, wr0, wr1, Int.toNat_zero, Int.toNat_one]))
  by_cases o5 : op = 5
  · subst o5
    rw [show operD 5 d a b (sameC a b) (mC (byOf b)) false = interD d (a.lo + b.lo) [a.hi + b.hi] from rfl]
    have w1 := facts_widen a.lo ha.2.1
    have w2 := facts_widen a.hi ha.2.2
    have w3 := facts_widen b.lo hb.2.1
    have w4 := facts_widen b.hi hb.2.2
    have m1 := facts_plus a.lo b.lo (Mid_of ha.2.1) (Mid_of hb.2.1)
    have m2 := facts_plus a.hi b.hi (Mid_of ha.2.2) (Mid_of hb.2.2)
    have i1 := facts_interval d (a.lo + b.lo) [a.hi + b.hi] (by simp)
    simp only [dA, Dom.enc, wideA, wideL, wides, List.map_cons, List.map_nil] at w1 w2 w3 w4 m1 m2 i1
    refine acalls_k Tryz.func248 rfl (by kernel_rfl) (congrArg Array.toList Tryz.results248) Tryz.ntmps248 ?_
    intro R hR
    simp only [st0, List.length_cons, List.length_nil, Nat.reduceAdd, Nat.reduceSub, List.replicate_succ, List.replicate_zero, List.cons_append, List.nil_append]
    repeat' (first | (with_reducible refine a_seq_k ?_; intro K hK) | (with_reducible first | refine a_block ?_ | refine a_ret ?_ | refine a_exit ?_ | refine a_skip ?_ | exact ConfOk.mk (by kernel_rfl)) | ((fail_if_success with_reducible show False); with_reducible apply_assumption (exfalso := false) (symm := false) only [*, rfl, trivial, congrArg]) | with_reducible refine And.intro ?_ ?_ | (intro h; contradiction) | (intro h; subst h) | intro h | ((try (with_reducible first | refine a_region (by kernel_rfl) ?_ | (refine a_draw mixed (by kernel_rfl) ?_; intro C hC) | (refine a_cond_k ?_; intro X Y hX hY) | refine RetOk.mk ?_ | refine CallS.intro (w1) ?_ | refine CallD.intro (w1) ?_ | refine CallS.intro (w2) ?_ | refine CallD.intro (w2) ?_ | refine CallS.intro (w3) ?_ | refine CallD.intro (w3) ?_ | refine CallS.intro (w4) ?_ | refine CallD.intro (w4) ?_ | refine CallS.intro (m1) ?_ | refine CallD.intro (m1) ?_ | refine CallS.intro (m2) ?_ | refine CallD.intro (m2) ?_ | refine CallS.intro (i1) ?_ | refine CallD.intro (i1) ?_)); simp (maxSteps := 10000000) (implicitDefEqProofs := false) only [go_sem, Dom.enc, wr0, wr1, Int.toNat_zero, Int.toNat_one]))
  by_cases o6 : op = 6
  · subst o6
    rw [show operD 6 d a b (sameC a b) (mC (byOf b)) false = interD d (a.lo - b.hi) [a.hi - b.lo] from rfl]
    have w1 := facts_widen a.lo ha.2.1
    have w2 := facts_widen a.hi ha.2.2
    have w3 := facts_widen b.lo hb.2.1
    have w4 := facts_widen b.hi hb.2.2
    have n1 := facts_minus b.lo (Mid_of hb.2.1)
    have n2 := facts_minus b.hi (Mid_of hb.2.2)
    have m1 := plus_neg a.lo b.hi ha.2.1 hb.2.2
    have m2 := plus_neg a.hi b.lo ha.2.2 hb.2.1
    have i1 := facts_interval d (a.lo - b.hi) [a.hi - b.lo] (by simp)
    simp only [dA, Dom.enc, wideA, wideL, wides, List.map_cons, List.map_nil] at w1 w2 w3 w4 n1 n2 m1 m2 i1
    refine acalls_k Tryz.func248 rfl (by kernel_rfl) (congrArg Array.toList Tryz.results248) Tryz.ntmps248 ?_
    intro R hR
    simp only [st0, List.length_cons, List.length_nil, Nat.reduceAdd, Nat.reduceSub, List.replicate_succ, List.replicate_zero, List.cons_append, List.nil_append]
    repeat' (first | (with_reducible refine a_seq_k ?_; intro K hK) | (with_reducible first | refine a_block ?_ | refine a_ret ?_ | refine a_exit ?_ | refine a_skip ?_ | exact ConfOk.mk (by kernel_rfl)) | ((fail_if_success with_reducible show False); with_reducible apply_assumption (exfalso := false) (symm := false) only [*, rfl, trivial, congrArg]) | with_reducible refine And.intro ?_ ?_ | (intro h; contradiction) | (intro h; subst h) | intro h | ((try (with_reducible first | refine a_region (by kernel_rfl) ?_ | (refine a_draw mixed (by kernel_rfl) ?_; intro C hC) | (refine a_cond_k ?_; intro X Y hX hY) | refine RetOk.mk ?_ | refine CallS.intro (w1) ?_ | refine CallD.intro (w1) ?_ | refine CallS.intro (w2) ?_ | refine CallD.intro (w2) ?_ | refine CallS.intro (w3) ?_ | refine CallD.intro (w3) ?_ | refine CallS.intro (w4) ?_ | refine CallD.intro (w4) ?_ | refine CallS.intro (n1) ?_ | refine CallD.intro (n1) ?_ | refine CallS.intro (n2) ?_ | refine CallD.intro (n2) ?_ | refine CallS.intro (m1) ?_ | refine CallD.intro (m1) ?_ | refine CallS.intro (m2) ?_ | refine CallD.intro (m2) ?_ | refine CallS.intro (i1) ?_ | refine CallD.intro (i1) ?_)); simp (maxSteps := 10000000) (implicitDefEqProofs := false) only [go_sem, Dom.enc, wr0, wr1, Int.toNat_zero, Int.toNat_one]))
  by_cases o7 : op = 7
  · subst o7
    rw [show operD 7 d a b (sameC a b) (mC (byOf b)) false = interD d (a.lo * b.lo) [a.lo * b.hi, a.hi * b.lo, a.hi * b.hi] from rfl]
    have p1 := facts_product a.lo b.lo ha.2.1 hb.2.1
    have p2 := facts_product a.lo b.hi ha.2.1 hb.2.2
    have p3 := facts_product a.hi b.lo ha.2.2 hb.2.1
    have p4 := facts_product a.hi b.hi ha.2.2 hb.2.2
    have i1 := facts_interval d (a.lo * b.lo) [a.lo * b.hi, a.hi * b.lo, a.hi * b.hi] (by simp)
    simp only [dA, Dom.enc, wideA, wideL, wides, List.map_cons, List.map_nil] at p1 p2 p3 p4 i1
    refine acalls_k Tryz.func248 rfl (by kernel_rfl) (congrArg Array.toList Tryz.results248) Tryz.ntmps248 ?_
    intro R hR
    simp only [st0, List.length_cons, List.length_nil, Nat.reduceAdd, Nat.reduceSub, List.replicate_succ, List.replicate_zero, List.cons_append, List.nil_append]
    repeat' (first | (with_reducible refine a_seq_k ?_; intro K hK) | (with_reducible first | refine a_block ?_ | refine a_ret ?_ | refine a_exit ?_ | refine a_skip ?_ | exact ConfOk.mk (by kernel_rfl)) | ((fail_if_success with_reducible show False); with_reducible apply_assumption (exfalso := false) (symm := false) only [*, rfl, trivial, congrArg]) | with_reducible refine And.intro ?_ ?_ | (intro h; contradiction) | (intro h; subst h) | intro h | ((try (with_reducible first | refine a_region (by kernel_rfl) ?_ | (refine a_draw mixed (by kernel_rfl) ?_; intro C hC) | (refine a_cond_k ?_; intro X Y hX hY) | refine RetOk.mk ?_ | refine CallS.intro (p1) ?_ | refine CallD.intro (p1) ?_ | refine CallS.intro (p2) ?_ | refine CallD.intro (p2) ?_ | refine CallS.intro (p3) ?_ | refine CallD.intro (p3) ?_ | refine CallS.intro (p4) ?_ | refine CallD.intro (p4) ?_ | refine CallS.intro (i1) ?_ | refine CallD.intro (i1) ?_)); simp (maxSteps := 10000000) (implicitDefEqProofs := false) only [go_sem, Dom.enc, wr0, wr1, Int.toNat_zero, Int.toNat_one]))
  by_cases o8 : op = 8
  · subst o8
    rw [show operD 8 d a b (sameC a b) (mC (byOf b)) false = divD 8 d a b from rfl]
    have i1 := facts_divided 8 d a b ha hb
    simp only [dA, Dom.enc, wideA, wideL, wides, List.map_cons, List.map_nil] at i1
    refine acalls_k Tryz.func248 rfl (by kernel_rfl) (congrArg Array.toList Tryz.results248) Tryz.ntmps248 ?_
    intro R hR
    simp only [st0, List.length_cons, List.length_nil, Nat.reduceAdd, Nat.reduceSub, List.replicate_succ, List.replicate_zero, List.cons_append, List.nil_append]
    repeat' (first | (with_reducible refine a_seq_k ?_; intro K hK) | (with_reducible first | refine a_block ?_ | refine a_ret ?_ | refine a_exit ?_ | refine a_skip ?_ | exact ConfOk.mk (by kernel_rfl)) | ((fail_if_success with_reducible show False); with_reducible apply_assumption (exfalso := false) (symm := false) only [*, rfl, trivial, congrArg]) | with_reducible refine And.intro ?_ ?_ | (intro h; contradiction) | (intro h; subst h) | intro h | ((try (with_reducible first | refine a_region (by kernel_rfl) ?_ | (refine a_draw mixed (by kernel_rfl) ?_; intro C hC) | (refine a_cond_k ?_; intro X Y hX hY) | refine RetOk.mk ?_ | refine CallS.intro (i1) ?_ | refine CallD.intro (i1) ?_)); simp (maxSteps := 10000000) (implicitDefEqProofs := false) only [go_sem, Dom.enc, wr0, wr1, Int.toNat_zero, Int.toNat_one]))
  by_cases o9 : op = 9
  · subst o9
    rw [show operD 9 d a b (sameC a b) (mC (byOf b)) false = divD 9 d a b from rfl]
    have i1 := facts_divided 9 d a b ha hb
    simp only [dA, Dom.enc, wideA, wideL, wides, List.map_cons, List.map_nil] at i1
    refine acalls_k Tryz.func248 rfl (by kernel_rfl) (congrArg Array.toList Tryz.results248) Tryz.ntmps248 ?_
    intro R hR
    simp only [st0, List.length_cons, List.length_nil, Nat.reduceAdd, Nat.reduceSub, List.replicate_succ, List.replicate_zero, List.cons_append, List.nil_append]
    repeat' (first | (with_reducible refine a_seq_k ?_; intro K hK) | (with_reducible first | refine a_block ?_ | refine a_ret ?_ | refine a_exit ?_ | refine a_skip ?_ | exact ConfOk.mk (by kernel_rfl)) | ((fail_if_success with_reducible show False); with_reducible apply_assumption (exfalso := false) (symm := false) only [*, rfl, trivial, congrArg]) | with_reducible refine And.intro ?_ ?_ | (intro h; contradiction) | (intro h; subst h) | intro h | ((try (with_reducible first | refine a_region (by kernel_rfl) ?_ | (refine a_draw mixed (by kernel_rfl) ?_; intro C hC) | (refine a_cond_k ?_; intro X Y hX hY) | refine RetOk.mk ?_ | refine CallS.intro (i1) ?_ | refine CallD.intro (i1) ?_)); simp (maxSteps := 10000000) (implicitDefEqProofs := false) only [go_sem, Dom.enc, wr0, wr1, Int.toNat_zero, Int.toNat_one]))
  by_cases o10 : op = 10
  · subst o10
    rw [show operD 10 d a b (sameC a b) (mC (byOf b)) false = (if 100 < IntKind.wrap .i64 (a.lo + b.lo) then addFail d (decide (100 < IntKind.wrap .i64 (a.hi + b.hi))) else { addFail d (decide (100 < IntKind.wrap .i64 (a.hi + b.hi))) with some := true, lo := IntKind.wrap .i64 (a.lo + b.lo), hi := if 100 < IntKind.wrap .i64 (a.hi + b.hi) then 100 else IntKind.wrap .i64 (a.hi + b.hi) }) from rfl]
    refine acalls_k Tryz.func248 rfl (by kernel_rfl) (congrArg Array.toList Tryz.results248) Tryz.ntmps248 ?_
    intro R hR
    simp only [st0, List.length_cons, List.length_nil, Nat.reduceAdd, Nat.reduceSub, List.replicate_succ, List.replicate_zero, List.cons_append, List.nil_append]
    repeat' (first | (with_reducible refine a_seq_k ?_; intro K hK) | (with_reducible first | refine a_block ?_ | refine a_ret ?_ | refine a_exit ?_ | refine a_skip ?_ | exact ConfOk.mk (by kernel_rfl)) | ((fail_if_success with_reducible show False); with_reducible apply_assumption (exfalso := false) (symm := false) only [*, rfl, trivial, congrArg]) | with_reducible refine And.intro ?_ ?_ | (intro h; contradiction) | (intro h; subst h) | intro h | ((try (with_reducible first | refine a_region (by kernel_rfl) ?_ | (refine a_draw mixed (by kernel_rfl) ?_; intro C hC) | (refine a_cond_k ?_; intro X Y hX hY) | refine RetOk.mk ?_)); simp (maxSteps := 10000000) (implicitDefEqProofs := false) only [go_sem, Dom.enc, wr0, wr1, Int.toNat_zero, Int.toNat_one]))
    all_goals (rw [Eq.comm]; split <;> simp_all <;> omega)
  by_cases o11 : op = 11
  · subst o11
    rw [show operD 11 d a b (sameC a b) (mC (byOf b)) false = { d with some := true, lo := a.lo, hi := a.hi } from rfl]
    refine acalls_k Tryz.func248 rfl (by kernel_rfl) (congrArg Array.toList Tryz.results248) Tryz.ntmps248 ?_
    intro R hR
    simp only [st0, List.length_cons, List.length_nil, Nat.reduceAdd, Nat.reduceSub, List.replicate_succ, List.replicate_zero, List.cons_append, List.nil_append]
    repeat' (first | (with_reducible refine a_seq_k ?_; intro K hK) | (with_reducible first | refine a_block ?_ | refine a_ret ?_ | refine a_exit ?_ | refine a_skip ?_ | exact ConfOk.mk (by kernel_rfl)) | ((fail_if_success with_reducible show False); with_reducible apply_assumption (exfalso := false) (symm := false) only [*, rfl, trivial, congrArg]) | with_reducible refine And.intro ?_ ?_ | (intro h; contradiction) | (intro h; subst h) | intro h | ((try (with_reducible first | refine a_region (by kernel_rfl) ?_ | (refine a_draw mixed (by kernel_rfl) ?_; intro C hC) | (refine a_cond_k ?_; intro X Y hX hY) | refine RetOk.mk ?_)); simp (maxSteps := 10000000) (implicitDefEqProofs := false) only [go_sem, Dom.enc, wr0, wr1, Int.toNat_zero, Int.toNat_one]))
  by_cases o22 : op = 22
  · subst o22
    rw [show operD 22 d a b (sameC a b) (mC (byOf b)) false = truthD d (mayBe a 0) (mayBe a 1) from rfl]
    have m1 := facts_mayBe a 0
    have m2 := facts_mayBe a 1
    have i1 := facts_truth d (mayBe a 0) (mayBe a 1)
    simp only [dA, Dom.enc, wideA, wideL, wides, List.map_cons, List.map_nil] at m1 m2 i1
    refine acalls_k Tryz.func248 rfl (by kernel_rfl) (congrArg Array.toList Tryz.results248) Tryz.ntmps248 ?_
    intro R hR
    simp only [st0, List.length_cons, List.length_nil, Nat.reduceAdd, Nat.reduceSub, List.replicate_succ, List.replicate_zero, List.cons_append, List.nil_append]
    repeat' (first | (with_reducible refine a_seq_k ?_; intro K hK) | (with_reducible first | refine a_block ?_ | refine a_ret ?_ | refine a_exit ?_ | refine a_skip ?_ | exact ConfOk.mk (by kernel_rfl)) | ((fail_if_success with_reducible show False); with_reducible apply_assumption (exfalso := false) (symm := false) only [*, rfl, trivial, congrArg]) | with_reducible refine And.intro ?_ ?_ | (intro h; contradiction) | (intro h; subst h) | intro h | ((try (with_reducible first | refine a_region (by kernel_rfl) ?_ | (refine a_draw mixed (by kernel_rfl) ?_; intro C hC) | (refine a_cond_k ?_; intro X Y hX hY) | refine RetOk.mk ?_ | refine CallS.intro (m1) ?_ | refine CallD.intro (m1) ?_ | refine CallS.intro (m2) ?_ | refine CallD.intro (m2) ?_ | refine CallS.intro (i1) ?_ | refine CallD.intro (i1) ?_)); simp (maxSteps := 10000000) (implicitDefEqProofs := false) only [go_sem, Dom.enc, wr0, wr1, Int.toNat_zero, Int.toNat_one]))
  by_cases o19 : op = 19
  · subst o19
    rw [show operD 19 d a b (sameC a b) (mC (byOf b)) false = truthD d true true from rfl]
    have i1 := facts_truth d true true
    simp only [dA, Dom.enc, wideA, wideL, wides, List.map_cons, List.map_nil] at i1
    refine acalls_k Tryz.func248 rfl (by kernel_rfl) (congrArg Array.toList Tryz.results248) Tryz.ntmps248 ?_
    intro R hR
    simp only [st0, List.length_cons, List.length_nil, Nat.reduceAdd, Nat.reduceSub, List.replicate_succ, List.replicate_zero, List.cons_append, List.nil_append]
    repeat' (first | (with_reducible refine a_seq_k ?_; intro K hK) | (with_reducible first | refine a_block ?_ | refine a_ret ?_ | refine a_exit ?_ | refine a_skip ?_ | exact ConfOk.mk (by kernel_rfl)) | ((fail_if_success with_reducible show False); with_reducible apply_assumption (exfalso := false) (symm := false) only [*, rfl, trivial, congrArg]) | with_reducible refine And.intro ?_ ?_ | (intro h; contradiction) | (intro h; subst h) | intro h | ((try (with_reducible first | refine a_region (by kernel_rfl) ?_ | (refine a_draw mixed (by kernel_rfl) ?_; intro C hC) | (refine a_cond_k ?_; intro X Y hX hY) | refine RetOk.mk ?_ | refine CallS.intro (i1) ?_ | refine CallD.intro (i1) ?_)); simp (maxSteps := 10000000) (implicitDefEqProofs := false) only [go_sem, Dom.enc, wr0, wr1, Int.toNat_zero, Int.toNat_one]))
  have e0 : operD op d a b (sameC a b) (mC (byOf b)) false = truthD d (cmpWith (sameC a b) op a b).1 (cmpWith (sameC a b) op a b).2 := by
    simp only [operD, if_neg o4, if_neg o5, if_neg o6, if_neg o7, if_neg o8, if_neg o9, if_neg o10, if_neg o11, if_neg o22, if_neg o19]
  rw [e0]
  have m1 := facts_compare op a b
  have i1 := facts_truth d (cmpWith (sameC a b) op a b).1 (cmpWith (sameC a b) op a b).2
  generalize cmpWith (sameC a b) op a b = p at *
  simp only [dA, Dom.enc] at m1 i1
  refine acalls_k Tryz.func248 rfl (by kernel_rfl) (congrArg Array.toList Tryz.results248) Tryz.ntmps248 ?_
  intro R hR
  simp only [st0, List.length_cons, List.length_nil, Nat.reduceAdd, Nat.reduceSub, List.replicate_succ, List.replicate_zero, List.cons_append, List.nil_append]
  repeat' (first | (with_reducible refine a_seq_k ?_; intro K hK) | (with_reducible first | refine a_block ?_ | refine a_ret ?_ | refine a_exit ?_ | refine a_skip ?_ | exact ConfOk.mk (by kernel_rfl)) | ((fail_if_success with_reducible show False); with_reducible apply_assumption (exfalso := false) (symm := false) only [*, rfl, trivial, congrArg]) | with_reducible refine And.intro ?_ ?_ | (intro h; contradiction) | (intro h; subst h) | intro h | ((try (with_reducible first | refine a_region (by kernel_rfl) ?_ | (refine a_draw mixed (by kernel_rfl) ?_; intro C hC) | (refine a_cond_k ?_; intro X Y hX hY) | refine RetOk.mk ?_ | refine CallS.intro (m1) ?_ | refine CallD.intro (m1) ?_ | refine CallS.intro (i1) ?_ | refine CallD.intro (i1) ?_)); simp (maxSteps := 10000000) (implicitDefEqProofs := false) only [go_sem, Dom.enc, wr0, wr1, Int.toNat_zero, Int.toNat_one, o4, o5, o6, o7, o8, o9, o10, o11, o22, o19]))
end Go.Proofs.YtoggbjfjmbjegaaGreatDoor
