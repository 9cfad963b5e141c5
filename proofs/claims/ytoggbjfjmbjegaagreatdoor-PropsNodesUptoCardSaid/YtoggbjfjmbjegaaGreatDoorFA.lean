/- The document's arithmetic on integers (jointerref01), and products in two words. Integers of 128 bits in two words (facts.wide). Lies: whether an out lies in a domain, in the document and in the program. Domains: the program's functions without loops. Intervals of exact integers; quotients and remainders: the program's loops. -/
import Derived.Test.YtoggbjfjmbjegaaGreatDoorTK
import Derived.Test.YtoggbjfjmbjegaaGreatDoorPP
set_option linter.unusedSimpArgs false
set_option linter.unusedVariables false
set_option linter.unusedSimpArgs false
set_option linter.unusedVariables false
namespace Go.Proofs.YtoggbjfjmbjegaaGreatDoor
open Go Go.Ab
theorem ti23 : ti Tryz.prog 23 = ⟨(.slice 33), 1, 24, false, some [.nils]⟩ := by kernel_rfl
theorem ti33 : ti Tryz.prog 33 = ⟨(.struct [(0, 1, false), (1, 1, false), (2, 1, false), (3, 1, false), (4, 1, false), (5, 1, false)]), 6, 24, true, some [.int .u8 0, .bool false, .bool false, .bool false, .int .i64 0, .int .i64 0]⟩ := by kernel_rfl
theorem ti37 : ti Tryz.prog 37 = ⟨(.slice 23), 1, 24, false, some [.nils]⟩ := by kernel_rfl
theorem ti46 : ti Tryz.prog 46 = ⟨(.slice 68), 1, 24, false, some [.nils]⟩ := by kernel_rfl
theorem ti245 : ti Tryz.prog 245 = ⟨(.struct [(0, 1, false), (1, 1, false)]), 2, 16, true, some [.int .i64 0, .int .i64 0]⟩ := by kernel_rfl
theorem ti247 : ti Tryz.prog 247 = ⟨(.slice 245), 1, 24, false, some [.nils]⟩ := by kernel_rfl
theorem ti257 : ti Tryz.prog 257 = ⟨(.array 4 4), 4, 4, true, some [.bool false, .bool false, .bool false, .bool false]⟩ := by kernel_rfl
theorem ti271 : ti Tryz.prog 271 = ⟨(.struct [(0, 1, false), (1, 1, false)]), 2, 16, true, some [.int .i64 0, .int .u64 0]⟩ := by kernel_rfl
theorem ti290 : ti Tryz.prog 290 = ⟨(.slice 2), 1, 24, false, some [.nils]⟩ := by kernel_rfl
theorem ti343 : ti Tryz.prog 343 = ⟨(.slice 271), 1, 24, false, some [.nils]⟩ := by kernel_rfl

attribute [local go_sem ↓] parts_tt parts_ff parts_tf parts_ft reduceIte
attribute [local go_sem] reduceCtorEq Nat.reduceAdd Nat.reduceSub Nat.reduceLeDiff Nat.reduceEqDiff Nat.reduceMul Nat.reduceLT Nat.reducePow Int.reduceEq Int.reduceLT Int.reduceLE Int.reduceGT Int.reduceGE Int.reduceAdd Int.reduceSub Int.reduceNeg Int.reduceToNat parts_eq learnT aops_nil aops_cons aopsD_nil aopsD_cons stepS stepD gval St.learn skipR St.after putτ applyUpd List.foldl_cons List.foldl_nil pureOp memOp callOf litA closeO closeK List.flatMap_cons List.flatMap_nil Option.map_none decide_false opnd ofConst leaf binA unA lenA indexA indexAddrA fieldAddrA fieldA weak_slice weak_nils weak_str weak_view weak_viewF weak_sliceF weak_ptr weak_cptr weak_rptr weak_sl weak_sl0 weak_any sliceFA_slice sliceFA_str sliceFA_view sliceFA_none sliceFA_some sameO sliceA convertA pickV fillA placeS cellsA setA partA loadM storeM appendM srcEls lookBox lookRow lookMap closeL closeV scalarB scalarL killed buildEls lookupA leafEq eqAll resA resL tupA retA thenA blockA isInt loA hiA foldA maxA minA okSize leafB closedB Res.foot List.getD_cons_zero List.getD_cons_succ List.set_cons_zero List.set_cons_succ List.map_cons List.map_nil List.append_nil List.nil_append List.cons_append List.length_cons List.length_nil List.take_succ_cons List.take_zero List.drop_succ_cons List.drop_zero List.take_nil List.drop_nil List.all_cons List.all_nil List.getElem?_toArray List.getElem?_cons_zero List.getElem?_cons_succ Option.bind_some Option.map_some true_and and_true true_implies ne_eq not_true_eq_false not_false_eq_true Bool.true_eq_false Bool.false_eq_true Bool.not_true Bool.not_false decide_eq_true_eq decide_eq_false_iff_not false_implies implies_true and_self ite_true ite_false cond_true cond_false Option.some.injEq List.reverse_cons List.reverse_nil Bool.and_self Bool.true_and Bool.and_true Bool.false_and Bool.and_false Bool.or_true Bool.true_or Bool.or_false Bool.false_or Bool.not_eq_eq_eq_not Bool.not_not Bool.or_self beq_self_eq_true and_false false_and or_true true_or or_false false_or not_true not_false_iff Decidable.not_not lookT lookR tabT tabR Int.toNat_natCast List.length_map List.map_append List.length_append decide_true decide_false tmod2 List.mem_singleton forall_eq elOk1 elOk3 elOk4 castn0 castn1 castn2 castn3 getD_mid getD_mid_map at_lt at_end mid_lt mid_lt' nat_ge List.size_toArray Array.size_empty Nat.add_zero Nat.zero_add
attribute [local irreducible] ASpec ACalls retA ti EqT
set_option linter.unusedSimpArgs false
set_option maxHeartbeats 4000000
set_option maxRecDepth 100000
set_option linter.unusedVariables false
attribute [local go_sem] ti2 ti3 ti4 ti5 ti9 ti21 ti22 ti23 ti24 ti26 ti27 ti28 ti30 ti33 ti34 ti37 ti46 ti52 ti68 ti69 ti73 ti78 ti86 ti89 ti99 ti122 ti123 ti124 ti144 ti173 ti174 ti190 ti191 ti199 ti245 ti247 ti257 ti271 ti288 ti290 ti343
theorem bits_Mul64 (x y : Nat) (hx : x < 18446744073709551616) (hy : y < 18446744073709551616) : ACalls Tryz.prog 341 [.int .u64 x, .int .u64 y] (.tuple [.int .u64 ((x * y / 18446744073709551616 : Nat) : Int), .int .u64 ((x * y % 18446744073709551616 : Nat) : Int)]) := by
  obtain ⟨b1, b3, b5, b6⟩ := Lib.mul64_hi x y hx hy
  have hlo : IntKind.u64.wrap ((x : Int) * y) = ((x * y % 18446744073709551616 : Nat) : Int) := by rw [wrap_u64, ← Int.natCast_mul]; rfl
  have g1 := Lib.half_mul_le (a := x / 4294967296) (b := y / 4294967296) (by omega) (by omega)
  have b2 : x / 4294967296 * (y % 4294967296) < 18446744073709551616 := by omega
  have b4 : x % 4294967296 * (y / 4294967296) < 18446744073709551616 := by omega
  have b7 : x / 4294967296 * (y / 4294967296) < 18446744073709551616 := by omega
  refine acalls_k Tryz.func341 rfl (by kernel_rfl) (congrArg Array.toList Tryz.results341) Tryz.ntmps341 ?_
  intro R hR
  simp only [st0, List.length_cons, List.length_nil, Nat.reduceAdd, Nat.reduceSub, List.replicate_succ, List.replicate_zero, List.cons_append, List.nil_append]
  repeat' (first | (with_reducible refine a_seq_k ?_; intro K hK) | (with_reducible first | refine a_block ?_ | refine a_ret ?_ | refine a_exit ?_ | refine a_skip ?_ | exact ConfOk.mk (by kernel_rfl)) | ((fail_if_success with_reducible show False); with_reducible apply_assumption (exfalso := false) (symm := false) only [*, rfl, trivial, congrArg]) | with_reducible refine And.intro ?_ ?_ | (intro h; contradiction) | (intro h; subst h) | intro h | ((try (with_reducible first | refine a_region (by kernel_rfl) ?_ | (refine a_draw mixed (by kernel_rfl) ?_; intro C hC) | (refine a_cond_k ?_; intro X Y hX hY) | refine RetOk.mk ?_)); simp (maxSteps := 10000000) (implicitDefEqProofs := false) only [go_sem]))
  rw [hlo]
  congr 1
  congr 1
  simp only [maskA x hx, maskA y hy, shr32, ← Int.natCast_mul, wrapN _ b1, wrapN _ b2, wrapN _ b4, wrapN _ b7, ← Int.natCast_add, wrapN _ b3, maskA _ b3, wrapN _ b5]
  rw [← b6]
  generalize x / 4294967296 * (y / 4294967296) = p at *
  generalize x / 4294967296 * (y % 4294967296) = q at *
  generalize x % 4294967296 * (y / 4294967296) = r at *
  generalize x % 4294967296 * (y % 4294967296) = s at *
  have hT : p + (q + s / 4294967296) / 4294967296 + ((q + s / 4294967296) % 4294967296 + r) / 4294967296 < 18446744073709551616 := by
    rw [b6]
    exact Nat.div_lt_of_lt_mul (Nat.mul_lt_mul'' hx hy)
  rw [wrapN _ (by omega), ← Int.natCast_add, wrapN _ hT]
def divI (a b : Int) : Int × Int := if b = 0 then (0, 3) else arI (Int.tdiv a b)
def mulI (a b : Int) : Int × Int := arI (a * b)
theorem mul_back {a b : Int} (ha : In64 a) (hb : In64 b) (h0 : b ≠ 0) (h1 : ¬ (a = -9223372036854775808 ∧ b = -1)) : IntKind.wrap .i64 (Int.tdiv (IntKind.wrap .i64 (a * b)) b) = a ↔ In64 (a * b) := by
  obtain ⟨c1, c2, c3⟩ := wrap_i64 (a * b)
  constructor
  · intro h
    by_cases hm : b = -1
    · subst hm
      have : a * -1 = -a := by omega
      rw [this]
      obtain ⟨a1, a2⟩ := ha
      constructor <;> omega
    · have hq := tdiv_in c1 h0 hm
      rw [(wrap_i64 _).2.1 hq] at h
      have e := Int.mul_tdiv_add_tmod (IntKind.wrap .i64 (a * b)) b
      have hn := Int.natAbs_tmod (IntKind.wrap .i64 (a * b)) b
      rw [h, Int.mul_comm b a] at e
      have hlt : (IntKind.wrap .i64 (a * b)).natAbs % b.natAbs < b.natAbs := Nat.mod_lt _ (by omega)
      generalize Int.tmod (IntKind.wrap .i64 (a * b)) b = r at e hn
      generalize IntKind.wrap .i64 (a * b) = c at c1 c3 e hn hlt
      generalize a * b = m at c3 e ⊢
      have : r = 0 := by
        obtain ⟨b1, b2⟩ := hb
        omega
      rw [this] at e
      have : m = c := by omega
      rw [this]; exact c1
  · intro h
    rw [c2 h, Int.mul_tdiv_cancel a h0, (wrap_i64 a).2.1 ha]
theorem ref_Add (a b : Int) (ha : In64 a) (hb : In64 b) : ACalls Tryz.prog 280 [.int .i64 a, .int .i64 b] (.tuple [.int .i64 (arI (a + b)).1, .int .i64 (arI (a + b)).2]) := by
  obtain ⟨c1, c2, c3⟩ := wrap_i64 (a + b)
  obtain ⟨a1, a2⟩ := ha
  obtain ⟨b1, b2⟩ := hb
  obtain ⟨d1, d2⟩ := c1
  by_cases h : In64 (a + b)
  · rw [show arI (a + b) = (a + b, 0) from if_pos h]
    have hW := c2 h
    obtain ⟨h1, h2⟩ := h
    refine acalls_k Tryz.func280 rfl (by kernel_rfl) (congrArg Array.toList Tryz.results280) Tryz.ntmps280 ?_
    intro R hR
    simp only [st0, List.length_cons, List.length_nil, Nat.reduceAdd, Nat.reduceSub, List.replicate_succ, List.replicate_zero, List.cons_append, List.nil_append]
    repeat' (first | (with_reducible refine a_seq_k ?_; intro K hK) | (with_reducible first | refine a_block ?_ | refine a_ret ?_ | refine a_exit ?_ | refine a_skip ?_ | exact ConfOk.mk (by kernel_rfl)) | ((fail_if_success with_reducible show False); with_reducible apply_assumption (exfalso := false) (symm := false) only [*, rfl, trivial, congrArg]) | with_reducible refine And.intro ?_ ?_ | (intro h; contradiction) | (intro h; subst h) | intro h | ((try (with_reducible first | refine a_region (by kernel_rfl) ?_ | (refine a_draw mixed (by kernel_rfl) ?_; intro C hC) | (refine a_cond_k ?_; intro X Y hX hY) | refine RetOk.mk ?_)); simp (maxSteps := 10000000) (implicitDefEqProofs := false) only [go_sem, hW]))
    all_goals (exfalso; omega)
  · rw [show arI (a + b) = (0, 4) from if_neg h]
    have hq : a + b < -9223372036854775808 ∨ 9223372036854775807 < a + b := by unfold In64 at h; omega
    refine acalls_k Tryz.func280 rfl (by kernel_rfl) (congrArg Array.toList Tryz.results280) Tryz.ntmps280 ?_
    intro R hR
    simp only [st0, List.length_cons, List.length_nil, Nat.reduceAdd, Nat.reduceSub, List.replicate_succ, List.replicate_zero, List.cons_append, List.nil_append]
    repeat' (first | (with_reducible refine a_seq_k ?_; intro K hK) | (with_reducible first | refine a_block ?_ | refine a_ret ?_ | refine a_exit ?_ | refine a_skip ?_ | exact ConfOk.mk (by kernel_rfl)) | ((fail_if_success with_reducible show False); with_reducible apply_assumption (exfalso := false) (symm := false) only [*, rfl, trivial, congrArg]) | with_reducible refine And.intro ?_ ?_ | (intro h; contradiction) | (intro h; subst h) | intro h | ((try (with_reducible first | refine a_region (by kernel_rfl) ?_ | (refine a_draw mixed (by kernel_rfl) ?_; intro C hC) | (refine a_cond_k ?_; intro X Y hX hY) | refine RetOk.mk ?_)); simp (maxSteps := 10000000) (implicitDefEqProofs := false) only [go_sem]))
    all_goals (exfalso; omega)
theorem ref_Sub (a b : Int) (ha : In64 a) (hb : In64 b) : ACalls Tryz.prog 278 [.int .i64 a, .int .i64 b] (.tuple [.int .i64 (arI (a - b)).1, .int .i64 (arI (a - b)).2]) := by
  obtain ⟨c1, c2, c3⟩ := wrap_i64 (a - b)
  obtain ⟨a1, a2⟩ := ha
  obtain ⟨b1, b2⟩ := hb
  obtain ⟨d1, d2⟩ := c1
  by_cases h : In64 (a - b)
  · rw [show arI (a - b) = (a - b, 0) from if_pos h]
    have hW := c2 h
    obtain ⟨h1, h2⟩ := h
    refine acalls_k Tryz.func278 rfl (by kernel_rfl) (congrArg Array.toList Tryz.results278) Tryz.ntmps278 ?_
    intro R hR
    simp only [st0, List.length_cons, List.length_nil, Nat.reduceAdd, Nat.reduceSub, List.replicate_succ, List.replicate_zero, List.cons_append, List.nil_append]
    repeat' (first | (with_reducible refine a_seq_k ?_; intro K hK) | (with_reducible first | refine a_block ?_ | refine a_ret ?_ | refine a_exit ?_ | refine a_skip ?_ | exact ConfOk.mk (by kernel_rfl)) | ((fail_if_success with_reducible show False); with_reducible apply_assumption (exfalso := false) (symm := false) only [*, rfl, trivial, congrArg]) | with_reducible refine And.intro ?_ ?_ | (intro h; contradiction) | (intro h; subst h) | intro h | ((try (with_reducible first | refine a_region (by kernel_rfl) ?_ | (refine a_draw mixed (by kernel_rfl) ?_; intro C hC) | (refine a_cond_k ?_; intro X Y hX hY) | refine RetOk.mk ?_)); simp (maxSteps := 10000000) (implicitDefEqProofs := false) only [go_sem, hW]))
    all_goals (exfalso; omega)
  · rw [show arI (a - b) = (0, 4) from if_neg h]
    have hq : a - b < -9223372036854775808 ∨ 9223372036854775807 < a - b := by unfold In64 at h; omega
    refine acalls_k Tryz.func278 rfl (by kernel_rfl) (congrArg Array.toList Tryz.results278) Tryz.ntmps278 ?_
    intro R hR
    simp only [st0, List.length_cons, List.length_nil, Nat.reduceAdd, Nat.reduceSub, List.replicate_succ, List.replicate_zero, List.cons_append, List.nil_append]
    repeat' (first | (with_reducible refine a_seq_k ?_; intro K hK) | (with_reducible first | refine a_block ?_ | refine a_ret ?_ | refine a_exit ?_ | refine a_skip ?_ | exact ConfOk.mk (by kernel_rfl)) | ((fail_if_success with_reducible show False); with_reducible apply_assumption (exfalso := false) (symm := false) only [*, rfl, trivial, congrArg]) | with_reducible refine And.intro ?_ ?_ | (intro h; contradiction) | (intro h; subst h) | intro h | ((try (with_reducible first | refine a_region (by kernel_rfl) ?_ | (refine a_draw mixed (by kernel_rfl) ?_; intro C hC) | (refine a_cond_k ?_; intro X Y hX hY) | refine RetOk.mk ?_)); simp (maxSteps := 10000000) (implicitDefEqProofs := false) only [go_sem]))
    all_goals (exfalso; omega)
theorem ref_Mul (a b : Int) (ha : In64 a) (hb : In64 b) : ACalls Tryz.prog 281 [.int .i64 a, .int .i64 b] (.tuple [.int .i64 (mulI a b).1, .int .i64 (mulI a b).2]) := by
  by_cases h0 : a = 0 ∨ b = 0
  · have e : mulI a b = (0, 0) := by
      unfold mulI
      rcases h0 with rfl | rfl
      · rw [Int.zero_mul]; rfl
      · rw [Int.mul_zero]; rfl
    rw [e]
    refine acalls_k Tryz.func281 rfl (by kernel_rfl) (congrArg Array.toList Tryz.results281) Tryz.ntmps281 ?_
    intro R hR
    simp only [st0, List.length_cons, List.length_nil, Nat.reduceAdd, Nat.reduceSub, List.replicate_succ, List.replicate_zero, List.cons_append, List.nil_append]
    repeat' (first | (with_reducible refine a_seq_k ?_; intro K hK) | (with_reducible first | refine a_block ?_ | refine a_ret ?_ | refine a_exit ?_ | refine a_skip ?_ | exact ConfOk.mk (by kernel_rfl)) | ((fail_if_success with_reducible show False); with_reducible apply_assumption (exfalso := false) (symm := false) only [*, rfl, trivial, congrArg]) | with_reducible refine And.intro ?_ ?_ | (intro h; contradiction) | (intro h; subst h) | intro h | ((try (with_reducible first | refine a_region (by kernel_rfl) ?_ | (refine a_draw mixed (by kernel_rfl) ?_; intro C hC) | (refine a_cond_k ?_; intro X Y hX hY) | refine RetOk.mk ?_)); simp (maxSteps := 10000000) (implicitDefEqProofs := false) only [go_sem]))
    all_goals (exfalso; omega)
  · by_cases h1 : (a = -9223372036854775808 ∧ b = -1) ∨ (a = -1 ∧ b = -9223372036854775808)
    · have e : mulI a b = (0, 4) := by
        rcases h1 with ⟨rfl, rfl⟩ | ⟨rfl, rfl⟩ <;> rfl
      rw [e]
      refine acalls_k Tryz.func281 rfl (by kernel_rfl) (congrArg Array.toList Tryz.results281) Tryz.ntmps281 ?_
      intro R hR
      simp only [st0, List.length_cons, List.length_nil, Nat.reduceAdd, Nat.reduceSub, List.replicate_succ, List.replicate_zero, List.cons_append, List.nil_append]
      repeat' (first | (with_reducible refine a_seq_k ?_; intro K hK) | (with_reducible first | refine a_block ?_ | refine a_ret ?_ | refine a_exit ?_ | refine a_skip ?_ | exact ConfOk.mk (by kernel_rfl)) | ((fail_if_success with_reducible show False); with_reducible apply_assumption (exfalso := false) (symm := false) only [*, rfl, trivial, congrArg]) | with_reducible refine And.intro ?_ ?_ | (intro h; contradiction) | (intro h; subst h) | intro h | ((try (with_reducible first | refine a_region (by kernel_rfl) ?_ | (refine a_draw mixed (by kernel_rfl) ?_; intro C hC) | (refine a_cond_k ?_; intro X Y hX hY) | refine RetOk.mk ?_)); simp (maxSteps := 10000000) (implicitDefEqProofs := false) only [go_sem]))
      all_goals (exfalso; omega)
    · have hm := mul_back ha hb (by omega) (by omega)
      have c2 := (wrap_i64 (a * b)).2.1
      by_cases h : In64 (a * b)
      · rw [show mulI a b = (a * b, 0) from if_pos h]
        have hW := c2 h
        rw [hW] at hm
        have hq := hm.2 h
        refine acalls_k Tryz.func281 rfl (by kernel_rfl) (congrArg Array.toList Tryz.results281) Tryz.ntmps281 ?_
        intro R hR
        simp only [st0, List.length_cons, List.length_nil, Nat.reduceAdd, Nat.reduceSub, List.replicate_succ, List.replicate_zero, List.cons_append, List.nil_append]
        repeat' (first | (with_reducible refine a_seq_k ?_; intro K hK) | (with_reducible first | refine a_block ?_ | refine a_ret ?_ | refine a_exit ?_ | refine a_skip ?_ | exact ConfOk.mk (by kernel_rfl)) | ((fail_if_success with_reducible show False); with_reducible apply_assumption (exfalso := false) (symm := false) only [*, rfl, trivial, congrArg]) | with_reducible refine And.intro ?_ ?_ | (intro h; contradiction) | (intro h; subst h) | intro h | ((try (with_reducible first | refine a_region (by kernel_rfl) ?_ | (refine a_draw mixed (by kernel_rfl) ?_; intro C hC) | (refine a_cond_k ?_; intro X Y hX hY) | refine RetOk.mk ?_)); simp (maxSteps := 10000000) (implicitDefEqProofs := false) only [go_sem, hW, hq]))
        all_goals (exfalso; omega)
      · rw [show mulI a b = (0, 4) from if_neg h]
        have hq : ¬ IntKind.wrap .i64 (Int.tdiv (IntKind.wrap .i64 (a * b)) b) = a := fun e => h (hm.1 e)
        refine acalls_k Tryz.func281 rfl (by kernel_rfl) (congrArg Array.toList Tryz.results281) Tryz.ntmps281 ?_
        intro R hR
        simp only [st0, List.length_cons, List.length_nil, Nat.reduceAdd, Nat.reduceSub, List.replicate_succ, List.replicate_zero, List.cons_append, List.nil_append]
        repeat' (first | (with_reducible refine a_seq_k ?_; intro K hK) | (with_reducible first | refine a_block ?_ | refine a_ret ?_ | refine a_exit ?_ | refine a_skip ?_ | exact ConfOk.mk (by kernel_rfl)) | ((fail_if_success with_reducible show False); with_reducible apply_assumption (exfalso := false) (symm := false) only [*, rfl, trivial, congrArg]) | with_reducible refine And.intro ?_ ?_ | (intro h; contradiction) | (intro h; subst h) | intro h | ((try (with_reducible first | refine a_region (by kernel_rfl) ?_ | (refine a_draw mixed (by kernel_rfl) ?_; intro C hC) | (refine a_cond_k ?_; intro X Y hX hY) | refine RetOk.mk ?_)); simp (maxSteps := 10000000) (implicitDefEqProofs := false) only [go_sem, hq]))
        all_goals (exfalso; omega)
theorem ref_Div (a b : Int) (ha : In64 a) (hb : In64 b) : ACalls Tryz.prog 329 [.int .i64 a, .int .i64 b] (.tuple [.int .i64 (divI a b).1, .int .i64 (divI a b).2]) := by
  by_cases h0 : b = 0
  · subst h0
    rw [show divI a 0 = (0, 3) from rfl]
    refine acalls_k Tryz.func329 rfl (by kernel_rfl) (congrArg Array.toList Tryz.results329) Tryz.ntmps329 ?_
    intro R hR
    simp only [st0, List.length_cons, List.length_nil, Nat.reduceAdd, Nat.reduceSub, List.replicate_succ, List.replicate_zero, List.cons_append, List.nil_append]
    repeat' (first | (with_reducible refine a_seq_k ?_; intro K hK) | (with_reducible first | refine a_block ?_ | refine a_ret ?_ | refine a_exit ?_ | refine a_skip ?_ | exact ConfOk.mk (by kernel_rfl)) | ((fail_if_success with_reducible show False); with_reducible apply_assumption (exfalso := false) (symm := false) only [*, rfl, trivial, congrArg]) | with_reducible refine And.intro ?_ ?_ | (intro h; contradiction) | (intro h; subst h) | intro h | ((try (with_reducible first | refine a_region (by kernel_rfl) ?_ | (refine a_draw mixed (by kernel_rfl) ?_; intro C hC) | (refine a_cond_k ?_; intro X Y hX hY) | refine RetOk.mk ?_)); simp (maxSteps := 10000000) (implicitDefEqProofs := false) only [go_sem]))
  · by_cases h1 : a = -9223372036854775808 ∧ b = -1
    · obtain ⟨rfl, rfl⟩ := h1
      rw [show divI (-9223372036854775808) (-1) = (0, 4) from rfl]
      refine acalls_k Tryz.func329 rfl (by kernel_rfl) (congrArg Array.toList Tryz.results329) Tryz.ntmps329 ?_
      intro R hR
      simp only [st0, List.length_cons, List.length_nil, Nat.reduceAdd, Nat.reduceSub, List.replicate_succ, List.replicate_zero, List.cons_append, List.nil_append]
      repeat' (first | (with_reducible refine a_seq_k ?_; intro K hK) | (with_reducible first | refine a_block ?_ | refine a_ret ?_ | refine a_exit ?_ | refine a_skip ?_ | exact ConfOk.mk (by kernel_rfl)) | ((fail_if_success with_reducible show False); with_reducible apply_assumption (exfalso := false) (symm := false) only [*, rfl, trivial, congrArg]) | with_reducible refine And.intro ?_ ?_ | (intro h; contradiction) | (intro h; subst h) | intro h | ((try (with_reducible first | refine a_region (by kernel_rfl) ?_ | (refine a_draw mixed (by kernel_rfl) ?_; intro C hC) | (refine a_cond_k ?_; intro X Y hX hY) | refine RetOk.mk ?_)); simp (maxSteps := 10000000) (implicitDefEqProofs := false) only [go_sem]))
    · have hq : In64 (Int.tdiv a b) := by
        by_cases h2 : b = -1
        · subst h2
          have : Int.tdiv a (-1) = -a := by simp [Int.tdiv_neg]
          rw [this]
          obtain ⟨a1, a2⟩ := ha
          constructor <;> omega
        · exact tdiv_in ha h0 h2
      rw [show divI a b = (Int.tdiv a b, 0) by rw [divI, if_neg h0, arI, if_pos hq]]
      have hW := (wrap_i64 (Int.tdiv a b)).2.1 hq
      refine acalls_k Tryz.func329 rfl (by kernel_rfl) (congrArg Array.toList Tryz.results329) Tryz.ntmps329 ?_
      intro R hR
      simp only [st0, List.length_cons, List.length_nil, Nat.reduceAdd, Nat.reduceSub, List.replicate_succ, List.replicate_zero, List.cons_append, List.nil_append]
      repeat' (first | (with_reducible refine a_seq_k ?_; intro K hK) | (with_reducible first | refine a_block ?_ | refine a_ret ?_ | refine a_exit ?_ | refine a_skip ?_ | exact ConfOk.mk (by kernel_rfl)) | ((fail_if_success with_reducible show False); with_reducible apply_assumption (exfalso := false) (symm := false) only [*, rfl, trivial, congrArg]) | with_reducible refine And.intro ?_ ?_ | (intro h; contradiction) | (intro h; subst h) | intro h | ((try (with_reducible first | refine a_region (by kernel_rfl) ?_ | (refine a_draw mixed (by kernel_rfl) ?_; intro C hC) | (refine a_cond_k ?_; intro X Y hX hY) | refine RetOk.mk ?_)); simp (maxSteps := 10000000) (implicitDefEqProofs := false) only [go_sem, h0, hW]))
      all_goals (exfalso; omega)
def wideL (v : Int) : List AV := [.int .i64 (v / 18446744073709551616), .int .u64 (v % 18446744073709551616)]
@[reducible] def wideA (v : Int) : AV := .agg (wideL v)
@[reducible] def Mid (v : Int) : Prop := -36893488147419103232 ≤ v ∧ v ≤ 36893488147419103232
theorem wrapI (n : Int) (h : -9223372036854775808 ≤ n ∧ n ≤ 9223372036854775807) : IntKind.wrap .i64 n = n := (wrap_i64 n).2.1 h
theorem shr63 (n : Int) (h : In64 n) : n.fdiv 9223372036854775808 = n / 18446744073709551616 := by
  obtain ⟨h1, h2⟩ := h
  rw [Int.fdiv_eq_ediv_of_nonneg n (by decide)]
  omega
theorem facts_widen (n : Int) (h : In64 n) : ACalls Tryz.prog 261 [.int .i64 n] (wideA n) := by
  have e := shr63 n h
  have e2 := wrap_u64 n
  refine acalls_k Tryz.func261 rfl (by kernel_rfl) (congrArg Array.toList Tryz.results261) Tryz.ntmps261 ?_
  intro R hR
  simp only [st0, List.length_cons, List.length_nil, Nat.reduceAdd, Nat.reduceSub, List.replicate_succ, List.replicate_zero, List.cons_append, List.nil_append]
  repeat' (first | (with_reducible refine a_seq_k ?_; intro K hK) | (with_reducible first | refine a_block ?_ | refine a_ret ?_ | refine a_exit ?_ | refine a_skip ?_ | exact ConfOk.mk (by kernel_rfl)) | ((fail_if_success with_reducible show False); with_reducible apply_assumption (exfalso := false) (symm := false) only [*, rfl, trivial, congrArg]) | with_reducible refine And.intro ?_ ?_ | (intro h; contradiction) | (intro h; subst h) | intro h | ((try (with_reducible first | refine a_region (by kernel_rfl) ?_ | (refine a_draw mixed (by kernel_rfl) ?_; intro C hC) | (refine a_cond_k ?_; intro X Y hX hY) | refine RetOk.mk ?_)); simp (maxSteps := 10000000) (implicitDefEqProofs := false) only [go_sem]))
  all_goals simp [wideL, e, e2]
theorem ext_add (x y : Nat) : extB Tryz.prog 340 [.int .u64 x, .int .u64 y, .int .u64 0] = some (.tuple [.int .u64 ((x + y) % 18446744073709551616 : Nat), .int .u64 ((x + y) / 18446744073709551616 : Nat)]) := by
  have hf : (Tryz.prog.funcs[340]?).map (fun fn => (fn.name, fn.body.isNone, fn.origin)) = some ("math/bits.Add64", true, "") := by kernel_rfl
  unfold extB
  split
  · rename_i fn hfn
    rw [hfn] at hf
    simp only [Option.map_some, Option.some.injEq, Prod.mk.injEq] at hf
    rw [if_pos ⟨hf.2.1, hf.2.2⟩, hf.1]
    simp
  · rename_i hfn; rw [hfn] at hf; cases hf
theorem ext_sub (x y : Nat) : extB Tryz.prog 339 [.int .u64 x, .int .u64 y, .int .u64 0] = some (.tuple [.int .u64 ((x + 18446744073709551616 - y) % 18446744073709551616 : Nat), .int .u64 ((if x < y then 1 else 0 : Nat) : Int)]) := by
  have hf : (Tryz.prog.funcs[339]?).map (fun fn => (fn.name, fn.body.isNone, fn.origin)) = some ("math/bits.Sub64", true, "") := by kernel_rfl
  unfold extB
  split
  · rename_i fn hfn
    rw [hfn] at hf
    simp only [Option.map_some, Option.some.injEq, Prod.mk.injEq] at hf
    rw [if_pos ⟨hf.2.1, hf.2.2⟩, hf.1]
    simp
  · rename_i hfn; rw [hfn] at hf; cases hf
theorem loNat (v : Int) : v % 18446744073709551616 = ((v % 18446744073709551616).toNat : Int) := by omega
theorem facts_plus (a b : Int) (ha : Mid a) (hb : Mid b) : ACalls Tryz.prog 295 [wideA a, wideA b] (wideA (a + b)) := by
  obtain ⟨a1, a2⟩ := ha
  obtain ⟨b1, b2⟩ := hb
  have hx := ext_add (a % 18446744073709551616).toNat (b % 18446744073709551616).toNat
  rw [← loNat, ← loNat] at hx
  have hc := wrapI ((((a % 18446744073709551616).toNat + (b % 18446744073709551616).toNat) / 18446744073709551616 : Nat) : Int) (by omega)
  have h1 := wrapI (a / 18446744073709551616 + b / 18446744073709551616) (by omega)
  have h2 := wrapI (a / 18446744073709551616 + b / 18446744073709551616 + ((((a % 18446744073709551616).toNat + (b % 18446744073709551616).toNat) / 18446744073709551616 : Nat) : Int)) (by omega)
  have e1 : a / 18446744073709551616 + b / 18446744073709551616 + ((((a % 18446744073709551616).toNat + (b % 18446744073709551616).toNat) / 18446744073709551616 : Nat) : Int) = (a + b) / 18446744073709551616 := by omega
  have e2 : ((((a % 18446744073709551616).toNat + (b % 18446744073709551616).toNat) % 18446744073709551616 : Nat) : Int) = (a + b) % 18446744073709551616 := by omega
  have h3 := wrapI ((a + b) / 18446744073709551616) (by omega)
  clear a1 a2 b1 b2
  refine acalls_k Tryz.func295 rfl (by kernel_rfl) (congrArg Array.toList Tryz.results295) Tryz.ntmps295 ?_
  intro R hR
  simp only [st0, List.length_cons, List.length_nil, Nat.reduceAdd, Nat.reduceSub, List.replicate_succ, List.replicate_zero, List.cons_append, List.nil_append]
  repeat' (first | (with_reducible refine a_seq_k ?_; intro K hK) | (with_reducible first | refine a_block ?_ | refine a_ret ?_ | refine a_exit ?_ | refine a_skip ?_ | exact ConfOk.mk (by kernel_rfl)) | ((fail_if_success with_reducible show False); with_reducible apply_assumption (exfalso := false) (symm := false) only [*, rfl, trivial, congrArg]) | with_reducible refine And.intro ?_ ?_ | (intro h; contradiction) | (intro h; subst h) | intro h | ((try (with_reducible first | refine a_region (by kernel_rfl) ?_ | (refine a_draw mixed (by kernel_rfl) ?_; intro C hC) | (refine a_cond_k ?_; intro X Y hX hY) | refine RetOk.mk ?_ | refine CallS.ext (hx) ?_ | refine CallD.ext (hx) ?_)); simp (maxSteps := 10000000) (implicitDefEqProofs := false) only [go_sem, wideL, hc, h1, e1, e2, h3]))
theorem facts_minus (a : Int) (ha : Mid a) : ACalls Tryz.prog 294 [wideA a] (wideA (-a)) := by
  obtain ⟨a1, a2⟩ := ha
  have hx := ext_sub 0 (a % 18446744073709551616).toNat
  rw [← loNat, show ((0 : Nat) : Int) = 0 from rfl] at hx
  have hc := wrapI ((if 0 < (a % 18446744073709551616).toNat then 1 else 0 : Nat) : Int) (by split <;> omega)
  have h1 := wrapI (0 - a / 18446744073709551616) (by omega)
  have h2 := wrapI (0 - a / 18446744073709551616 - ((if 0 < (a % 18446744073709551616).toNat then 1 else 0 : Nat) : Int)) (by split <;> omega)
  have e1 : 0 - a / 18446744073709551616 - ((if 0 < (a % 18446744073709551616).toNat then 1 else 0 : Nat) : Int) = (-a) / 18446744073709551616 := by split <;> omega
  have e2 : (((0 + 18446744073709551616 - (a % 18446744073709551616).toNat) % 18446744073709551616 : Nat) : Int) = (-a) % 18446744073709551616 := by omega
  generalize ((if 0 < (a % 18446744073709551616).toNat then 1 else 0 : Nat) : Int) = z at *
  have h3 := wrapI ((-a) / 18446744073709551616) (by omega)
  clear a1 a2
  refine acalls_k Tryz.func294 rfl (by kernel_rfl) (congrArg Array.toList Tryz.results294) Tryz.ntmps294 ?_
  intro R hR
  simp only [st0, List.length_cons, List.length_nil, Nat.reduceAdd, Nat.reduceSub, List.replicate_succ, List.replicate_zero, List.cons_append, List.nil_append]
  repeat' (first | (with_reducible refine a_seq_k ?_; intro K hK) | (with_reducible first | refine a_block ?_ | refine a_ret ?_ | refine a_exit ?_ | refine a_skip ?_ | exact ConfOk.mk (by kernel_rfl)) | ((fail_if_success with_reducible show False); with_reducible apply_assumption (exfalso := false) (symm := false) only [*, rfl, trivial, congrArg]) | with_reducible refine And.intro ?_ ?_ | (intro h; contradiction) | (intro h; subst h) | intro h | ((try (with_reducible first | refine a_region (by kernel_rfl) ?_ | (refine a_draw mixed (by kernel_rfl) ?_; intro C hC) | (refine a_cond_k ?_; intro X Y hX hY) | refine RetOk.mk ?_ | refine CallS.ext (hx) ?_ | refine CallD.ext (hx) ?_)); simp (maxSteps := 10000000) (implicitDefEqProofs := false) only [go_sem, wideL, hc, h1, e1, e2, h3]))
theorem facts_less (a b : Int) : ACalls Tryz.prog 319 [wideA a, wideA b] (.bool (decide (a < b))) := by
  have e : decide (a < b) = (decide (a / 18446744073709551616 < b / 18446744073709551616) || (decide (a / 18446744073709551616 = b / 18446744073709551616) && decide (a % 18446744073709551616 < b % 18446744073709551616))) := by
    rw [Bool.eq_iff_iff]; simp only [decide_eq_true_eq, Bool.or_eq_true, Bool.and_eq_true]; omega
  rw [e]
  unfold wideA wideL
  generalize a / 18446744073709551616 = a1
  generalize a % 18446744073709551616 = a2
  generalize b / 18446744073709551616 = b1
  generalize b % 18446744073709551616 = b2
  refine acalls_k Tryz.func319 rfl (by kernel_rfl) (congrArg Array.toList Tryz.results319) Tryz.ntmps319 ?_
  intro R hR
  simp only [st0, List.length_cons, List.length_nil, Nat.reduceAdd, Nat.reduceSub, List.replicate_succ, List.replicate_zero, List.cons_append, List.nil_append]
  repeat' (first | (with_reducible refine a_seq_k ?_; intro K hK) | (with_reducible first | refine a_block ?_ | refine a_ret ?_ | refine a_exit ?_ | refine a_skip ?_ | exact ConfOk.mk (by kernel_rfl)) | ((fail_if_success with_reducible show False); with_reducible apply_assumption (exfalso := false) (symm := false) only [*, rfl, trivial, congrArg]) | with_reducible refine And.intro ?_ ?_ | (intro h; contradiction) | (intro h; subst h) | intro h | ((try (with_reducible first | refine a_region (by kernel_rfl) ?_ | (refine a_draw mixed (by kernel_rfl) ?_; intro C hC) | (refine a_cond_k ?_; intro X Y hX hY) | refine RetOk.mk ?_)); simp (maxSteps := 10000000) (implicitDefEqProofs := false) only [go_sem]))
  all_goals simp [*]
theorem facts_product (a b : Int) (ha : In64 a) (hb : In64 b) : ACalls Tryz.prog 296 [.int .i64 a, .int .i64 b] (wideA (a * b)) := by
  have hm := mul_mag ha hb
  have hs := mul_sign a b
  obtain ⟨a1, a2⟩ := ha
  obtain ⟨b1, b2⟩ := hb
  have hx := bits_Mul64 (a % 18446744073709551616).toNat (b % 18446744073709551616).toNat (by omega) (by omega)
  rw [← loNat, ← loNat] at hx
  -- the exact product, by residues
  have key : ∀ h l : Int, h = ((((a % 18446744073709551616).toNat * (b % 18446744073709551616).toNat) / 18446744073709551616 : Nat) : Int) → l = ((((a % 18446744073709551616).toNat * (b % 18446744073709551616).toNat) % 18446744073709551616 : Nat) : Int) →
      l = (a * b) % 18446744073709551616 ∧ (h - (if a < 0 then b else 0) - (if b < 0 then a else 0) - (a * b) / 18446744073709551616) % 18446744073709551616 = 0 := by
    intro h l eh el
    have e1 : (((a % 18446744073709551616).toNat * (b % 18446744073709551616).toNat : Nat) : Int) = (if a < 0 then a + 18446744073709551616 else a) * (if b < 0 then b + 18446744073709551616 else b) := by
      rw [Int.natCast_mul]
      congr 1 <;> (split <;> omega)
    have e2 : (if a < 0 then a + 18446744073709551616 else a) * (if b < 0 then b + 18446744073709551616 else b) = a * b + 18446744073709551616 * ((if a < 0 then b else 0) + (if b < 0 then a else 0) + (if a < 0 ∧ b < 0 then 18446744073709551616 else 0)) := by
      by_cases h1 : a < 0 <;> by_cases h2 : b < 0 <;> simp only [h1, h2, if_true, if_false, and_self, and_true, true_and, and_false, false_and] <;> simp only [Int.add_mul, Int.mul_add] <;> omega
    rw [e2] at e1
    generalize (a % 18446744073709551616).toNat * (b % 18446744073709551616).toNat = N at *
    generalize a * b = p at *
    subst eh el
    by_cases h1 : a < 0 <;> by_cases h2 : b < 0 <;> simp only [h1, h2, if_true, if_false, and_self, and_true, true_and, and_false, false_and] at e1 ⊢ <;> omega
  generalize ((((a % 18446744073709551616).toNat * (b % 18446744073709551616).toNat) / 18446744073709551616 : Nat) : Int) = h at *
  generalize ((((a % 18446744073709551616).toNat * (b % 18446744073709551616).toNat) % 18446744073709551616 : Nat) : Int) = l at *
  obtain ⟨k1, k2⟩ := key h l rfl rfl
  have hp : In64 ((a * b) / 18446744073709551616) := by
    have : (a * b) ≤ 85070591730234615865843651857942052864 ∧ -85070591730234615865843651857942052864 ≤ a * b := by rw [hs]; split <;> omega
    constructor <;> omega
  have w1 := wrap_u64 a
  have w2 := wrap_u64 b
  have fin : ∀ z : Int, (z - (a * b) / 18446744073709551616) % 18446744073709551616 = 0 → IntKind.wrap .i64 z = (a * b) / 18446744073709551616 := by
    intro z hz
    obtain ⟨q1, _, q3⟩ := wrap_i64 z
    obtain ⟨p1, p2⟩ := hp
    obtain ⟨q4, q5⟩ := q1
    omega
  have v := wrap_u64
  clear hm hs key hp
  refine acalls_k Tryz.func296 rfl (by kernel_rfl) (congrArg Array.toList Tryz.results296) Tryz.ntmps296 ?_
  intro R hR
  simp only [st0, List.length_cons, List.length_nil, Nat.reduceAdd, Nat.reduceSub, List.replicate_succ, List.replicate_zero, List.cons_append, List.nil_append]
  repeat' (first | (with_reducible refine a_seq_k ?_; intro K hK) | (with_reducible first | refine a_block ?_ | refine a_ret ?_ | refine a_exit ?_ | refine a_skip ?_ | exact ConfOk.mk (by kernel_rfl)) | ((fail_if_success with_reducible show False); with_reducible apply_assumption (exfalso := false) (symm := false) only [*, rfl, trivial, congrArg]) | with_reducible refine And.intro ?_ ?_ | (intro h; contradiction) | (intro h; subst h) | intro h | ((try (with_reducible first | refine a_region (by kernel_rfl) ?_ | (refine a_draw mixed (by kernel_rfl) ?_; intro C hC) | (refine a_cond_k ?_; intro X Y hX hY) | refine RetOk.mk ?_ | refine CallS.intro (hx) ?_ | refine CallD.intro (hx) ?_)); simp (maxSteps := 10000000) (implicitDefEqProofs := false) only [go_sem, v]))
  all_goals
    subst k1
    simp only [wideL, AV.agg.injEq, List.cons.injEq, AV.int.injEq, true_and, and_true]
    refine fin _ ?_
    simp only [*, if_true, if_false] at k2
    omega
theorem facts_quotient (a b : Int) (ha : In64 a) (hb : In64 b) (h0 : b ≠ 0) : ACalls Tryz.prog 342 [.int .i64 a, .int .i64 b] (wideA (Int.tdiv a b)) := by
  by_cases h1 : b = -1
  · subst h1
    rw [show Int.tdiv a (-1) = -a by simp [Int.tdiv_neg]]
    have w1 := facts_widen a ha
    have w2 := facts_minus a (by obtain ⟨a1, a2⟩ := ha; constructor <;> omega)
    simp only [wideA, wideL] at w1 w2
    refine acalls_k Tryz.func342 rfl (by kernel_rfl) (congrArg Array.toList Tryz.results342) Tryz.ntmps342 ?_
    intro R hR
    simp only [st0, List.length_cons, List.length_nil, Nat.reduceAdd, Nat.reduceSub, List.replicate_succ, List.replicate_zero, List.cons_append, List.nil_append]
    repeat' (first | (with_reducible refine a_seq_k ?_; intro K hK) | (with_reducible first | refine a_block ?_ | refine a_ret ?_ | refine a_exit ?_ | refine a_skip ?_ | exact ConfOk.mk (by kernel_rfl)) | ((fail_if_success with_reducible show False); with_reducible apply_assumption (exfalso := false) (symm := false) only [*, rfl, trivial, congrArg]) | with_reducible refine And.intro ?_ ?_ | (intro h; contradiction) | (intro h; subst h) | intro h | ((try (with_reducible first | refine a_region (by kernel_rfl) ?_ | (refine a_draw mixed (by kernel_rfl) ?_; intro C hC) | (refine a_cond_k ?_; intro X Y hX hY) | refine RetOk.mk ?_ | refine CallS.intro (w1) ?_ | refine CallD.intro (w1) ?_ | refine CallS.intro (w2) ?_ | refine CallD.intro (w2) ?_)); simp (maxSteps := 10000000) (implicitDefEqProofs := false) only [go_sem, wideL]))
  · have hq := tdiv_in ha h0 h1
    have w1 := facts_widen (Int.tdiv a b) hq
    have w2 := wrapI (Int.tdiv a b) hq
    simp only [wideA, wideL] at w1
    clear hq
    refine acalls_k Tryz.func342 rfl (by kernel_rfl) (congrArg Array.toList Tryz.results342) Tryz.ntmps342 ?_
    intro R hR
    simp only [st0, List.length_cons, List.length_nil, Nat.reduceAdd, Nat.reduceSub, List.replicate_succ, List.replicate_zero, List.cons_append, List.nil_append]
    repeat' (first | (with_reducible refine a_seq_k ?_; intro K hK) | (with_reducible first | refine a_block ?_ | refine a_ret ?_ | refine a_exit ?_ | refine a_skip ?_ | exact ConfOk.mk (by kernel_rfl)) | ((fail_if_success with_reducible show False); with_reducible apply_assumption (exfalso := false) (symm := false) only [*, rfl, trivial, congrArg]) | with_reducible refine And.intro ?_ ?_ | (intro h; contradiction) | (intro h; subst h) | intro h | ((try (with_reducible first | refine a_region (by kernel_rfl) ?_ | (refine a_draw mixed (by kernel_rfl) ?_; intro C hC) | (refine a_cond_k ?_; intro X Y hX hY) | refine RetOk.mk ?_ | refine CallS.intro (w1) ?_ | refine CallD.intro (w1) ?_)); simp (maxSteps := 10000000) (implicitDefEqProofs := false) only [go_sem, wideL, h0, h1, w2]))
@[reducible] def InI (n : Int) : Prop := -9223372036854775808 ≤ n ∧ n ≤ 9223372036854775807
@[reducible] def dA (d : Dom) : AV := .agg d.enc
theorem ref_ValidDomain (d : Dom) : ACalls Tryz.prog 22 [dA d] (.bool (okD d)) := by
  obtain ⟨k, n, f, s, lo, hi⟩ := d
  refine acalls_k Tryz.func22 rfl (by kernel_rfl) (congrArg Array.toList Tryz.results22) Tryz.ntmps22 ?_
  intro R hR
  simp only [st0, List.length_cons, List.length_nil, Nat.reduceAdd, Nat.reduceSub, List.replicate_succ, List.replicate_zero, List.cons_append, List.nil_append]
  repeat' (first | (with_reducible refine a_seq_k ?_; intro K hK) | (with_reducible first | refine a_block ?_ | refine a_ret ?_ | refine a_exit ?_ | refine a_skip ?_ | exact ConfOk.mk (by kernel_rfl)) | ((fail_if_success with_reducible show False); with_reducible apply_assumption (exfalso := false) (symm := false) only [*, rfl, trivial, congrArg]) | with_reducible refine And.intro ?_ ?_ | (intro h; contradiction) | (intro h; subst h) | intro h | ((try (with_reducible first | refine a_region (by kernel_rfl) ?_ | (refine a_draw mixed (by kernel_rfl) ?_; intro C hC) | (refine a_cond_k ?_; intro X Y hX hY) | refine RetOk.mk ?_)); simp (maxSteps := 10000000) (implicitDefEqProofs := false) only [go_sem, Dom.enc]))
  all_goals simp [okD, *]
theorem facts_valid (d : Dom) : ACalls Tryz.prog 74 [dA d] (.bool (okDC d)) := by
  obtain ⟨k, n, f, s, lo, hi⟩ := d
  refine acalls_k Tryz.func74 rfl (by kernel_rfl) (congrArg Array.toList Tryz.results74) Tryz.ntmps74 ?_
  intro R hR
  simp only [st0, List.length_cons, List.length_nil, Nat.reduceAdd, Nat.reduceSub, List.replicate_succ, List.replicate_zero, List.cons_append, List.nil_append]
  repeat' (first | (with_reducible refine a_seq_k ?_; intro K hK) | (with_reducible first | refine a_block ?_ | refine a_ret ?_ | refine a_exit ?_ | refine a_skip ?_ | exact ConfOk.mk (by kernel_rfl)) | ((fail_if_success with_reducible show False); with_reducible apply_assumption (exfalso := false) (symm := false) only [*, rfl, trivial, congrArg]) | with_reducible refine And.intro ?_ ?_ | (intro h; contradiction) | (intro h; subst h) | intro h | ((try (with_reducible first | refine a_region (by kernel_rfl) ?_ | (refine a_draw mixed (by kernel_rfl) ?_; intro C hC) | (refine a_cond_k ?_; intro X Y hX hY) | refine RetOk.mk ?_)); simp (maxSteps := 10000000) (implicitDefEqProofs := false) only [go_sem, Dom.enc]))
  all_goals simp [okDC, *]
theorem facts_Valid (d : Dom) : ACalls Tryz.prog 34 [dA d] (.bool (okDC d)) := by
  have h := facts_valid d
  simp only [dA, Dom.enc] at h
  refine acalls_k Tryz.func34 rfl (by kernel_rfl) (congrArg Array.toList Tryz.results34) Tryz.ntmps34 ?_
  intro R hR
  simp only [st0, List.length_cons, List.length_nil, Nat.reduceAdd, Nat.reduceSub, List.replicate_succ, List.replicate_zero, List.cons_append, List.nil_append]
  repeat' (first | (with_reducible refine a_seq_k ?_; intro K hK) | (with_reducible first | refine a_block ?_ | refine a_ret ?_ | refine a_exit ?_ | refine a_skip ?_ | exact ConfOk.mk (by kernel_rfl)) | ((fail_if_success with_reducible show False); with_reducible apply_assumption (exfalso := false) (symm := false) only [*, rfl, trivial, congrArg]) | with_reducible refine And.intro ?_ ?_ | (intro h; contradiction) | (intro h; subst h) | intro h | ((try (with_reducible first | refine a_region (by kernel_rfl) ?_ | (refine a_draw mixed (by kernel_rfl) ?_; intro C hC) | (refine a_cond_k ?_; intro X Y hX hY) | refine RetOk.mk ?_ | refine CallS.intro (h) ?_ | refine CallD.intro (h) ?_)); simp (maxSteps := 10000000) (implicitDefEqProofs := false) only [go_sem, Dom.enc]))
def meas (v : Val) : Int := if v.kind = 2 then (v.text.size : Int) else v.int
theorem ref_measure (v : Val) : ACalls Tryz.prog 54 [.agg v.enc] (.int .i64 (meas v)) := by
  refine acalls_k Tryz.func54 rfl (by kernel_rfl) (congrArg Array.toList Tryz.results54) Tryz.ntmps54 ?_
  intro R hR
  simp only [st0, List.length_cons, List.length_nil, Nat.reduceAdd, Nat.reduceSub, List.replicate_succ, List.replicate_zero, List.cons_append, List.nil_append]
  repeat' (first | (with_reducible refine a_seq_k ?_; intro K hK) | (with_reducible first | refine a_block ?_ | refine a_ret ?_ | refine a_exit ?_ | refine a_skip ?_ | exact ConfOk.mk (by kernel_rfl)) | ((fail_if_success with_reducible show False); with_reducible apply_assumption (exfalso := false) (symm := false) only [*, rfl, trivial, congrArg]) | with_reducible refine And.intro ?_ ?_ | (intro h; contradiction) | (intro h; subst h) | intro h | ((try (with_reducible first | refine a_region (by kernel_rfl) ?_ | (refine a_draw mixed (by kernel_rfl) ?_; intro C hC) | (refine a_cond_k ?_; intro X Y hX hY) | refine RetOk.mk ?_)); simp (maxSteps := 10000000) (implicitDefEqProofs := false) only [go_sem, Val.enc]))
  all_goals simp [meas, *]
def single (v : Val) : Dom := if v.kind = 0 then ⟨0, true, false, false, 0, 0⟩ else ⟨v.kind, false, false, true, meas v, meas v⟩
theorem facts_measured (v : Val) : ACalls Tryz.prog 86 [.agg v.enc] (dA (single v)) := by
  refine acalls_k Tryz.func86 rfl (by kernel_rfl) (congrArg Array.toList Tryz.results86) Tryz.ntmps86 ?_
  intro R hR
  simp only [st0, List.length_cons, List.length_nil, Nat.reduceAdd, Nat.reduceSub, List.replicate_succ, List.replicate_zero, List.cons_append, List.nil_append]
  repeat' (first | (with_reducible refine a_seq_k ?_; intro K hK) | (with_reducible first | refine a_block ?_ | refine a_ret ?_ | refine a_exit ?_ | refine a_skip ?_ | exact ConfOk.mk (by kernel_rfl)) | ((fail_if_success with_reducible show False); with_reducible apply_assumption (exfalso := false) (symm := false) only [*, rfl, trivial, congrArg]) | with_reducible refine And.intro ?_ ?_ | (intro h; contradiction) | (intro h; subst h) | intro h | ((try (with_reducible first | refine a_region (by kernel_rfl) ?_ | (refine a_draw mixed (by kernel_rfl) ?_; intro C hC) | (refine a_cond_k ?_; intro X Y hX hY) | refine RetOk.mk ?_)); simp (maxSteps := 10000000) (implicitDefEqProofs := false) only [go_sem, Val.enc]))
  all_goals simp [single, meas, Dom.enc, *]
def liesD (o : Outv) (d : Dom) : Bool :=
  if oOk o.v.kind o.v.int o.v.text o.err = false ∨ okD d = false then false
  else if o.err ≠ 0 then d.fail else if o.v.kind = 0 then d.null
  else d.some && (decide (o.v.kind = d.kind) && (decide (d.lo ≤ meas o.v) && decide (meas o.v ≤ d.hi)))
theorem okC_kind {o : Outv} (h : okC o = true) : (o.v.kind = 0 ∨ o.v.kind = 1 ∨ o.v.kind = 2 ∨ o.v.kind = 3) ∧ o.err ≠ 1 := by
  simp only [okC, oOkC, Bool.or_eq_true, Bool.and_eq_true, decide_eq_true_eq, zeroV] at h
  rcases h with ⟨h1, h2⟩ | ⟨h1, h2⟩
  · refine ⟨?_, by omega⟩
    simp only [vOkC] at h2
    by_cases a : o.v.kind = 0
    · exact .inl a
    · by_cases b : o.v.kind = 1
      · exact .inr (.inl b)
      · by_cases c : o.v.kind = 2
        · exact .inr (.inr (.inl c))
        · by_cases d : o.v.kind = 3
          · exact .inr (.inr (.inr d))
          · simp [a, b, c, d] at h2
  · refine ⟨.inl h2.1, fun e => ?_⟩
    rw [e] at h1
    exact absurd h1 (by decide)
def liesC (o : Outv) (d : Dom) : Bool :=
  if okC o = false ∨ okDC d = false then false
  else if o.err ≠ 0 then d.fail else if (single o.v).null = true then d.null
  else d.some && (decide ((single o.v).kind = d.kind) && (decide (d.lo ≤ (single o.v).lo) && decide ((single o.v).hi ≤ d.hi)))
theorem facts_mayBe (d : Dom) (b : Int) : ACalls Tryz.prog 94 [dA d, .int .i64 b] (.bool (mayBe d b)) := by
  obtain ⟨k, n, f, s, lo, hi⟩ := d
  refine acalls_k Tryz.func94 rfl (by kernel_rfl) (congrArg Array.toList Tryz.results94) Tryz.ntmps94 ?_
  intro R hR
  simp only [st0, List.length_cons, List.length_nil, Nat.reduceAdd, Nat.reduceSub, List.replicate_succ, List.replicate_zero, List.cons_append, List.nil_append]
  repeat' (first | (with_reducible refine a_seq_k ?_; intro K hK) | (with_reducible first | refine a_block ?_ | refine a_ret ?_ | refine a_exit ?_ | refine a_skip ?_ | exact ConfOk.mk (by kernel_rfl)) | ((fail_if_success with_reducible show False); with_reducible apply_assumption (exfalso := false) (symm := false) only [*, rfl, trivial, congrArg]) | with_reducible refine And.intro ?_ ?_ | (intro h; contradiction) | (intro h; subst h) | intro h | ((try (with_reducible first | refine a_region (by kernel_rfl) ?_ | (refine a_draw mixed (by kernel_rfl) ?_; intro C hC) | (refine a_cond_k ?_; intro X Y hX hY) | refine RetOk.mk ?_)); simp (maxSteps := 10000000) (implicitDefEqProofs := false) only [go_sem, Dom.enc]))
  all_goals simp [mayBe, *]
theorem facts_empty (d : Dom) : ACalls Tryz.prog 91 [dA d] (.bool (emptyD d)) := by
  obtain ⟨k, n, f, s, lo, hi⟩ := d
  refine acalls_k Tryz.func91 rfl (by kernel_rfl) (congrArg Array.toList Tryz.results91) Tryz.ntmps91 ?_
  intro R hR
  simp only [st0, List.length_cons, List.length_nil, Nat.reduceAdd, Nat.reduceSub, List.replicate_succ, List.replicate_zero, List.cons_append, List.nil_append]
  repeat' (first | (with_reducible refine a_seq_k ?_; intro K hK) | (with_reducible first | refine a_block ?_ | refine a_ret ?_ | refine a_exit ?_ | refine a_skip ?_ | exact ConfOk.mk (by kernel_rfl)) | ((fail_if_success with_reducible show False); with_reducible apply_assumption (exfalso := false) (symm := false) only [*, rfl, trivial, congrArg]) | with_reducible refine And.intro ?_ ?_ | (intro h; contradiction) | (intro h; subst h) | intro h | ((try (with_reducible first | refine a_region (by kernel_rfl) ?_ | (refine a_draw mixed (by kernel_rfl) ?_; intro C hC) | (refine a_cond_k ?_; intro X Y hX hY) | refine RetOk.mk ?_)); simp (maxSteps := 10000000) (implicitDefEqProofs := false) only [go_sem, Dom.enc]))
  all_goals simp [emptyD, *]
theorem facts_join (c d : Dom) : ACalls Tryz.prog 168 [dA c, dA d] (dA (joinC c d)) := by
  obtain ⟨k, n, f, s, lo, hi⟩ := c
  obtain ⟨k', n', f', s', lo', hi'⟩ := d
  cases s <;> cases s'
  all_goals
    refine acalls_k Tryz.func168 rfl (by kernel_rfl) (congrArg Array.toList Tryz.results168) Tryz.ntmps168 ?_
    intro R hR
    simp only [st0, List.length_cons, List.length_nil, Nat.reduceAdd, Nat.reduceSub, List.replicate_succ, List.replicate_zero, List.cons_append, List.nil_append]
    repeat' (first | (with_reducible refine a_seq_k ?_; intro K hK) | (with_reducible first | refine a_block ?_ | refine a_ret ?_ | refine a_exit ?_ | refine a_skip ?_ | exact ConfOk.mk (by kernel_rfl)) | ((fail_if_success with_reducible show False); with_reducible apply_assumption (exfalso := false) (symm := false) only [*, rfl, trivial, congrArg]) | with_reducible refine And.intro ?_ ?_ | (intro h; contradiction) | (intro h; subst h) | intro h | ((try (with_reducible first | refine a_region (by kernel_rfl) ?_ | (refine a_draw mixed (by kernel_rfl) ?_; intro C hC) | (refine a_cond_k ?_; intro X Y hX hY) | refine RetOk.mk ?_)); simp (maxSteps := 10000000) (implicitDefEqProofs := false) only [go_sem, Dom.enc]))
    all_goals simp [joinC, *]
theorem facts_truth (d : Dom) (y n : Bool) : ACalls Tryz.prog 90 [dA d, .bool y, .bool n] (dA (truthD d y n)) := by
  obtain ⟨k, n', f, s, lo, hi⟩ := d
  cases y <;> cases n
  all_goals
    refine acalls_k Tryz.func90 rfl (by kernel_rfl) (congrArg Array.toList Tryz.results90) Tryz.ntmps90 ?_
    intro R hR
    simp only [st0, List.length_cons, List.length_nil, Nat.reduceAdd, Nat.reduceSub, List.replicate_succ, List.replicate_zero, List.cons_append, List.nil_append]
    repeat' (first | (with_reducible refine a_seq_k ?_; intro K hK) | (with_reducible first | refine a_block ?_ | refine a_ret ?_ | refine a_exit ?_ | refine a_skip ?_ | exact ConfOk.mk (by kernel_rfl)) | ((fail_if_success with_reducible show False); with_reducible apply_assumption (exfalso := false) (symm := false) only [*, rfl, trivial, congrArg]) | with_reducible refine And.intro ?_ ?_ | (intro h; contradiction) | (intro h; subst h) | intro h | ((try (with_reducible first | refine a_region (by kernel_rfl) ?_ | (refine a_draw mixed (by kernel_rfl) ?_; intro C hC) | (refine a_cond_k ?_; intro X Y hX hY) | refine RetOk.mk ?_)); simp (maxSteps := 10000000) (implicitDefEqProofs := false) only [go_sem, Dom.enc, truthD]))
theorem facts_same (c d : Dom) : ACalls Tryz.prog 92 [dA c, dA d] (.tuple [.bool (sameC c d).1, .bool (sameC c d).2]) := by
  obtain ⟨k, n, f, s, lo, hi⟩ := c
  obtain ⟨k', n', f', s', lo', hi'⟩ := d
  refine acalls_k Tryz.func92 rfl (by kernel_rfl) (congrArg Array.toList Tryz.results92) Tryz.ntmps92 ?_
  intro R hR
  simp only [st0, List.length_cons, List.length_nil, Nat.reduceAdd, Nat.reduceSub, List.replicate_succ, List.replicate_zero, List.cons_append, List.nil_append]
  repeat' (first | (with_reducible refine a_seq_k ?_; intro K hK) | (with_reducible first | refine a_block ?_ | refine a_ret ?_ | refine a_exit ?_ | refine a_skip ?_ | exact ConfOk.mk (by kernel_rfl)) | ((fail_if_success with_reducible show False); with_reducible apply_assumption (exfalso := false) (symm := false) only [*, rfl, trivial, congrArg]) | with_reducible refine And.intro ?_ ?_ | (intro h; contradiction) | (intro h; subst h) | intro h | ((try (with_reducible first | refine a_region (by kernel_rfl) ?_ | (refine a_draw mixed (by kernel_rfl) ?_; intro C hC) | (refine a_cond_k ?_; intro X Y hX hY) | refine RetOk.mk ?_)); simp (maxSteps := 10000000) (implicitDefEqProofs := false) only [go_sem, Dom.enc]))
  all_goals simp [sameC, *]
theorem facts_before (c d : Dom) : ACalls Tryz.prog 343 [dA c, dA d] (.tuple [.bool (beforeD c d).1, .bool (beforeD c d).2]) := by
  obtain ⟨k, n, f, s, lo, hi⟩ := c
  obtain ⟨k', n', f', s', lo', hi'⟩ := d
  refine acalls_k Tryz.func343 rfl (by kernel_rfl) (congrArg Array.toList Tryz.results343) Tryz.ntmps343 ?_
  intro R hR
  simp only [st0, List.length_cons, List.length_nil, Nat.reduceAdd, Nat.reduceSub, List.replicate_succ, List.replicate_zero, List.cons_append, List.nil_append]
  repeat' (first | (with_reducible refine a_seq_k ?_; intro K hK) | (with_reducible first | refine a_block ?_ | refine a_ret ?_ | refine a_exit ?_ | refine a_skip ?_ | exact ConfOk.mk (by kernel_rfl)) | ((fail_if_success with_reducible show False); with_reducible apply_assumption (exfalso := false) (symm := false) only [*, rfl, trivial, congrArg]) | with_reducible refine And.intro ?_ ?_ | (intro h; contradiction) | (intro h; subst h) | intro h | ((try (with_reducible first | refine a_region (by kernel_rfl) ?_ | (refine a_draw mixed (by kernel_rfl) ?_; intro C hC) | (refine a_cond_k ?_; intro X Y hX hY) | refine RetOk.mk ?_)); simp (maxSteps := 10000000) (implicitDefEqProofs := false) only [go_sem, Dom.enc]))
  all_goals simp [beforeD, *]
theorem facts_compare (op : Int) (c d : Dom) : ACalls Tryz.prog 298 [.int .u8 op, dA c, dA d] (.tuple [.bool (cmpWith (sameC c d) op c d).1, .bool (cmpWith (sameC c d) op c d).2]) := by
  have h1 := facts_same c d
  have h2 := facts_before c d
  have h3 := facts_before d c
  obtain ⟨k, n, f, s, lo, hi⟩ := c
  obtain ⟨k', n', f', s', lo', hi'⟩ := d
  simp only [dA, Dom.enc] at h1 h2 h3
  unfold cmpWith
  generalize sameC _ _ = p1 at *
  generalize beforeD ⟨k, n, f, s, lo, hi⟩ _ = p2 at *
  generalize beforeD ⟨k', n', f', s', lo', hi'⟩ _ = p3 at *
  refine acalls_k Tryz.func298 rfl (by kernel_rfl) (congrArg Array.toList Tryz.results298) Tryz.ntmps298 ?_
  intro R hR
  simp only [st0, List.length_cons, List.length_nil, Nat.reduceAdd, Nat.reduceSub, List.replicate_succ, List.replicate_zero, List.cons_append, List.nil_append]
  repeat' (first | (with_reducible refine a_seq_k ?_; intro K hK) | (with_reducible first | refine a_block ?_ | refine a_ret ?_ | refine a_exit ?_ | refine a_skip ?_ | exact ConfOk.mk (by kernel_rfl)) | ((fail_if_success with_reducible show False); with_reducible apply_assumption (exfalso := false) (symm := false) only [*, rfl, trivial, congrArg]) | with_reducible refine And.intro ?_ ?_ | (intro h; contradiction) | (intro h; subst h) | intro h | ((try (with_reducible first | refine a_region (by kernel_rfl) ?_ | (refine a_draw mixed (by kernel_rfl) ?_; intro C hC) | (refine a_cond_k ?_; intro X Y hX hY) | refine RetOk.mk ?_ | refine CallS.intro (h1) ?_ | refine CallD.intro (h1) ?_ | refine CallS.intro (h2) ?_ | refine CallD.intro (h2) ?_ | refine CallS.intro (h3) ?_ | refine CallD.intro (h3) ?_)); simp (maxSteps := 10000000) (implicitDefEqProofs := false) only [go_sem, Dom.enc]))
  all_goals simp [*]
-- @enc(wideL, Dom.enc)@
theorem take_wide (vs : List Int) : List.take vs.length (vs.map wideL) = vs.map wideL := List.take_of_length_le (by simp)
theorem len_wide (vs : List Int) : (∀ y ∈ vs.map wideL, y.length = 2) = True := by simp [wideL]
theorem cvt64 (v : Int) (h : In64 v) : IntKind.wrap .i64 (v % 18446744073709551616) = v := by
  obtain ⟨_, _, h3⟩ := wrap_i64 (v % 18446744073709551616)
  obtain ⟨h4, h5⟩ := (wrap_i64 (v % 18446744073709551616)).1
  obtain ⟨h1, h2⟩ := h
  omega
theorem cvt64' (v : Int) (h1 : -9223372036854775808 ≤ v) (h2 : v ≤ 9223372036854775807) : IntKind.wrap .i64 (v % 18446744073709551616) = v := cvt64 v ⟨h1, h2⟩
@[reducible] def wides (vs : List Int) : AV := .slice (vs.map wideL)
theorem facts_interval (d : Dom) (v : Int) (vs : List Int) (hl : vs.length < 2 ^ 40) : ACalls Tryz.prog 293 [dA d, wides (v :: vs)] (dA (interD d v vs)) := by
  have wm := facts_widen mI (by decide)
  have wx := facts_widen xI (by decide)
  have hlt := facts_less
  simp only [wideA, wideL] at wm wx hlt
  unfold interD
  have hlen : (v :: vs).length < 2 ^ 41 := by simp; omega
  refine acalls_k Tryz.func293 rfl (by kernel_rfl) (congrArg Array.toList Tryz.results293) Tryz.ntmps293 ?_
  intro R hR
  simp only [st0, List.length_cons, List.length_nil, Nat.reduceAdd, Nat.reduceSub, List.replicate_succ, List.replicate_zero, List.cons_append, List.nil_append]
  repeat' (first | (with_reducible refine a_seq_k ?_; intro K hK) | (with_reducible first | refine a_block ?_ | refine a_ret ?_ | refine a_exit ?_ | refine a_skip ?_ | exact ConfOk.mk (by kernel_rfl)) | ((fail_if_success with_reducible show False); with_reducible apply_assumption (exfalso := false) (symm := false) only [*, rfl, trivial, congrArg]) | with_reducible refine And.intro ?_ ?_ | (intro h; contradiction) | (intro h; subst h) | intro h | ((try (with_reducible first | refine a_region (by kernel_rfl) ?_ | (refine a_draw mixed (by kernel_rfl) ?_; intro C hC) | (refine a_cond_k ?_; intro X Y hX hY) | refine RetOk.mk ?_)); simp (maxSteps := 10000000) (implicitDefEqProofs := false) only [go_sem, Option.map_none, List.mem_cons, forall_eq_or_imp, len_wide, take_wide, wideL]))
  any_goals omega
  refine a_loop_k (fun n st => ∃ (g : Nat) (pre rest : List _) (lo hi : Int), vs = pre ++ rest ∧ n = rest.length ∧ (minL lo rest = minL v vs ∧ maxL hi rest = maxL v vs) ∧ Has st 59 [(2, .ptr 2 0 0), (4, .ptr 4 0 0), (5, .ptr 5 1 0), (6, .ptr 6 1 0), (18, .slice (vs.map wideL)), (19, .int .i64 vs.length), (20, .int .i64 pre.length)] [(2, .box 0 d.enc), (4, .box 0 [.int .u8 0, .bool false, .bool false, .bool false, .int .i64 0, .int .i64 0]), (5, .box 1 (wideL lo)), (6, .box 1 (wideL hi))]) (vs).length ⟨0, [], vs, v, v, rfl, rfl, ⟨rfl, rfl⟩, ⟨rfl, rfl, by simp [wideL, Dom.enc], by simp [wideL, Dom.enc]⟩⟩ ?_
  rintro n st ⟨g, pre, rest, lo, hi, he, rfl, hp, hs⟩ K hK
  have hw := wrap_nat pre.length (by have := congrArg List.length he; simp at this; omega)
  subst he
  refine a_has hs fun τ σ γ => ?_
  rcases rest with _ | ⟨x, rest⟩
  · simp only [List.append_nil] at hp
    obtain ⟨rfl, rfl⟩ := hp
    repeat' (first | (with_reducible refine a_seq_k ?_; intro K hK) | (with_reducible first | refine a_block ?_ | refine a_ret ?_ | refine a_exit ?_ | refine a_skip ?_ | exact ConfOk.mk (by kernel_rfl)) | ((fail_if_success with_reducible show False); with_reducible apply_assumption (exfalso := false) (symm := false) only [*, rfl, trivial, congrArg]) | with_reducible refine And.intro ?_ ?_ | (intro h; contradiction) | (intro h; subst h) | intro h | ((try (with_reducible first | refine a_region (by kernel_rfl) ?_ | (refine a_draw mixed (by kernel_rfl) ?_; intro C hC) | (refine a_cond_k ?_; intro X Y hX hY) | refine RetOk.mk ?_ | refine CallS.intro (wm) ?_ | refine CallD.intro (wm) ?_ | refine CallS.intro (wx) ?_ | refine CallD.intro (wx) ?_ | refine CallS.intro (hlt _ _) ?_ | refine CallD.intro (hlt _ _) ?_)); simp (maxSteps := 10000000) (implicitDefEqProofs := false) only [go_sem, wideL, Dom.enc, hw]))
    all_goals
      clear hlt wm wx hs hK hw
      generalize minL v pre = lo at *
      generalize maxL v pre = hi at *
      simp only [mI, xI] at *
      simp (disch := omega) [spanD, cvt64', *] <;> (first | exact ⟨rfl, rfl⟩ | rfl)
  · obtain ⟨hp1, hp2⟩ := hp
    have e1 : minL (if x < lo then x else lo) rest = minL v (pre ++ x :: rest) := hp1
    have e2 : maxL (if hi < x then x else hi) rest = maxL v (pre ++ x :: rest) := hp2
    repeat' (first | (with_reducible refine a_seq_k ?_; intro K hK) | (with_reducible first | refine a_block ?_ | refine a_ret ?_ | refine a_exit ?_ | refine a_skip ?_ | exact ConfOk.mk (by kernel_rfl)) | ((fail_if_success with_reducible show False); with_reducible apply_assumption (exfalso := false) (symm := false) only [*, rfl, trivial, congrArg]) | with_reducible refine And.intro ?_ ?_ | (intro h; contradiction) | (intro h; subst h) | intro h | ((try (with_reducible first | refine a_region (by kernel_rfl) ?_ | (refine a_draw mixed (by kernel_rfl) ?_; intro C hC) | (refine a_cond_k ?_; intro X Y hX hY) | refine RetOk.mk ?_ | refine CallS.intro (hlt _ _) ?_ | refine CallD.intro (hlt _ _) ?_)); simp (maxSteps := 10000000) (implicitDefEqProofs := false) only [go_sem, wideL, hw]))
    · exact ⟨⟨rest.length, by simp, 0, pre ++ [x], rest, x, x, by simp, rfl, by simp_all, ⟨rfl, rfl, by simp [wideL, Dom.enc], by simp [wideL, Dom.enc]⟩⟩⟩
    · exact ⟨⟨rest.length, by simp, 0, pre ++ [x], rest, x, hi, by simp, rfl, by simp_all, ⟨rfl, rfl, by simp [wideL, Dom.enc], by simp [wideL, Dom.enc]⟩⟩⟩
    · exact ⟨⟨rest.length, by simp, 0, pre ++ [x], rest, lo, x, by simp, rfl, by simp_all, ⟨rfl, rfl, by simp [wideL, Dom.enc], by simp [wideL, Dom.enc]⟩⟩⟩
    · exact ⟨⟨rest.length, by simp, 0, pre ++ [x], rest, lo, hi, by simp, rfl, by simp_all, ⟨rfl, rfl, by simp [wideL, Dom.enc], by simp [wideL, Dom.enc]⟩⟩⟩
end Go.Proofs.YtoggbjfjmbjegaaGreatDoor
