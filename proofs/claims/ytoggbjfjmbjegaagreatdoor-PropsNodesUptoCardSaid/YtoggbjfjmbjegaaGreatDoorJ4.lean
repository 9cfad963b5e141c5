/- The kind of a node over columns in the program: algebra.checker.kind, algebra.Kind. -/
import Derived.Test.YtoggbjfjmbjegaaGreatDoorJB
import Derived.Test.YtoggbjfjmbjegaaGreatDoorPP
import Derived.Test.YtoggbjfjmbjegaaGreatDoorAb27
set_option linter.unusedSimpArgs false
set_option linter.unusedVariables false
set_option linter.unusedSimpArgs false
set_option linter.unusedVariables false
namespace Go.Proofs.YtoggbjfjmbjegaaGreatDoor
open Go Go.Ab
-- @enc(kd)@
attribute [local go_sem ↓] parts_tt parts_ff parts_tf parts_ft reduceIte
attribute [local go_sem] reduceCtorEq Nat.reduceAdd Nat.reduceSub Nat.reduceLeDiff Nat.reduceEqDiff Nat.reduceMul Nat.reduceLT Nat.reducePow Int.reduceEq Int.reduceLT Int.reduceLE Int.reduceGT Int.reduceGE Int.reduceAdd Int.reduceSub Int.reduceNeg Int.reduceToNat parts_eq learnT aops_nil aops_cons aopsD_nil aopsD_cons stepS stepD gval St.learn skipR St.after putτ applyUpd List.foldl_cons List.foldl_nil pureOp memOp callOf litA closeO closeK List.flatMap_cons List.flatMap_nil Option.map_none decide_false opnd ofConst leaf binA unA lenA indexA indexAddrA fieldAddrA fieldA weak_slice weak_nils weak_str weak_view weak_viewF weak_sliceF weak_ptr weak_cptr weak_rptr weak_sl weak_sl0 weak_any sliceFA_slice sliceFA_str sliceFA_view sliceFA_none sliceFA_some sameO sliceA convertA pickV fillA placeS cellsA setA partA loadM storeM appendM srcEls lookBox lookRow lookMap closeL closeV scalarB scalarL killed buildEls lookupA leafEq eqAll resA resL tupA retA thenA blockA isInt loA hiA foldA maxA minA okSize leafB closedB Res.foot List.getD_cons_zero List.getD_cons_succ List.set_cons_zero List.set_cons_succ List.map_cons List.map_nil List.append_nil List.nil_append List.cons_append List.length_cons List.length_nil List.take_succ_cons List.take_zero List.drop_succ_cons List.drop_zero List.take_nil List.drop_nil List.all_cons List.all_nil List.getElem?_toArray List.getElem?_cons_zero List.getElem?_cons_succ Option.bind_some Option.map_some true_and and_true true_implies ne_eq not_true_eq_false not_false_eq_true Bool.true_eq_false Bool.false_eq_true Bool.not_true Bool.not_false decide_eq_true_eq decide_eq_false_iff_not false_implies implies_true and_self ite_true ite_false cond_true cond_false Option.some.injEq List.reverse_cons List.reverse_nil Bool.and_self Bool.true_and Bool.and_true Bool.false_and Bool.and_false Bool.or_true Bool.true_or Bool.or_false Bool.false_or Bool.not_eq_eq_eq_not Bool.not_not Bool.or_self beq_self_eq_true and_false false_and or_true true_or or_false false_or not_true not_false_iff Decidable.not_not lookT lookR tabT tabR Int.toNat_natCast List.length_map List.map_append List.length_append decide_true decide_false tmod2 List.mem_singleton forall_eq elOk1 elOk3 elOk4 castn0 castn1 castn2 castn3 getD_mid getD_mid_map at_lt at_end mid_lt mid_lt' nat_ge List.size_toArray Array.size_empty Nat.add_zero Nat.zero_add
attribute [local irreducible] ASpec ACalls retA ti EqT
set_option linter.unusedSimpArgs false
set_option maxHeartbeats 4000000
set_option maxRecDepth 100000
set_option linter.unusedVariables false
attribute [local go_sem] ti2 ti3 ti4 ti5 ti9 ti21 ti22 ti23 ti24 ti26 ti27 ti28 ti30 ti33 ti34 ti37 ti46 ti52 ti68 ti69 ti73 ti78 ti86 ti89 ti99 ti122 ti123 ti124 ti144 ti173 ti174 ti190 ti191 ti199 ti245 ti247 ti257 ti271 ti288 ti290 ti343
attribute [local go_sem] memS memS0 memT allocB
abbrev Ps := List (Int × Nat)
def Ps.Ok (ps : Ps) : Prop := ∀ pre x rest, ps = pre ++ x :: rest → x.2 = pre.length
@[reducible] def kdP (p : Int × Nat) : List AV := [.int .u8 p.1]
@[reducible] def lfP (p : Int × Nat) : List AV := lfE p.2
@[reducible] def kindsP (ps : Ps) : AV := .slice [[.slice (ps.map kdP)]]
@[reducible] def chkA : AV := .agg [.nils]
theorem set_repJ {α : Type} (a : List α) (n : Nat) (z v : α) : (a ++ List.replicate (n + 1) z).set a.length v = (a ++ [v]) ++ List.replicate n z := by
  simp [List.replicate_succ]
theorem getD_repJ {α : Type} (a : List α) (n : Nat) (z w : α) : (a ++ List.replicate (n + 1) z).getD a.length w = z := by
  simp [List.replicate_succ]
theorem kindP_leaf (ps : Ps) (hz : ps.Ok) (pre rest : Ps) (x : Int × Nat) (h : ps = pre ++ x :: rest) : ACalls Tryz.prog 38 [chkA, .agg (lfP x), kindsP ps] (.tuple [.int .u8 x.1, .int .i64 0]) := by
  have hx := hz pre x rest h
  subst h
  obtain ⟨d, i⟩ := x
  simp only at hx
  subst hx
  refine acalls_k Tryz.func38 rfl (by kernel_rfl) (congrArg Array.toList Tryz.results38) Tryz.ntmps38 ?_
  intro R hR
  simp only [st0, List.length_cons, List.length_nil, Nat.reduceAdd, Nat.reduceSub, List.replicate_succ, List.replicate_zero, List.cons_append, List.nil_append]
  repeat' (first | (with_reducible refine a_seq_k ?_; intro K hK) | (with_reducible first | refine a_block ?_ | refine a_ret ?_ | refine a_exit ?_ | refine a_skip ?_ | exact ConfOk.mk (by kernel_rfl)) | ((fail_if_success with_reducible show False); with_reducible apply_assumption (exfalso := false) (symm := false) only [*, rfl, trivial, congrArg]) | with_reducible refine And.intro ?_ ?_ | (intro h; contradiction) | (intro h; subst h) | intro h | ((try (with_reducible first | refine a_region (by kernel_rfl) ?_ | (refine a_draw mixed (by kernel_rfl) ?_; intro C hC) | (refine a_cond_k ?_; intro X Y hX hY) | refine RetOk.mk ?_)); simp (maxSteps := 10000000) (implicitDefEqProofs := false) only [go_sem, lfP, lfE, kdP]))
  try any_goals omega
  all_goals (try exact (by decide))
  refine a_onceT fun K => ?_
  repeat' (first | (with_reducible refine a_seq_k ?_; intro K hK) | (with_reducible first | refine a_block ?_ | refine a_ret ?_ | refine a_exit ?_ | refine a_skip ?_ | exact ConfOk.mk (by kernel_rfl)) | ((fail_if_success with_reducible show False); with_reducible apply_assumption (exfalso := false) (symm := false) only [*, rfl, trivial, congrArg]) | with_reducible refine And.intro ?_ ?_ | (intro h; contradiction) | (intro h; subst h) | intro h | ((try (with_reducible first | refine a_region (by kernel_rfl) ?_ | (refine a_draw mixed (by kernel_rfl) ?_; intro C hC) | (refine a_cond_k ?_; intro X Y hX hY) | refine RetOk.mk ?_)); simp (maxSteps := 10000000) (implicitDefEqProofs := false) only [go_sem, kdP]))
  all_goals (exfalso; omega)
theorem kindP_node (ps : Ps) (hz : ps.Ok) (hl : ps.length ≤ 1000) (op : Int) (ho : 4 ≤ op ∧ op ≤ 26) :
    ACalls Tryz.prog 38 [chkA, .agg (ndE op (.slice (ps.map lfP))), kindsP ps] (.tuple [.int .u8 (kindE (kindC op (ps.map (·.1)))).1, .int .i64 (kindE (kindC op (ps.map (·.1)))).2]) := by
  have hd := fun pre rest x h => kindP_leaf ps hz pre rest x h
  have hn := calc_Kind op (ps.map (·.1)) (by simp; omega)
  obtain ⟨o0, o2, o7, o8, o9⟩ : op ≠ 0 ∧ op ≠ 2 ∧ op ≠ 27 ∧ op ≠ 28 ∧ op ≠ 29 := by omega
  generalize kindC op _ = p at *
  obtain ⟨p1, p2⟩ := p
  unfold kindE
  clear ho
  simp only [kinds, List.map_map, Function.comp_def, kd] at hn
  simp only [kindsP, kdP, lfP, lfE] at hd
  refine acalls_k Tryz.func38 rfl (by kernel_rfl) (congrArg Array.toList Tryz.results38) Tryz.ntmps38 ?_
  intro R hR
  simp only [st0, List.length_cons, List.length_nil, Nat.reduceAdd, Nat.reduceSub, List.replicate_succ, List.replicate_zero, List.cons_append, List.nil_append]
  repeat' (first | (with_reducible refine a_seq_k ?_; intro K hK) | (with_reducible first | refine a_block ?_ | refine a_ret ?_ | refine a_exit ?_ | refine a_skip ?_ | exact ConfOk.mk (by kernel_rfl)) | ((fail_if_success with_reducible show False); with_reducible apply_assumption (exfalso := false) (symm := false) only [*, rfl, trivial, congrArg]) | with_reducible refine And.intro ?_ ?_ | (intro h; contradiction) | (intro h; subst h) | intro h | ((try (with_reducible first | refine a_region (by kernel_rfl) ?_ | (refine a_draw mixed (by kernel_rfl) ?_; intro C hC) | (refine a_cond_k ?_; intro X Y hX hY) | refine RetOk.mk ?_)); simp (maxSteps := 10000000) (implicitDefEqProofs := false) only [go_sem]))
  try any_goals omega
  refine a_loop_k (fun n st => ∃ (g : Nat) (pre rest : List _) (u : Unit), ps = pre ++ rest ∧ n = rest.length ∧ (True) ∧ Has st 133 [(2, kindsP ps), (3, .ptr 3 0 0), (4, .ptr 4 0 0), (8, .viewF 20 1), (22, .slice (ps.map lfP)), (23, .int .i64 ps.length), (24, .int .i64 pre.length)] [(3, .box 0 [.nils]), (4, .box 0 (ndE op (.slice (ps.map lfP)))), (20, .row 1 1 (pre.map kdP ++ List.replicate rest.length [.int .u8 0]))]) (ps).length ⟨0, [], ps, (), rfl, rfl, trivial, ⟨rfl, rfl, by simp [kd], by simp [kd]⟩⟩ ?_
  rintro n st ⟨g, pre, rest, u, he, rfl, hp, hs⟩ K hK
  have hw := wrap_nat pre.length (by have := congrArg List.length he; simp at this; omega)
  subst he
  refine a_has hs fun τ σ γ => ?_
  rcases rest with _ | ⟨x, rest⟩
  · simp only [List.append_nil, List.length_nil, List.replicate_zero] at *
    by_cases q1 : p2 = 1
    · subst q1
      repeat' (first | (with_reducible refine a_seq_k ?_; intro K hK) | (with_reducible first | refine a_block ?_ | refine a_ret ?_ | refine a_exit ?_ | refine a_skip ?_ | exact ConfOk.mk (by kernel_rfl)) | ((fail_if_success with_reducible show False); with_reducible apply_assumption (exfalso := false) (symm := false) only [*, rfl, trivial, congrArg]) | with_reducible refine And.intro ?_ ?_ | (intro h; contradiction) | (intro h; subst h) | intro h | ((try (with_reducible first | refine a_region (by kernel_rfl) ?_ | (refine a_draw mixed (by kernel_rfl) ?_; intro C hC) | (refine a_cond_k ?_; intro X Y hX hY) | refine RetOk.mk ?_ | refine CallS.intro (hn.weakF rfl) ?_ | refine CallD.intro (hn.weakF rfl) ?_)); simp (maxSteps := 10000000) (implicitDefEqProofs := false) only [go_sem, o0, o2, o7, o8, o9, kdP]))
    · by_cases q0 : p2 = 0
      · subst q0
        repeat' (first | (with_reducible refine a_seq_k ?_; intro K hK) | (with_reducible first | refine a_block ?_ | refine a_ret ?_ | refine a_exit ?_ | refine a_skip ?_ | exact ConfOk.mk (by kernel_rfl)) | ((fail_if_success with_reducible show False); with_reducible apply_assumption (exfalso := false) (symm := false) only [*, rfl, trivial, congrArg]) | with_reducible refine And.intro ?_ ?_ | (intro h; contradiction) | (intro h; subst h) | intro h | ((try (with_reducible first | refine a_region (by kernel_rfl) ?_ | (refine a_draw mixed (by kernel_rfl) ?_; intro C hC) | (refine a_cond_k ?_; intro X Y hX hY) | refine RetOk.mk ?_ | refine CallS.intro (hn.weakF rfl) ?_ | refine CallD.intro (hn.weakF rfl) ?_)); simp (maxSteps := 10000000) (implicitDefEqProofs := false) only [go_sem, o0, o2, o7, o8, o9, kdP]))
      · repeat' (first | (with_reducible refine a_seq_k ?_; intro K hK) | (with_reducible first | refine a_block ?_ | refine a_ret ?_ | refine a_exit ?_ | refine a_skip ?_ | exact ConfOk.mk (by kernel_rfl)) | ((fail_if_success with_reducible show False); with_reducible apply_assumption (exfalso := false) (symm := false) only [*, rfl, trivial, congrArg]) | with_reducible refine And.intro ?_ ?_ | (intro h; contradiction) | (intro h; subst h) | intro h | ((try (with_reducible first | refine a_region (by kernel_rfl) ?_ | (refine a_draw mixed (by kernel_rfl) ?_; intro C hC) | (refine a_cond_k ?_; intro X Y hX hY) | refine RetOk.mk ?_ | refine CallS.intro (hn.weakF rfl) ?_ | refine CallD.intro (hn.weakF rfl) ?_)); simp (maxSteps := 10000000) (implicitDefEqProofs := false) only [go_sem, o0, o2, o7, o8, o9, kdP, q1, q0]))
  · have h6 := set_repJ (pre.map kdP) rest.length [.int .u8 0] (kdP x)
    have h7 := getD_repJ (pre.map kdP) rest.length [AV.int .u8 0] []
    have hc := hd pre rest x rfl
    simp only [List.length_map] at h6 h7
    simp only [List.map_append, List.map_cons, lfP, lfE, kdP] at hc h6 h7
    repeat' (first | (with_reducible refine a_seq_k ?_; intro K hK) | (with_reducible first | refine a_block ?_ | refine a_ret ?_ | refine a_exit ?_ | refine a_skip ?_ | exact ConfOk.mk (by kernel_rfl)) | ((fail_if_success with_reducible show False); with_reducible apply_assumption (exfalso := false) (symm := false) only [*, rfl, trivial, congrArg]) | with_reducible refine And.intro ?_ ?_ | (intro h; contradiction) | (intro h; subst h) | intro h | ((try (with_reducible first | refine a_region (by kernel_rfl) ?_ | (refine a_draw mixed (by kernel_rfl) ?_; intro C hC) | (refine a_cond_k ?_; intro X Y hX hY) | refine RetOk.mk ?_ | refine CallS.intro (hc) ?_ | refine CallD.intro (hc) ?_)); simp (maxSteps := 10000000) (implicitDefEqProofs := false) only [go_sem, hw, h6, h7, List.length_replicate, kdP, lfP, lfE]))
    try any_goals omega
    all_goals exact ⟨⟨rest.length, by simp, 0, pre ++ [x], rest, (), by simp, rfl, ⟨rfl, rfl, by simp, by simp⟩⟩⟩
theorem kindP_nil (op : Int) (hf : fmtP op 0 = true) :
    ACalls Tryz.prog 38 [chkA, .agg (ndE op .nils), .slice [[.nils]]] (.tuple [.int .u8 (kindX op []).1, .int .i64 (kindX op []).2]) := by
  have hn := calc_Kind op [] (by simp)
  rw [kinds_alike op [] (by simp) (by simp)] at hn
  by_cases o0 : op = 0
  · subst o0
    simp only [kindX, if_true]
    refine acalls_k Tryz.func38 rfl (by kernel_rfl) (congrArg Array.toList Tryz.results38) Tryz.ntmps38 ?_
    intro R hR
    simp only [st0, List.length_cons, List.length_nil, Nat.reduceAdd, Nat.reduceSub, List.replicate_succ, List.replicate_zero, List.cons_append, List.nil_append]
    repeat' (first | (with_reducible refine a_seq_k ?_; intro K hK) | (with_reducible first | refine a_block ?_ | refine a_ret ?_ | refine a_exit ?_ | refine a_skip ?_ | exact ConfOk.mk (by kernel_rfl)) | ((fail_if_success with_reducible show False); with_reducible apply_assumption (exfalso := false) (symm := false) only [*, rfl, trivial, congrArg]) | with_reducible refine And.intro ?_ ?_ | (intro h; contradiction) | (intro h; subst h) | intro h | ((try (with_reducible first | refine a_region (by kernel_rfl) ?_ | (refine a_draw mixed (by kernel_rfl) ?_; intro C hC) | (refine a_cond_k ?_; intro X Y hX hY) | refine RetOk.mk ?_)); simp (maxSteps := 10000000) (implicitDefEqProofs := false) only [go_sem]))
    all_goals (try exact (by decide))
    refine a_onceT fun K1 => ?_
    repeat' (first | (with_reducible refine a_seq_k ?_; intro K hK) | (with_reducible first | refine a_block ?_ | refine a_ret ?_ | refine a_exit ?_ | refine a_skip ?_ | exact ConfOk.mk (by kernel_rfl)) | ((fail_if_success with_reducible show False); with_reducible apply_assumption (exfalso := false) (symm := false) only [*, rfl, trivial, congrArg]) | with_reducible refine And.intro ?_ ?_ | (intro h; contradiction) | (intro h; subst h) | intro h | ((try (with_reducible first | refine a_region (by kernel_rfl) ?_ | (refine a_draw mixed (by kernel_rfl) ?_; intro C hC) | (refine a_cond_k ?_; intro X Y hX hY) | refine RetOk.mk ?_)); simp (maxSteps := 10000000) (implicitDefEqProofs := false) only [go_sem]))
  by_cases o2 : op = 2
  · subst o2
    rw [show kindX 2 [] = (0, 81) from rfl]
    refine acalls_k Tryz.func38 rfl (by kernel_rfl) (congrArg Array.toList Tryz.results38) Tryz.ntmps38 ?_
    intro R hR
    simp only [st0, List.length_cons, List.length_nil, Nat.reduceAdd, Nat.reduceSub, List.replicate_succ, List.replicate_zero, List.cons_append, List.nil_append]
    repeat' (first | (with_reducible refine a_seq_k ?_; intro K hK) | (with_reducible first | refine a_block ?_ | refine a_ret ?_ | refine a_exit ?_ | refine a_skip ?_ | exact ConfOk.mk (by kernel_rfl)) | ((fail_if_success with_reducible show False); with_reducible apply_assumption (exfalso := false) (symm := false) only [*, rfl, trivial, congrArg]) | with_reducible refine And.intro ?_ ?_ | (intro h; contradiction) | (intro h; subst h) | intro h | ((try (with_reducible first | refine a_region (by kernel_rfl) ?_ | (refine a_draw mixed (by kernel_rfl) ?_; intro C hC) | (refine a_cond_k ?_; intro X Y hX hY) | refine RetOk.mk ?_)); simp (maxSteps := 10000000) (implicitDefEqProofs := false) only [go_sem]))
    all_goals (try exact (by decide))
    refine a_onceT fun K1 => ?_
    repeat' (first | (with_reducible refine a_seq_k ?_; intro K hK) | (with_reducible first | refine a_block ?_ | refine a_ret ?_ | refine a_exit ?_ | refine a_skip ?_ | exact ConfOk.mk (by kernel_rfl)) | ((fail_if_success with_reducible show False); with_reducible apply_assumption (exfalso := false) (symm := false) only [*, rfl, trivial, congrArg]) | with_reducible refine And.intro ?_ ?_ | (intro h; contradiction) | (intro h; subst h) | intro h | ((try (with_reducible first | refine a_region (by kernel_rfl) ?_ | (refine a_draw mixed (by kernel_rfl) ?_; intro C hC) | (refine a_cond_k ?_; intro X Y hX hY) | refine RetOk.mk ?_)); simp (maxSteps := 10000000) (implicitDefEqProofs := false) only [go_sem]))
  have ho : 4 ≤ op ∧ op ≤ 26 := by simpa [fmtP, o0, o2] using hf
  obtain ⟨o7, o8, o9⟩ : op ≠ 27 ∧ op ≠ 28 ∧ op ≠ 29 := by omega
  unfold kindX
  rw [if_neg o0, if_neg o2]
  generalize refKind op _ = p at *
  obtain ⟨p1, p2⟩ := p
  unfold kindE
  clear hf ho
  simp only [kinds, List.map_nil] at hn
  refine acalls_k Tryz.func38 rfl (by kernel_rfl) (congrArg Array.toList Tryz.results38) Tryz.ntmps38 ?_
  intro R hR
  simp only [st0, List.length_cons, List.length_nil, Nat.reduceAdd, Nat.reduceSub, List.replicate_succ, List.replicate_zero, List.cons_append, List.nil_append]
  repeat' (first | (with_reducible refine a_seq_k ?_; intro K hK) | (with_reducible first | refine a_block ?_ | refine a_ret ?_ | refine a_exit ?_ | refine a_skip ?_ | exact ConfOk.mk (by kernel_rfl)) | ((fail_if_success with_reducible show False); with_reducible apply_assumption (exfalso := false) (symm := false) only [*, rfl, trivial, congrArg]) | with_reducible refine And.intro ?_ ?_ | (intro h; contradiction) | (intro h; subst h) | intro h | ((try (with_reducible first | refine a_region (by kernel_rfl) ?_ | (refine a_draw mixed (by kernel_rfl) ?_; intro C hC) | (refine a_cond_k ?_; intro X Y hX hY) | refine RetOk.mk ?_)); simp (maxSteps := 10000000) (implicitDefEqProofs := false) only [go_sem]))
  all_goals (try exact (by decide))
  refine a_onceT fun K1 => ?_
  by_cases q1 : p2 = 1
  · subst q1
    repeat' (first | (with_reducible refine a_seq_k ?_; intro K hK) | (with_reducible first | refine a_block ?_ | refine a_ret ?_ | refine a_exit ?_ | refine a_skip ?_ | exact ConfOk.mk (by kernel_rfl)) | ((fail_if_success with_reducible show False); with_reducible apply_assumption (exfalso := false) (symm := false) only [*, rfl, trivial, congrArg]) | with_reducible refine And.intro ?_ ?_ | (intro h; contradiction) | (intro h; subst h) | intro h | ((try (with_reducible first | refine a_region (by kernel_rfl) ?_ | (refine a_draw mixed (by kernel_rfl) ?_; intro C hC) | (refine a_cond_k ?_; intro X Y hX hY) | refine RetOk.mk ?_ | refine CallS.intro (hn.weakF rfl) ?_ | refine CallD.intro (hn.weakF rfl) ?_)); simp (maxSteps := 10000000) (implicitDefEqProofs := false) only [go_sem, o0, o2, o7, o8, o9]))
  · by_cases q0 : p2 = 0
    · subst q0
      repeat' (first | (with_reducible refine a_seq_k ?_; intro K hK) | (with_reducible first | refine a_block ?_ | refine a_ret ?_ | refine a_exit ?_ | refine a_skip ?_ | exact ConfOk.mk (by kernel_rfl)) | ((fail_if_success with_reducible show False); with_reducible apply_assumption (exfalso := false) (symm := false) only [*, rfl, trivial, congrArg]) | with_reducible refine And.intro ?_ ?_ | (intro h; contradiction) | (intro h; subst h) | intro h | ((try (with_reducible first | refine a_region (by kernel_rfl) ?_ | (refine a_draw mixed (by kernel_rfl) ?_; intro C hC) | (refine a_cond_k ?_; intro X Y hX hY) | refine RetOk.mk ?_ | refine CallS.intro (hn.weakF rfl) ?_ | refine CallD.intro (hn.weakF rfl) ?_)); simp (maxSteps := 10000000) (implicitDefEqProofs := false) only [go_sem, o0, o2, o7, o8, o9]))
    · repeat' (first | (with_reducible refine a_seq_k ?_; intro K hK) | (with_reducible first | refine a_block ?_ | refine a_ret ?_ | refine a_exit ?_ | refine a_skip ?_ | exact ConfOk.mk (by kernel_rfl)) | ((fail_if_success with_reducible show False); with_reducible apply_assumption (exfalso := false) (symm := false) only [*, rfl, trivial, congrArg]) | with_reducible refine And.intro ?_ ?_ | (intro h; contradiction) | (intro h; subst h) | intro h | ((try (with_reducible first | refine a_region (by kernel_rfl) ?_ | (refine a_draw mixed (by kernel_rfl) ?_; intro C hC) | (refine a_cond_k ?_; intro X Y hX hY) | refine RetOk.mk ?_ | refine CallS.intro (hn.weakF rfl) ?_ | refine CallD.intro (hn.weakF rfl) ?_)); simp (maxSteps := 10000000) (implicitDefEqProofs := false) only [go_sem, o0, o2, o7, o8, o9, q1, q0]))
@[reducible] def ksP (ps : Ps) : AV := if ps = [] then .nils else .slice (ps.map lfP)
@[reducible] def kwP (ps : Ps) : AV := if ps = [] then .nils else .slice (ps.map kdP)
theorem alg_Kind (ps : Ps) (hz : ps.Ok) (hl : ps.length < 2 ^ 40) (op : Int) (h0 : 0 ≤ op) (hO : ∀ p ∈ ps, 0 ≤ p.1 ∧ p.1 ≤ 3) (hv : ACalls Tryz.prog 33 [.nils] (.bool true)) :
    ACalls Tryz.prog 14 [.nils, .agg (ndE op (ksP ps)), .slice [[kwP ps]]] (.tuple [.int .u8 (kindT op (ps.map (·.1))).1, .int .i64 (kindT op (ps.map (·.1))).2]) := by
  have eP : ps.map lfP = (ps.map (·.2)).map lfE := by simp
  have h3 : ACalls Tryz.prog 36 [.agg (ndE op (ksP ps))] (.int .i64 (szI ps.length)) := by
    unfold ksP
    split
    · rename_i h; subst h; exact size_nil op
    · rw [eP]; have := size_node op (ps.map (·.2)) (by simpa using hl); simpa using this
  have h2 : ∀ n, ACalls Tryz.prog 35 [.nils, .slice [[kwP ps]], .int .i64 n] (.int .i64 (if 400 < n then 2 else 0)) := by
    intro n
    unfold kwP
    split
    · exact alg_prepare .nils n (.inl rfl) hv all_kinds0
    · have e : AV.slice (ps.map kdP) = kinds (ps.map (·.1)) := by simp [kinds, kd]
      rw [e]
      refine alg_prepare _ n (.inr ⟨_, rfl⟩) hv (all_kinds _ (by simpa using hl) ?_)
      intro k hk
      obtain ⟨p, hp, rfl⟩ := List.mem_map.1 hk
      exact (hO p hp).2
  have hlt : ¬ 400 ≤ ps.length → ∀ i ∈ ps.map (·.2), i ≤ 2147483647 := by
    intro hb i hi
    obtain ⟨p, hp, rfl⟩ := List.mem_map.1 hi
    obtain ⟨a, b, hab⟩ := List.append_of_mem hp
    have := hz a p b hab
    have h2 := congrArg List.length hab
    simp at h2
    omega
  have h4 : ¬ 400 ≤ ps.length → ACalls Tryz.prog 37 [.agg (ndE op (ksP ps))] (.bool (fmtP op ps.length)) := by
    intro hb
    unfold ksP
    split
    · rename_i h; subst h; exact form_node op h0 .nils 0 (by omega) (.inl ⟨rfl, rfl⟩) (all_nils2 _ rfl)
    · exact form_node op h0 _ ps.length hl (.inr ⟨ps.map (·.2), by rw [eP], by simp⟩) (by rw [eP]; exact all_form _ (by simpa using hl) (hlt hb))
  have h5 : ¬ 400 ≤ ps.length → fmtP op ps.length = true → ACalls Tryz.prog 38 [chkA, .agg (ndE op (ksP ps)), .slice [[kwP ps]]] (.tuple [.int .u8 (kindX op (ps.map (·.1))).1, .int .i64 (kindX op (ps.map (·.1))).2]) := by
    intro hb hf
    unfold ksP kwP
    by_cases h : ps = []
    · subst h; simp only [if_true]; exact kindP_nil op hf
    · simp only [if_neg h]
      have ho : 4 ≤ op ∧ op ≤ 26 := by
        have hne : ¬ ps.length = 0 := fun e => h (List.eq_nil_of_length_eq_zero e)
        simpa [fmtP, hne, h] using hf
      have := kindP_node ps hz (by omega) op ho
      rw [kinds_alike op _ (by simp; omega) (by intro k hk; obtain ⟨p, hp, rfl⟩ := List.mem_map.1 hk; exact (hO p hp).1)] at this
      unfold kindX
      rw [if_neg (by omega), if_neg (by omega)]
      exact this
  unfold kindT
  rw [List.length_map]
  have k2 := h2 (szI ps.length)
  clear h2 hlt hO
  have hkz : ∀ σ n, closeV σ n (ksP ps) = some (ksP ps, []) := by
    intro σ n
    unfold ksP
    split <;> cases n <;> rfl
  generalize ksP ps = kz at *
  generalize kwP ps = kw at *
  by_cases hb : 400 ≤ ps.length
  · rw [if_pos hb]
    have e1 : szI ps.length = 401 := if_pos hb
    rw [e1] at h3 k2
    simp only [show (400 : Int) < 401 from by decide, if_true] at k2
    clear h4 h5
    refine acalls_k Tryz.func14 rfl (by kernel_rfl) (congrArg Array.toList Tryz.results14) Tryz.ntmps14 ?_
    intro R hR
    simp only [st0, List.length_cons, List.length_nil, Nat.reduceAdd, Nat.reduceSub, List.replicate_succ, List.replicate_zero, List.cons_append, List.nil_append]
    repeat' (first | (with_reducible refine a_seq_k ?_; intro K hK) | (with_reducible first | refine a_block ?_ | refine a_ret ?_ | refine a_exit ?_ | refine a_skip ?_ | exact ConfOk.mk (by kernel_rfl)) | ((fail_if_success with_reducible show False); with_reducible apply_assumption (exfalso := false) (symm := false) only [*, rfl, trivial, congrArg]) | with_reducible refine And.intro ?_ ?_ | (intro h; contradiction) | (intro h; subst h) | intro h | ((try (with_reducible first | refine a_region (by kernel_rfl) ?_ | (refine a_draw mixed (by kernel_rfl) ?_; intro C hC) | (refine a_cond_k ?_; intro X Y hX hY) | refine RetOk.mk ?_ | refine CallS.intro (h3) ?_ | refine CallD.intro (h3) ?_ | refine CallS.intro (k2) ?_ | refine CallD.intro (k2) ?_)); simp (maxSteps := 10000000) (implicitDefEqProofs := false) only [go_sem, hkz]))
  · rw [if_neg hb]
    have e1 : (if 400 < szI ps.length then (2 : Int) else 0) = 0 := by
      rw [if_neg]; unfold szI; rw [if_neg hb]; omega
    rw [e1] at k2
    have h4 := h4 hb
    have h5 := h5 hb
    generalize fmtP op ps.length = fb at *
    generalize kindX op _ = p at *
    simp only [chkA] at h5
    cases fb
    rotate_left
    have h6 := h5 rfl
    all_goals
      refine acalls_k Tryz.func14 rfl (by kernel_rfl) (congrArg Array.toList Tryz.results14) Tryz.ntmps14 ?_
      intro R hR
      simp only [st0, List.length_cons, List.length_nil, Nat.reduceAdd, Nat.reduceSub, List.replicate_succ, List.replicate_zero, List.cons_append, List.nil_append]
      repeat' (first | (with_reducible refine a_seq_k ?_; intro K hK) | (with_reducible first | refine a_block ?_ | refine a_ret ?_ | refine a_exit ?_ | refine a_skip ?_ | exact ConfOk.mk (by kernel_rfl)) | ((fail_if_success with_reducible show False); with_reducible apply_assumption (exfalso := false) (symm := false) only [*, rfl, trivial, congrArg]) | with_reducible refine And.intro ?_ ?_ | (intro h; contradiction) | (intro h; subst h) | intro h | ((try (with_reducible first | refine a_region (by kernel_rfl) ?_ | (refine a_draw mixed (by kernel_rfl) ?_; intro C hC) | (refine a_cond_k ?_; intro X Y hX hY) | refine RetOk.mk ?_ | refine CallS.intro (h3) ?_ | refine CallD.intro (h3) ?_ | refine CallS.intro (k2) ?_ | refine CallD.intro (k2) ?_ | refine CallS.intro (h4) ?_ | refine CallD.intro (h4) ?_ | refine CallS.intro (h6) ?_ | refine CallD.intro (h6) ?_)); simp (maxSteps := 10000000) (implicitDefEqProofs := false) only [go_sem, hkz]))
end Go.Proofs.YtoggbjfjmbjegaaGreatDoor
