/- The size of a node over columns in the program: algebra.SizeExpr and the counter behind it. The kind of a node over columns in the program: algebra.formedExpr, prepare. -/
import Derived.Test.YtoggbjfjmbjegaaGreatDoorFA
import Derived.Test.YtoggbjfjmbjegaaGreatDoorT0
import Derived.Test.YtoggbjfjmbjegaaGreatDoorAb28
import Derived.Test.YtoggbjfjmbjegaaGreatDoorTK
set_option linter.unusedSimpArgs false
set_option linter.unusedVariables false
set_option linter.unusedSimpArgs false
set_option linter.unusedVariables false
namespace Go.Proofs.YtoggbjfjmbjegaaGreatDoor
open Go Go.Ab
-- @enc(Dom.enc, kd, dZ)@
attribute [local go_sem ↓] parts_tt parts_ff parts_tf parts_ft reduceIte
attribute [local go_sem] reduceCtorEq Nat.reduceAdd Nat.reduceSub Nat.reduceLeDiff Nat.reduceEqDiff Nat.reduceMul Nat.reduceLT Nat.reducePow Int.reduceEq Int.reduceLT Int.reduceLE Int.reduceGT Int.reduceGE Int.reduceAdd Int.reduceSub Int.reduceNeg Int.reduceToNat parts_eq learnT aops_nil aops_cons aopsD_nil aopsD_cons stepS stepD gval St.learn skipR St.after putτ applyUpd List.foldl_cons List.foldl_nil pureOp memOp callOf litA closeO closeK List.flatMap_cons List.flatMap_nil Option.map_none decide_false opnd ofConst leaf binA unA lenA indexA indexAddrA fieldAddrA fieldA weak_slice weak_nils weak_str weak_view weak_viewF weak_sliceF weak_ptr weak_cptr weak_rptr weak_sl weak_sl0 weak_any sliceFA_slice sliceFA_str sliceFA_view sliceFA_none sliceFA_some sameO sliceA convertA pickV fillA placeS cellsA setA partA loadM storeM appendM srcEls lookBox lookRow lookMap closeL closeV scalarB scalarL killed buildEls lookupA leafEq eqAll resA resL tupA retA thenA blockA isInt loA hiA foldA maxA minA okSize leafB closedB Res.foot List.getD_cons_zero List.getD_cons_succ List.set_cons_zero List.set_cons_succ List.map_cons List.map_nil List.append_nil List.nil_append List.cons_append List.length_cons List.length_nil List.take_succ_cons List.take_zero List.drop_succ_cons List.drop_zero List.take_nil List.drop_nil List.all_cons List.all_nil List.getElem?_toArray List.getElem?_cons_zero List.getElem?_cons_succ Option.bind_some Option.map_some true_and and_true true_implies ne_eq not_true_eq_false not_false_eq_true Bool.true_eq_false Bool.false_eq_true Bool.not_true Bool.not_false decide_eq_true_eq decide_eq_false_iff_not false_implies implies_true and_self ite_true ite_false cond_true cond_false Option.some.injEq List.reverse_cons List.reverse_nil Bool.and_self Bool.true_and Bool.and_true Bool.false_and Bool.and_false Bool.or_true Bool.true_or Bool.or_false Bool.false_or Bool.not_eq_eq_eq_not Bool.not_not Bool.or_self beq_self_eq_true and_false false_and or_true true_or or_false false_or not_true not_false_iff Decidable.not_not lookT lookR tabT tabR Int.toNat_natCast List.length_map List.map_append List.length_append decide_true decide_false tmod2 List.mem_singleton forall_eq elOk1 elOk3 elOk4 castn0 castn1 castn2 castn3 getD_mid getD_mid_map at_lt at_end mid_lt mid_lt' nat_ge List.size_toArray Array.size_empty Nat.add_zero Nat.zero_add
attribute [local irreducible] ASpec ACalls retA ti EqT
set_option linter.unusedSimpArgs false
set_option maxHeartbeats 4000000
set_option maxRecDepth 100000
set_option linter.unusedVariables false
attribute [local go_sem] ti2 ti3 ti4 ti5 ti9 ti21 ti22 ti23 ti24 ti26 ti27 ti28 ti30 ti33 ti34 ti37 ti46 ti52 ti68 ti69 ti73 ti78 ti86 ti89 ti99 ti122 ti123 ti124 ti144 ti173 ti174 ti190 ti191 ti199 ti245 ti247 ti257 ti271 ti288 ti290 ti343
attribute [local go_sem] memS memS0 memT allocB one_get one_set
@[reducible] def lfE (i : Nat) : List AV := [.int .u8 2, .int .u8 0, .int .i64 0, .str ⟨#[]⟩, .int .i64 0, .int .i64 i, .nils, .nils]
theorem a_onceT {P : Program} {c : Code} {Q : Exit → St → Prop} {st : St} (h : ∀ K : St → Prop, ASpec P c (thenA K Q) st) : ASpec P (.loop c) Q st :=
  a_loop_k (fun _ st' => st' = st) 0 rfl (fun n st' e K hK => e ▸ h K)
theorem all_nils (f : AV) (hf : ∃ c, f = .mfunc (.func 77) [.cptr [.int .i64 c]]) : ACalls Tryz.prog 80 [.nils, f] (.bool true) := by
  obtain ⟨c, rfl⟩ := hf
  refine acalls_k Tryz.func80 rfl (by kernel_rfl) (congrArg Array.toList Tryz.results80) Tryz.ntmps80 ?_
  intro R hR
  simp only [st0, List.length_cons, List.length_nil, Nat.reduceAdd, Nat.reduceSub, List.replicate_succ, List.replicate_zero, List.cons_append, List.nil_append]
  repeat' (first | (with_reducible refine a_seq_k ?_; intro K hK) | (with_reducible first | refine a_block ?_ | refine a_ret ?_ | refine a_exit ?_ | refine a_skip ?_ | exact ConfOk.mk (by kernel_rfl)) | ((fail_if_success with_reducible show False); with_reducible apply_assumption (exfalso := false) (symm := false) only [*, rfl, trivial, congrArg]) | with_reducible refine And.intro ?_ ?_ | (intro h; contradiction) | (intro h; subst h) | intro h | ((try (with_reducible first | refine a_region (by kernel_rfl) ?_ | (refine a_draw mixed (by kernel_rfl) ?_; intro C hC) | (refine a_cond_k ?_; intro X Y hX hY) | refine RetOk.mk ?_)); simp (maxSteps := 10000000) (implicitDefEqProofs := false) only [go_sem]))
  refine a_onceT fun K => ?_
  repeat' (first | (with_reducible refine a_seq_k ?_; intro K hK) | (with_reducible first | refine a_block ?_ | refine a_ret ?_ | refine a_exit ?_ | refine a_skip ?_ | exact ConfOk.mk (by kernel_rfl)) | ((fail_if_success with_reducible show False); with_reducible apply_assumption (exfalso := false) (symm := false) only [*, rfl, trivial, congrArg]) | with_reducible refine And.intro ?_ ?_ | (intro h; contradiction) | (intro h; subst h) | intro h | ((try (with_reducible first | refine a_region (by kernel_rfl) ?_ | (refine a_draw mixed (by kernel_rfl) ?_; intro C hC) | (refine a_cond_k ?_; intro X Y hX hY) | refine RetOk.mk ?_)); simp (maxSteps := 10000000) (implicitDefEqProofs := false) only [go_sem]))
theorem all_nilsP (f : AV) (hf : ∃ c, f = .mfunc (.func 147) [.cptr [.int .i64 c]]) : ACalls Tryz.prog 81 [.nils, f] (.bool true) := by
  obtain ⟨c, rfl⟩ := hf
  refine acalls_k Tryz.func81 rfl (by kernel_rfl) (congrArg Array.toList Tryz.results81) Tryz.ntmps81 ?_
  intro R hR
  simp only [st0, List.length_cons, List.length_nil, Nat.reduceAdd, Nat.reduceSub, List.replicate_succ, List.replicate_zero, List.cons_append, List.nil_append]
  repeat' (first | (with_reducible refine a_seq_k ?_; intro K hK) | (with_reducible first | refine a_block ?_ | refine a_ret ?_ | refine a_exit ?_ | refine a_skip ?_ | exact ConfOk.mk (by kernel_rfl)) | ((fail_if_success with_reducible show False); with_reducible apply_assumption (exfalso := false) (symm := false) only [*, rfl, trivial, congrArg]) | with_reducible refine And.intro ?_ ?_ | (intro h; contradiction) | (intro h; subst h) | intro h | ((try (with_reducible first | refine a_region (by kernel_rfl) ?_ | (refine a_draw mixed (by kernel_rfl) ?_; intro C hC) | (refine a_cond_k ?_; intro X Y hX hY) | refine RetOk.mk ?_)); simp (maxSteps := 10000000) (implicitDefEqProofs := false) only [go_sem]))
  refine a_onceT fun K => ?_
  repeat' (first | (with_reducible refine a_seq_k ?_; intro K hK) | (with_reducible first | refine a_block ?_ | refine a_ret ?_ | refine a_exit ?_ | refine a_skip ?_ | exact ConfOk.mk (by kernel_rfl)) | ((fail_if_success with_reducible show False); with_reducible apply_assumption (exfalso := false) (symm := false) only [*, rfl, trivial, congrArg]) | with_reducible refine And.intro ?_ ?_ | (intro h; contradiction) | (intro h; subst h) | intro h | ((try (with_reducible first | refine a_region (by kernel_rfl) ?_ | (refine a_draw mixed (by kernel_rfl) ?_; intro C hC) | (refine a_cond_k ?_; intro X Y hX hY) | refine RetOk.mk ?_)); simp (maxSteps := 10000000) (implicitDefEqProofs := false) only [go_sem]))
theorem tally_add (γ s g : Nat) (c : Int) (h0 : 0 ≤ c) (h4 : c ≤ 400) : MCalls Tryz.prog 146 γ [.ptr s g 0] (one s g c) (.bool (decide (c + 1 ≤ 400))) (one s g (c + 1)) := by
  have hw := wrapI (c + 1) (by omega)
  have c1 : (400 < c) = False := by simp; omega
  refine mcalls_t (args' := [.ptr (s + 16) g 0]) Tryz.func146 rfl (by kernel_rfl) (congrArg Array.toList Tryz.results146) Tryz.ntmps146 rfl ?_
  intro R hR
  simp only [List.length_cons, List.length_nil, Nat.reduceAdd, Nat.reduceSub, List.replicate_succ, List.replicate_zero, List.cons_append, List.nil_append]
  repeat' (first | (with_reducible refine a_seq_k ?_; intro K hK) | (with_reducible first | refine a_block ?_ | refine a_ret ?_ | refine a_exit ?_ | refine a_skip ?_ | exact ConfOk.mk (by kernel_rfl)) | ((fail_if_success with_reducible show False); with_reducible apply_assumption (exfalso := false) (symm := false) only [*, rfl, trivial, congrArg]) | with_reducible refine And.intro ?_ ?_ | (intro h; contradiction) | (intro h; subst h) | intro h | ((try (with_reducible first | refine a_region (by kernel_rfl) ?_ | (refine a_draw mixed (by kernel_rfl) ?_; intro C hC) | (refine a_cond_k ?_; intro X Y hX hY) | refine RetOk.mk ?_ | refine RetT.mk ?_)); simp (maxSteps := 10000000) (implicitDefEqProofs := false) only [go_sem, hw, c1]))
theorem tally_leaf (γ s g i : Nat) (c : Int) (h0 : 0 ≤ c) (h4 : c ≤ 400) : MCalls Tryz.prog 77 γ [.ptr s g 0, .agg (lfE i)] (one s g c) (.bool (decide (c + 1 ≤ 400))) (one s g (c + 1)) := by
  have hA := fun γ => tally_add γ (s + 21) g c h0 h4
  have hn := fun c => all_nils (.mfunc (.func 77) [.cptr [.int .i64 c]]) ⟨c, rfl⟩
  have hp := fun c => all_nilsP (.mfunc (.func 147) [.cptr [.int .i64 c]]) ⟨c, rfl⟩
  by_cases h5 : c + 1 ≤ 400
  · simp only [h5, decide_true] at hA ⊢
    clear h0 h4 h5
    refine mcalls_t (args' := [.ptr (s + 21) g 0, .agg (lfE i)]) Tryz.func77 rfl (by kernel_rfl) (congrArg Array.toList Tryz.results77) Tryz.ntmps77 rfl ?_
    intro R hR
    simp only [List.length_cons, List.length_nil, Nat.reduceAdd, Nat.reduceSub, List.replicate_succ, List.replicate_zero, List.cons_append, List.nil_append]
    repeat' (first | (with_reducible refine a_seq_k ?_; intro K hK) | (with_reducible first | refine a_block ?_ | refine a_ret ?_ | refine a_exit ?_ | refine a_skip ?_ | exact ConfOk.mk (by kernel_rfl)) | ((fail_if_success with_reducible show False); with_reducible apply_assumption (exfalso := false) (symm := false) only [*, rfl, trivial, congrArg]) | with_reducible refine And.intro ?_ ?_ | (intro h; contradiction) | (intro h; subst h) | intro h | ((try (with_reducible first | refine a_region (by kernel_rfl) ?_ | (refine a_draw mixed (by kernel_rfl) ?_; intro C hC) | (refine a_cond_k ?_; intro X Y hX hY) | refine RetOk.mk ?_ | refine RetT.mk ?_ | refine CallS.tal (hA _) ?_ ?_ | refine CallD.tal (hA _) ?_ ?_ | refine CallS.intro (hn _) ?_ | refine CallD.intro (hn _) ?_ | refine CallS.intro (hp _) ?_ | refine CallD.intro (hp _) ?_)); simp (maxSteps := 10000000) (implicitDefEqProofs := false) only [go_sem, lfE]))
  · simp only [h5, decide_false] at hA ⊢
    clear h0 h4 h5
    refine mcalls_t (args' := [.ptr (s + 21) g 0, .agg (lfE i)]) Tryz.func77 rfl (by kernel_rfl) (congrArg Array.toList Tryz.results77) Tryz.ntmps77 rfl ?_
    intro R hR
    simp only [List.length_cons, List.length_nil, Nat.reduceAdd, Nat.reduceSub, List.replicate_succ, List.replicate_zero, List.cons_append, List.nil_append]
    repeat' (first | (with_reducible refine a_seq_k ?_; intro K hK) | (with_reducible first | refine a_block ?_ | refine a_ret ?_ | refine a_exit ?_ | refine a_skip ?_ | exact ConfOk.mk (by kernel_rfl)) | ((fail_if_success with_reducible show False); with_reducible apply_assumption (exfalso := false) (symm := false) only [*, rfl, trivial, congrArg]) | with_reducible refine And.intro ?_ ?_ | (intro h; contradiction) | (intro h; subst h) | intro h | ((try (with_reducible first | refine a_region (by kernel_rfl) ?_ | (refine a_draw mixed (by kernel_rfl) ?_; intro C hC) | (refine a_cond_k ?_; intro X Y hX hY) | refine RetOk.mk ?_ | refine RetT.mk ?_ | refine CallS.tal (hA _) ?_ ?_ | refine CallD.tal (hA _) ?_ ?_ | refine CallS.intro (hn _) ?_ | refine CallD.intro (hn _) ?_ | refine CallS.intro (hp _) ?_ | refine CallD.intro (hp _) ?_)); simp (maxSteps := 10000000) (implicitDefEqProofs := false) only [go_sem, lfE]))
theorem tally_leaves (γ s g : Nat) (is : List Nat) (hl : is.length < 2 ^ 40) (c : Int) (h0 : 0 ≤ c) (h4 : c ≤ 400) : MCalls Tryz.prog 80 γ [.slice (is.map lfE), .mfunc (.func 77) [.ptr s g 0]] (one s g c) (.bool (decide (c + is.length ≤ 400))) (one s g (if c + is.length ≤ 400 then c + is.length else 401)) := by
  obtain ⟨b, hb⟩ : ∃ b, b = decide (c + is.length ≤ 400) := ⟨_, rfl⟩
  obtain ⟨c', hc'⟩ : ∃ c', c' = if c + is.length ≤ 400 then c + is.length else 401 := ⟨_, rfl⟩
  rw [← hb, ← hc']
  refine mcalls_t (args' := [.slice (is.map lfE), .mfunc (.func 77) [.ptr (s + 18) g 0]]) Tryz.func80 rfl (by kernel_rfl) (congrArg Array.toList Tryz.results80) Tryz.ntmps80 rfl ?_
  intro R hR
  simp only [List.length_cons, List.length_nil, Nat.reduceAdd, Nat.reduceSub, List.replicate_succ, List.replicate_zero, List.cons_append, List.nil_append]
  repeat' (first | (with_reducible refine a_seq_k ?_; intro K hK) | (with_reducible first | refine a_block ?_ | refine a_ret ?_ | refine a_exit ?_ | refine a_skip ?_ | exact ConfOk.mk (by kernel_rfl)) | ((fail_if_success with_reducible show False); with_reducible apply_assumption (exfalso := false) (symm := false) only [*, rfl, trivial, congrArg]) | with_reducible refine And.intro ?_ ?_ | (intro h; contradiction) | (intro h; subst h) | intro h | ((try (with_reducible first | refine a_region (by kernel_rfl) ?_ | (refine a_draw mixed (by kernel_rfl) ?_; intro C hC) | (refine a_cond_k ?_; intro X Y hX hY) | refine RetOk.mk ?_)); simp (maxSteps := 10000000) (implicitDefEqProofs := false) only [go_sem]))
  refine a_loop_k (fun m st => ∃ (pre rest : List Nat), is = pre ++ rest ∧ m = rest.length ∧ c + pre.length ≤ 400 ∧ HasT st 18 (one s g (c + pre.length)) [(1, .mfunc (.func 77) [.ptr (s + 18) g 0]), (7, .slice (is.map lfE)), (8, .int .i64 is.length), (9, .int .i64 pre.length)] []) is.length ⟨[], is, rfl, rfl, by simpa using h4, ⟨rfl, by simp, by simp, by simp, by simp⟩⟩ ?_
  rintro m st ⟨pre, rest, he, rfl, hp, hs⟩ K hK
  have hw := wrap_nat pre.length (by have := congrArg List.length he; simp at this; omega)
  subst he
  refine a_hasT hs fun τ σ γ2 => ?_
  rcases rest with _ | ⟨x, rest⟩
  · simp only [List.append_nil] at *
    rw [decide_eq_true hp] at hb
    rw [if_pos hp] at hc'
    subst hb hc'
    clear hs
    repeat' (first | (with_reducible refine a_seq_k ?_; intro K hK) | (with_reducible first | refine a_block ?_ | refine a_ret ?_ | refine a_exit ?_ | refine a_skip ?_ | exact ConfOk.mk (by kernel_rfl)) | ((fail_if_success with_reducible show False); with_reducible apply_assumption (exfalso := false) (symm := false) only [*, rfl, trivial, congrArg]) | with_reducible refine And.intro ?_ ?_ | (intro h; contradiction) | (intro h; subst h) | intro h | ((try (with_reducible first | refine a_region (by kernel_rfl) ?_ | (refine a_draw mixed (by kernel_rfl) ?_; intro C hC) | (refine a_cond_k ?_; intro X Y hX hY) | refine RetOk.mk ?_ | refine RetT.mk ?_)); simp (maxSteps := 10000000) (implicitDefEqProofs := false) only [go_sem]))
  · have hA := fun γ => tally_leaf γ (s + 18) g x (c + pre.length) (by omega) hp
    by_cases h5 : c + pre.length + 1 ≤ 400
    · simp only [h5, decide_true] at hA
      have e1 : c + (pre.length : Int) + 1 = c + ((pre ++ [x]).length : Int) := by simp; omega
      rw [e1] at hA h5
      clear e1 hs hb hc'
      repeat' (first | (with_reducible refine a_seq_k ?_; intro K hK) | (with_reducible first | refine a_block ?_ | refine a_ret ?_ | refine a_exit ?_ | refine a_skip ?_ | exact ConfOk.mk (by kernel_rfl)) | ((fail_if_success with_reducible show False); with_reducible apply_assumption (exfalso := false) (symm := false) only [*, rfl, trivial, congrArg]) | with_reducible refine And.intro ?_ ?_ | (intro h; contradiction) | (intro h; subst h) | intro h | ((try (with_reducible first | refine a_region (by kernel_rfl) ?_ | (refine a_draw mixed (by kernel_rfl) ?_; intro C hC) | (refine a_cond_k ?_; intro X Y hX hY) | refine RetOk.mk ?_ | refine RetT.mk ?_ | refine CallS.tal (hA _) ?_ ?_ | refine CallD.tal (hA _) ?_ ?_)); simp (maxSteps := 10000000) (implicitDefEqProofs := false) only [go_sem, hw, lfE]))
      all_goals exact ⟨⟨rest.length, by simp, pre ++ [x], rest, by simp, rfl, h5, ⟨rfl, by simp, by simp, by simp, by simp⟩⟩⟩
    · simp only [h5, decide_false] at hA
      have e1 : c + (pre.length : Int) + 1 = 401 := by omega
      rw [e1] at hA
      rw [if_neg (by simp; omega)] at hc'
      have hb2 : b = false := by rw [hb]; simp; omega
      subst hb2 hc'
      clear e1 hs hb
      repeat' (first | (with_reducible refine a_seq_k ?_; intro K hK) | (with_reducible first | refine a_block ?_ | refine a_ret ?_ | refine a_exit ?_ | refine a_skip ?_ | exact ConfOk.mk (by kernel_rfl)) | ((fail_if_success with_reducible show False); with_reducible apply_assumption (exfalso := false) (symm := false) only [*, rfl, trivial, congrArg]) | with_reducible refine And.intro ?_ ?_ | (intro h; contradiction) | (intro h; subst h) | intro h | ((try (with_reducible first | refine a_region (by kernel_rfl) ?_ | (refine a_draw mixed (by kernel_rfl) ?_; intro C hC) | (refine a_cond_k ?_; intro X Y hX hY) | refine RetOk.mk ?_ | refine RetT.mk ?_ | refine CallS.tal (hA _) ?_ ?_ | refine CallD.tal (hA _) ?_ ?_)); simp (maxSteps := 10000000) (implicitDefEqProofs := false) only [go_sem, hw, lfE]))
@[reducible] def ndE (op : Int) (ks : AV) : List AV := [.int .u8 op, .int .u8 0, .int .i64 0, .str ⟨#[]⟩, .int .i64 0, .int .i64 0, ks, .nils]
def szI (n : Nat) : Int := if 400 ≤ n then 401 else (n : Int) + 1
theorem tally_node (γ s g : Nat) (op : Int) (is : List Nat) (hl : is.length < 2 ^ 40) : MCalls Tryz.prog 77 γ [.ptr s g 0, .agg (ndE op (.slice (is.map lfE)))] (one s g 0) (.bool (decide (1 + (is.length : Int) ≤ 400))) (one s g (szI is.length)) := by
  have hA := fun γ => tally_add γ (s + 21) g 0 (by omega) (by omega)
  have hB := fun γ => tally_leaves γ (s + 21) g is hl 1 (by omega) (by omega)
  have hp := fun c => all_nilsP (.mfunc (.func 147) [.cptr [.int .i64 c]]) ⟨c, rfl⟩
  simp only [show decide ((0 : Int) + 1 ≤ 400) = true from rfl, show (0 : Int) + 1 = 1 from rfl] at hA
  have e : (if (1 : Int) + is.length ≤ 400 then 1 + (is.length : Int) else 401) = szI is.length := by unfold szI; split <;> split <;> omega
  rw [e] at hB
  generalize szI is.length = c' at *
  generalize decide (1 + (is.length : Int) ≤ 400) = b at *
  clear e
  cases b
  · refine mcalls_t (args' := [.ptr (s + 21) g 0, .agg (ndE op (.slice (is.map lfE)))]) Tryz.func77 rfl (by kernel_rfl) (congrArg Array.toList Tryz.results77) Tryz.ntmps77 rfl ?_
    intro R hR
    simp only [List.length_cons, List.length_nil, Nat.reduceAdd, Nat.reduceSub, List.replicate_succ, List.replicate_zero, List.cons_append, List.nil_append]
    repeat' (first | (with_reducible refine a_seq_k ?_; intro K hK) | (with_reducible first | refine a_block ?_ | refine a_ret ?_ | refine a_exit ?_ | refine a_skip ?_ | exact ConfOk.mk (by kernel_rfl)) | ((fail_if_success with_reducible show False); with_reducible apply_assumption (exfalso := false) (symm := false) only [*, rfl, trivial, congrArg]) | with_reducible refine And.intro ?_ ?_ | (intro h; contradiction) | (intro h; subst h) | intro h | ((try (with_reducible first | refine a_region (by kernel_rfl) ?_ | (refine a_draw mixed (by kernel_rfl) ?_; intro C hC) | (refine a_cond_k ?_; intro X Y hX hY) | refine RetOk.mk ?_ | refine RetT.mk ?_ | refine CallS.tal (hA _) ?_ ?_ | refine CallD.tal (hA _) ?_ ?_ | refine CallS.tal (hB _) ?_ ?_ | refine CallD.tal (hB _) ?_ ?_ | refine CallS.intro (hp _) ?_ | refine CallD.intro (hp _) ?_)); simp (maxSteps := 10000000) (implicitDefEqProofs := false) only [go_sem, ndE]))
  · refine mcalls_t (args' := [.ptr (s + 21) g 0, .agg (ndE op (.slice (is.map lfE)))]) Tryz.func77 rfl (by kernel_rfl) (congrArg Array.toList Tryz.results77) Tryz.ntmps77 rfl ?_
    intro R hR
    simp only [List.length_cons, List.length_nil, Nat.reduceAdd, Nat.reduceSub, List.replicate_succ, List.replicate_zero, List.cons_append, List.nil_append]
    repeat' (first | (with_reducible refine a_seq_k ?_; intro K hK) | (with_reducible first | refine a_block ?_ | refine a_ret ?_ | refine a_exit ?_ | refine a_skip ?_ | exact ConfOk.mk (by kernel_rfl)) | ((fail_if_success with_reducible show False); with_reducible apply_assumption (exfalso := false) (symm := false) only [*, rfl, trivial, congrArg]) | with_reducible refine And.intro ?_ ?_ | (intro h; contradiction) | (intro h; subst h) | intro h | ((try (with_reducible first | refine a_region (by kernel_rfl) ?_ | (refine a_draw mixed (by kernel_rfl) ?_; intro C hC) | (refine a_cond_k ?_; intro X Y hX hY) | refine RetOk.mk ?_ | refine RetT.mk ?_ | refine CallS.tal (hA _) ?_ ?_ | refine CallD.tal (hA _) ?_ ?_ | refine CallS.tal (hB _) ?_ ?_ | refine CallD.tal (hB _) ?_ ?_ | refine CallS.intro (hp _) ?_ | refine CallD.intro (hp _) ?_)); simp (maxSteps := 10000000) (implicitDefEqProofs := false) only [go_sem, ndE]))
theorem tally_nil (γ s g : Nat) (op : Int) : MCalls Tryz.prog 77 γ [.ptr s g 0, .agg (ndE op .nils)] (one s g 0) (.bool true) (one s g 1) := by
  have hA := fun γ => tally_add γ (s + 21) g 0 (by omega) (by omega)
  have hn := fun c => all_nils (.mfunc (.func 77) [.cptr [.int .i64 c]]) ⟨c, rfl⟩
  have hp := fun c => all_nilsP (.mfunc (.func 147) [.cptr [.int .i64 c]]) ⟨c, rfl⟩
  simp only [show decide ((0 : Int) + 1 ≤ 400) = true from rfl, show (0 : Int) + 1 = 1 from rfl] at hA
  refine mcalls_t (args' := [.ptr (s + 21) g 0, .agg (ndE op .nils)]) Tryz.func77 rfl (by kernel_rfl) (congrArg Array.toList Tryz.results77) Tryz.ntmps77 rfl ?_
  intro R hR
  simp only [List.length_cons, List.length_nil, Nat.reduceAdd, Nat.reduceSub, List.replicate_succ, List.replicate_zero, List.cons_append, List.nil_append]
  repeat' (first | (with_reducible refine a_seq_k ?_; intro K hK) | (with_reducible first | refine a_block ?_ | refine a_ret ?_ | refine a_exit ?_ | refine a_skip ?_ | exact ConfOk.mk (by kernel_rfl)) | ((fail_if_success with_reducible show False); with_reducible apply_assumption (exfalso := false) (symm := false) only [*, rfl, trivial, congrArg]) | with_reducible refine And.intro ?_ ?_ | (intro h; contradiction) | (intro h; subst h) | intro h | ((try (with_reducible first | refine a_region (by kernel_rfl) ?_ | (refine a_draw mixed (by kernel_rfl) ?_; intro C hC) | (refine a_cond_k ?_; intro X Y hX hY) | refine RetOk.mk ?_ | refine RetT.mk ?_ | refine CallS.tal (hA _) ?_ ?_ | refine CallD.tal (hA _) ?_ ?_ | refine CallS.intro (hn _) ?_ | refine CallD.intro (hn _) ?_ | refine CallS.intro (hp _) ?_ | refine CallD.intro (hp _) ?_)); simp (maxSteps := 10000000) (implicitDefEqProofs := false) only [go_sem, ndE]))
theorem size_node (op : Int) (is : List Nat) (hl : is.length < 2 ^ 40) : ACalls Tryz.prog 36 [.agg (ndE op (.slice (is.map lfE)))] (.int .i64 (szI is.length)) := by
  have hA := fun γ s g => tally_node γ s g op is hl
  refine acalls_k Tryz.func36 rfl (by kernel_rfl) (congrArg Array.toList Tryz.results36) Tryz.ntmps36 ?_
  intro R hR
  simp only [st0, List.length_cons, List.length_nil, Nat.reduceAdd, Nat.reduceSub, List.replicate_succ, List.replicate_zero, List.cons_append, List.nil_append]
  repeat' (first | (with_reducible refine a_seq_k ?_; intro K hK) | (with_reducible first | refine a_block ?_ | refine a_ret ?_ | refine a_exit ?_ | refine a_skip ?_ | exact ConfOk.mk (by kernel_rfl)) | ((fail_if_success with_reducible show False); with_reducible apply_assumption (exfalso := false) (symm := false) only [*, rfl, trivial, congrArg]) | with_reducible refine And.intro ?_ ?_ | (intro h; contradiction) | (intro h; subst h) | intro h | ((try (with_reducible first | refine a_region (by kernel_rfl) ?_ | (refine a_draw mixed (by kernel_rfl) ?_; intro C hC) | (refine a_cond_k ?_; intro X Y hX hY) | refine RetOk.mk ?_ | refine CallS.tal (hA _ _ _) ?_ ?_ | refine CallD.tal (hA _ _ _) ?_ ?_)); simp (maxSteps := 10000000) (implicitDefEqProofs := false) only [go_sem, ndE]))
theorem size_nil (op : Int) : ACalls Tryz.prog 36 [.agg (ndE op .nils)] (.int .i64 1) := by
  have hA := fun γ s g => tally_nil γ s g op
  refine acalls_k Tryz.func36 rfl (by kernel_rfl) (congrArg Array.toList Tryz.results36) Tryz.ntmps36 ?_
  intro R hR
  simp only [st0, List.length_cons, List.length_nil, Nat.reduceAdd, Nat.reduceSub, List.replicate_succ, List.replicate_zero, List.cons_append, List.nil_append]
  repeat' (first | (with_reducible refine a_seq_k ?_; intro K hK) | (with_reducible first | refine a_block ?_ | refine a_ret ?_ | refine a_exit ?_ | refine a_skip ?_ | exact ConfOk.mk (by kernel_rfl)) | ((fail_if_success with_reducible show False); with_reducible apply_assumption (exfalso := false) (symm := false) only [*, rfl, trivial, congrArg]) | with_reducible refine And.intro ?_ ?_ | (intro h; contradiction) | (intro h; subst h) | intro h | ((try (with_reducible first | refine a_region (by kernel_rfl) ?_ | (refine a_draw mixed (by kernel_rfl) ?_; intro C hC) | (refine a_cond_k ?_; intro X Y hX hY) | refine RetOk.mk ?_ | refine CallS.tal (hA _ _ _) ?_ ?_ | refine CallD.tal (hA _ _ _) ?_ ?_)); simp (maxSteps := 10000000) (implicitDefEqProofs := false) only [go_sem, ndE]))
-- @enc(kd)@
attribute [local go_sem] memS memS0 memT allocB
@[reducible] def feA : AV := .func (.func 37) []
@[reducible] def pkA : AV := .func (.func 76) []
def fmtP (op : Int) (n : Nat) : Bool := ((decide (op = 0) || decide (op = 2)) && decide (n = 0)) || (decide (4 ≤ op) && decide (op ≤ 26))
theorem within2 (n : Nat) (h : n ≤ 2147483647) : ACalls Tryz.prog 79 [.slice [[.int .i64 0], [.int .i64 n]]] (.bool true) := by
  have hw : IntKind.wrap .u64 (n : Int) = n := by rw [wrap_u64]; omega
  have hw0 : IntKind.wrap .u64 (0 : Int) = 0 := by rw [wrap_u64]; rfl
  have c1 : (2147483647 < (n : Int)) = False := by simp; omega
  have w1 : IntKind.wrap .i64 1 = 1 := rfl
  have w2 : IntKind.wrap .i64 2 = 2 := rfl
  refine acalls_k Tryz.func79 rfl (by kernel_rfl) (congrArg Array.toList Tryz.results79) Tryz.ntmps79 ?_
  intro R hR
  simp only [st0, List.length_cons, List.length_nil, Nat.reduceAdd, Nat.reduceSub, List.replicate_succ, List.replicate_zero, List.cons_append, List.nil_append]
  repeat' (first | (with_reducible refine a_seq_k ?_; intro K hK) | (with_reducible first | refine a_block ?_ | refine a_ret ?_ | refine a_exit ?_ | refine a_skip ?_ | exact ConfOk.mk (by kernel_rfl)) | ((fail_if_success with_reducible show False); with_reducible apply_assumption (exfalso := false) (symm := false) only [*, rfl, trivial, congrArg]) | with_reducible refine And.intro ?_ ?_ | (intro h; contradiction) | (intro h; subst h) | intro h | ((try (with_reducible first | refine a_region (by kernel_rfl) ?_ | (refine a_draw mixed (by kernel_rfl) ?_; intro C hC) | (refine a_cond_k ?_; intro X Y hX hY) | refine RetOk.mk ?_)); simp (maxSteps := 10000000) (implicitDefEqProofs := false) only [go_sem]))
  refine a_loop_k (fun m st => ∃ i : Nat, m + i = 2 ∧ Has st 15 [(5, .slice [[.int .i64 0], [.int .i64 n]]), (6, .int .i64 2), (7, .int .i64 i)] []) 2 ⟨0, rfl, ⟨rfl, rfl, by simp, by simp⟩⟩ ?_
  rintro m st ⟨i, hi, hs⟩ K hK
  refine a_has hs fun τ σ γ => ?_
  have hi3 : i = 0 ∨ i = 1 ∨ i = 2 := by omega
  rcases hi3 with rfl | rfl | rfl
  · simp only [castn0] at *
    repeat' (first | (with_reducible refine a_seq_k ?_; intro K hK) | (with_reducible first | refine a_block ?_ | refine a_ret ?_ | refine a_exit ?_ | refine a_skip ?_ | exact ConfOk.mk (by kernel_rfl)) | ((fail_if_success with_reducible show False); with_reducible apply_assumption (exfalso := false) (symm := false) only [*, rfl, trivial, congrArg]) | with_reducible refine And.intro ?_ ?_ | (intro h; contradiction) | (intro h; subst h) | intro h | ((try (with_reducible first | refine a_region (by kernel_rfl) ?_ | (refine a_draw mixed (by kernel_rfl) ?_; intro C hC) | (refine a_cond_k ?_; intro X Y hX hY) | refine RetOk.mk ?_)); simp (maxSteps := 10000000) (implicitDefEqProofs := false) only [go_sem, hw0, w1, Int.toNat_zero]))
    all_goals exact ⟨⟨1, by omega, 1, rfl, ⟨rfl, rfl, by simp, by simp⟩⟩⟩
  · simp only [castn1] at *
    repeat' (first | (with_reducible refine a_seq_k ?_; intro K hK) | (with_reducible first | refine a_block ?_ | refine a_ret ?_ | refine a_exit ?_ | refine a_skip ?_ | exact ConfOk.mk (by kernel_rfl)) | ((fail_if_success with_reducible show False); with_reducible apply_assumption (exfalso := false) (symm := false) only [*, rfl, trivial, congrArg]) | with_reducible refine And.intro ?_ ?_ | (intro h; contradiction) | (intro h; subst h) | intro h | ((try (with_reducible first | refine a_region (by kernel_rfl) ?_ | (refine a_draw mixed (by kernel_rfl) ?_; intro C hC) | (refine a_cond_k ?_; intro X Y hX hY) | refine RetOk.mk ?_)); simp (maxSteps := 10000000) (implicitDefEqProofs := false) only [go_sem, hw, w2, c1, Int.toNat_one]))
    all_goals exact ⟨⟨0, by omega, 2, rfl, ⟨rfl, rfl, by simp, by simp⟩⟩⟩
  · simp only [castn2] at *
    repeat' (first | (with_reducible refine a_seq_k ?_; intro K hK) | (with_reducible first | refine a_block ?_ | refine a_ret ?_ | refine a_exit ?_ | refine a_skip ?_ | exact ConfOk.mk (by kernel_rfl)) | ((fail_if_success with_reducible show False); with_reducible apply_assumption (exfalso := false) (symm := false) only [*, rfl, trivial, congrArg]) | with_reducible refine And.intro ?_ ?_ | (intro h; contradiction) | (intro h; subst h) | intro h | ((try (with_reducible first | refine a_region (by kernel_rfl) ?_ | (refine a_draw mixed (by kernel_rfl) ?_; intro C hC) | (refine a_cond_k ?_; intro X Y hX hY) | refine RetOk.mk ?_)); simp (maxSteps := 10000000) (implicitDefEqProofs := false) only [go_sem]))
theorem all_nils2 (f : AV) (hf : f = .func (.func 37) []) : ACalls Tryz.prog 80 [.nils, f] (.bool true) := by
  subst hf
  refine acalls_k Tryz.func80 rfl (by kernel_rfl) (congrArg Array.toList Tryz.results80) Tryz.ntmps80 ?_
  intro R hR
  simp only [st0, List.length_cons, List.length_nil, Nat.reduceAdd, Nat.reduceSub, List.replicate_succ, List.replicate_zero, List.cons_append, List.nil_append]
  repeat' (first | (with_reducible refine a_seq_k ?_; intro K hK) | (with_reducible first | refine a_block ?_ | refine a_ret ?_ | refine a_exit ?_ | refine a_skip ?_ | exact ConfOk.mk (by kernel_rfl)) | ((fail_if_success with_reducible show False); with_reducible apply_assumption (exfalso := false) (symm := false) only [*, rfl, trivial, congrArg]) | with_reducible refine And.intro ?_ ?_ | (intro h; contradiction) | (intro h; subst h) | intro h | ((try (with_reducible first | refine a_region (by kernel_rfl) ?_ | (refine a_draw mixed (by kernel_rfl) ?_; intro C hC) | (refine a_cond_k ?_; intro X Y hX hY) | refine RetOk.mk ?_)); simp (maxSteps := 10000000) (implicitDefEqProofs := false) only [go_sem]))
  refine a_onceT fun K => ?_
  repeat' (first | (with_reducible refine a_seq_k ?_; intro K hK) | (with_reducible first | refine a_block ?_ | refine a_ret ?_ | refine a_exit ?_ | refine a_skip ?_ | exact ConfOk.mk (by kernel_rfl)) | ((fail_if_success with_reducible show False); with_reducible apply_assumption (exfalso := false) (symm := false) only [*, rfl, trivial, congrArg]) | with_reducible refine And.intro ?_ ?_ | (intro h; contradiction) | (intro h; subst h) | intro h | ((try (with_reducible first | refine a_region (by kernel_rfl) ?_ | (refine a_draw mixed (by kernel_rfl) ?_; intro C hC) | (refine a_cond_k ?_; intro X Y hX hY) | refine RetOk.mk ?_)); simp (maxSteps := 10000000) (implicitDefEqProofs := false) only [go_sem]))
theorem all_nilsP2 (f : AV) (hf : f = .func (.func 82) []) : ACalls Tryz.prog 81 [.nils, f] (.bool true) := by
  subst hf
  refine acalls_k Tryz.func81 rfl (by kernel_rfl) (congrArg Array.toList Tryz.results81) Tryz.ntmps81 ?_
  intro R hR
  simp only [st0, List.length_cons, List.length_nil, Nat.reduceAdd, Nat.reduceSub, List.replicate_succ, List.replicate_zero, List.cons_append, List.nil_append]
  repeat' (first | (with_reducible refine a_seq_k ?_; intro K hK) | (with_reducible first | refine a_block ?_ | refine a_ret ?_ | refine a_exit ?_ | refine a_skip ?_ | exact ConfOk.mk (by kernel_rfl)) | ((fail_if_success with_reducible show False); with_reducible apply_assumption (exfalso := false) (symm := false) only [*, rfl, trivial, congrArg]) | with_reducible refine And.intro ?_ ?_ | (intro h; contradiction) | (intro h; subst h) | intro h | ((try (with_reducible first | refine a_region (by kernel_rfl) ?_ | (refine a_draw mixed (by kernel_rfl) ?_; intro C hC) | (refine a_cond_k ?_; intro X Y hX hY) | refine RetOk.mk ?_)); simp (maxSteps := 10000000) (implicitDefEqProofs := false) only [go_sem]))
  refine a_onceT fun K => ?_
  repeat' (first | (with_reducible refine a_seq_k ?_; intro K hK) | (with_reducible first | refine a_block ?_ | refine a_ret ?_ | refine a_exit ?_ | refine a_skip ?_ | exact ConfOk.mk (by kernel_rfl)) | ((fail_if_success with_reducible show False); with_reducible apply_assumption (exfalso := false) (symm := false) only [*, rfl, trivial, congrArg]) | with_reducible refine And.intro ?_ ?_ | (intro h; contradiction) | (intro h; subst h) | intro h | ((try (with_reducible first | refine a_region (by kernel_rfl) ?_ | (refine a_draw mixed (by kernel_rfl) ?_; intro C hC) | (refine a_cond_k ?_; intro X Y hX hY) | refine RetOk.mk ?_)); simp (maxSteps := 10000000) (implicitDefEqProofs := false) only [go_sem]))
theorem form_leaf (i : Nat) (h : i ≤ 2147483647) : ACalls Tryz.prog 37 [.agg (lfE i)] (.bool true) := by
  have h1 := within2 i h
  have h2 := all_nils2 _ rfl
  have h3 := all_nilsP2 _ rfl
  refine acalls_k Tryz.func37 rfl (by kernel_rfl) (congrArg Array.toList Tryz.results37) Tryz.ntmps37 ?_
  intro R hR
  simp only [st0, List.length_cons, List.length_nil, Nat.reduceAdd, Nat.reduceSub, List.replicate_succ, List.replicate_zero, List.cons_append, List.nil_append]
  repeat' (first | (with_reducible refine a_seq_k ?_; intro K hK) | (with_reducible first | refine a_block ?_ | refine a_ret ?_ | refine a_exit ?_ | refine a_skip ?_ | exact ConfOk.mk (by kernel_rfl)) | (with_reducible refine eqT_of (eq33 _ _ _ _ _ _) ?_; simp) | (with_reducible refine eqT_of (eq35 _ _ _ _ _ _ _ _) ?_; simp) | ((fail_if_success with_reducible show False); with_reducible apply_assumption (exfalso := false) (symm := false) only [*, rfl, trivial, congrArg]) | with_reducible refine And.intro ?_ ?_ | (intro h; contradiction) | (intro h; subst h) | intro h | ((try (with_reducible first | refine a_region (by kernel_rfl) ?_ | (refine a_draw mixed (by kernel_rfl) ?_; intro C hC) | (refine a_cond_k ?_; intro X Y hX hY) | refine RetOk.mk ?_ | refine CallS.intro (h1) ?_ | refine CallD.intro (h1) ?_ | refine CallS.intro (h2) ?_ | refine CallD.intro (h2) ?_ | refine CallS.intro (h3) ?_ | refine CallD.intro (h3) ?_)); simp (maxSteps := 10000000) (implicitDefEqProofs := false) only [go_sem, lfE]))
theorem all_form (is : List Nat) (hl : is.length < 2 ^ 40) (h : ∀ i ∈ is, i ≤ 2147483647) : ACalls Tryz.prog 80 [.slice (is.map lfE), .func (.func 37) []] (.bool true) := by
  have hc := fun i h => form_leaf i h
  simp only [lfE] at hc
  refine acalls_k Tryz.func80 rfl (by kernel_rfl) (congrArg Array.toList Tryz.results80) Tryz.ntmps80 ?_
  intro R hR
  simp only [st0, List.length_cons, List.length_nil, Nat.reduceAdd, Nat.reduceSub, List.replicate_succ, List.replicate_zero, List.cons_append, List.nil_append]
  repeat' (first | (with_reducible refine a_seq_k ?_; intro K hK) | (with_reducible first | refine a_block ?_ | refine a_ret ?_ | refine a_exit ?_ | refine a_skip ?_ | exact ConfOk.mk (by kernel_rfl)) | ((fail_if_success with_reducible show False); with_reducible apply_assumption (exfalso := false) (symm := false) only [*, rfl, trivial, congrArg]) | with_reducible refine And.intro ?_ ?_ | (intro h; contradiction) | (intro h; subst h) | intro h | ((try (with_reducible first | refine a_region (by kernel_rfl) ?_ | (refine a_draw mixed (by kernel_rfl) ?_; intro C hC) | (refine a_cond_k ?_; intro X Y hX hY) | refine RetOk.mk ?_)); simp (maxSteps := 10000000) (implicitDefEqProofs := false) only [go_sem]))
  refine a_loop_k (fun n st => ∃ (g : Nat) (pre rest : List _) (u : Unit), is = pre ++ rest ∧ n = rest.length ∧ (True) ∧ Has st 18 [(1, feA), (7, .slice (is.map lfE)), (8, .int .i64 is.length), (9, .int .i64 pre.length)] []) (is).length ⟨0, [], is, (), rfl, rfl, trivial, ⟨rfl, rfl, by simp [kd], by simp [kd]⟩⟩ ?_
  rintro n st ⟨g, pre, rest, u, he, rfl, hp, hs⟩ K hK
  have hw := wrap_nat pre.length (by have := congrArg List.length he; simp at this; omega)
  subst he
  refine a_has hs fun τ σ γ => ?_
  rcases rest with _ | ⟨x, rest⟩
  · simp only [List.append_nil] at *
    repeat' (first | (with_reducible refine a_seq_k ?_; intro K hK) | (with_reducible first | refine a_block ?_ | refine a_ret ?_ | refine a_exit ?_ | refine a_skip ?_ | exact ConfOk.mk (by kernel_rfl)) | ((fail_if_success with_reducible show False); with_reducible apply_assumption (exfalso := false) (symm := false) only [*, rfl, trivial, congrArg]) | with_reducible refine And.intro ?_ ?_ | (intro h; contradiction) | (intro h; subst h) | intro h | ((try (with_reducible first | refine a_region (by kernel_rfl) ?_ | (refine a_draw mixed (by kernel_rfl) ?_; intro C hC) | (refine a_cond_k ?_; intro X Y hX hY) | refine RetOk.mk ?_)); simp (maxSteps := 10000000) (implicitDefEqProofs := false) only [go_sem]))
  · have hx := hc x (h x (by simp))
    repeat' (first | (with_reducible refine a_seq_k ?_; intro K hK) | (with_reducible first | refine a_block ?_ | refine a_ret ?_ | refine a_exit ?_ | refine a_skip ?_ | exact ConfOk.mk (by kernel_rfl)) | ((fail_if_success with_reducible show False); with_reducible apply_assumption (exfalso := false) (symm := false) only [*, rfl, trivial, congrArg]) | with_reducible refine And.intro ?_ ?_ | (intro h; contradiction) | (intro h; subst h) | intro h | ((try (with_reducible first | refine a_region (by kernel_rfl) ?_ | (refine a_draw mixed (by kernel_rfl) ?_; intro C hC) | (refine a_cond_k ?_; intro X Y hX hY) | refine RetOk.mk ?_ | refine CallS.intro (hx) ?_ | refine CallD.intro (hx) ?_)); simp (maxSteps := 10000000) (implicitDefEqProofs := false) only [go_sem, lfE, hw]))
    all_goals exact ⟨⟨rest.length, by simp, 0, pre ++ [x], rest, (), by simp, rfl, ⟨rfl, rfl, by simp, by simp⟩⟩⟩
theorem v0 : vOkC 0 0 ⟨#[]⟩ = true := by simp [vOkC]
theorem form_node (op : Int) (h0 : 0 ≤ op) (ks : AV) (n : Nat) (hn : n < 2 ^ 40) (hk : (ks = .nils ∧ n = 0) ∨ ∃ is : List Nat, ks = .slice (is.map lfE) ∧ n = is.length) (ha : ACalls Tryz.prog 80 [ks, .func (.func 37) []] (.bool true)) : ACalls Tryz.prog 37 [.agg (ndE op ks)] (.bool (fmtP op n)) := by
  have h3 := all_nilsP2 _ rfl
  have h4 := value_Valid 0 0 ⟨#[]⟩
  have h5 := within2 0 (by omega)
  simp only [vA, v0] at h4
  simp only [castn0] at h5
  have ho : op = 0 ∨ op = 2 ∨ (op = 1 ∨ op = 3 ∨ op = 27 ∨ op = 28 ∨ op = 29) ∨ 29 < op ∨ (op ≠ 0 ∧ op ≠ 1 ∧ op ≠ 2 ∧ op ≠ 3 ∧ op ≠ 27 ∧ op ≠ 28 ∧ op ≠ 29 ∧ 4 ≤ op ∧ op ≤ 26) := by omega
  rcases ho with rfl | rfl | ho | ho | ⟨o0, o1, o2, o3, o7, o8, o9, o4, o26⟩
  · rcases hk with ⟨rfl, rfl⟩ | ⟨is, rfl, rfl⟩
    · rw [show fmtP 0 0 = true from rfl]
      refine acalls_k Tryz.func37 rfl (by kernel_rfl) (congrArg Array.toList Tryz.results37) Tryz.ntmps37 ?_
      intro R hR
      simp only [st0, List.length_cons, List.length_nil, Nat.reduceAdd, Nat.reduceSub, List.replicate_succ, List.replicate_zero, List.cons_append, List.nil_append]
      repeat' (first | (with_reducible refine a_seq_k ?_; intro K hK) | (with_reducible first | refine a_block ?_ | refine a_ret ?_ | refine a_exit ?_ | refine a_skip ?_ | exact ConfOk.mk (by kernel_rfl)) | (with_reducible refine eqT_of (eq33 _ _ _ _ _ _) ?_; simp) | (with_reducible refine eqT_of (eq35 _ _ _ _ _ _ _ _) ?_; simp) | ((fail_if_success with_reducible show False); with_reducible apply_assumption (exfalso := false) (symm := false) only [*, rfl, trivial, congrArg]) | with_reducible refine And.intro ?_ ?_ | (intro h; contradiction) | (intro h; subst h) | intro h | ((try (with_reducible first | refine a_region (by kernel_rfl) ?_ | (refine a_draw mixed (by kernel_rfl) ?_; intro C hC) | (refine a_cond_k ?_; intro X Y hX hY) | refine RetOk.mk ?_ | refine CallS.intro (h3) ?_ | refine CallD.intro (h3) ?_ | refine CallS.intro (h4) ?_ | refine CallD.intro (h4) ?_ | refine CallS.intro (h5) ?_ | refine CallD.intro (h5) ?_ | refine CallS.intro (ha) ?_ | refine CallD.intro (ha) ?_)); simp (maxSteps := 10000000) (implicitDefEqProofs := false) only [go_sem, ndE]))
    · rw [show fmtP 0 is.length = decide (is.length = 0) by simp [fmtP]]
      by_cases hi : is.length = 0
      · have c1 : (is.length : Int) = 0 := by omega
        rw [decide_eq_true hi]
        refine acalls_k Tryz.func37 rfl (by kernel_rfl) (congrArg Array.toList Tryz.results37) Tryz.ntmps37 ?_
        intro R hR
        simp only [st0, List.length_cons, List.length_nil, Nat.reduceAdd, Nat.reduceSub, List.replicate_succ, List.replicate_zero, List.cons_append, List.nil_append]
        repeat' (first | (with_reducible refine a_seq_k ?_; intro K hK) | (with_reducible first | refine a_block ?_ | refine a_ret ?_ | refine a_exit ?_ | refine a_skip ?_ | exact ConfOk.mk (by kernel_rfl)) | (with_reducible refine eqT_of (eq33 _ _ _ _ _ _) ?_; simp) | (with_reducible refine eqT_of (eq35 _ _ _ _ _ _ _ _) ?_; simp) | ((fail_if_success with_reducible show False); with_reducible apply_assumption (exfalso := false) (symm := false) only [*, rfl, trivial, congrArg]) | with_reducible refine And.intro ?_ ?_ | (intro h; contradiction) | (intro h; subst h) | intro h | ((try (with_reducible first | refine a_region (by kernel_rfl) ?_ | (refine a_draw mixed (by kernel_rfl) ?_; intro C hC) | (refine a_cond_k ?_; intro X Y hX hY) | refine RetOk.mk ?_ | refine CallS.intro (h3) ?_ | refine CallD.intro (h3) ?_ | refine CallS.intro (h4) ?_ | refine CallD.intro (h4) ?_ | refine CallS.intro (h5) ?_ | refine CallD.intro (h5) ?_ | refine CallS.intro (ha) ?_ | refine CallD.intro (ha) ?_)); simp (maxSteps := 10000000) (implicitDefEqProofs := false) only [go_sem, ndE, c1]))
      · have c1 : ((is.length : Int) = 0) = False := by simp; exact fun h => hi (by simp [h])
        rw [decide_eq_false hi]
        refine acalls_k Tryz.func37 rfl (by kernel_rfl) (congrArg Array.toList Tryz.results37) Tryz.ntmps37 ?_
        intro R hR
        simp only [st0, List.length_cons, List.length_nil, Nat.reduceAdd, Nat.reduceSub, List.replicate_succ, List.replicate_zero, List.cons_append, List.nil_append]
        repeat' (first | (with_reducible refine a_seq_k ?_; intro K hK) | (with_reducible first | refine a_block ?_ | refine a_ret ?_ | refine a_exit ?_ | refine a_skip ?_ | exact ConfOk.mk (by kernel_rfl)) | (with_reducible refine eqT_of (eq33 _ _ _ _ _ _) ?_; simp) | (with_reducible refine eqT_of (eq35 _ _ _ _ _ _ _ _) ?_; simp) | ((fail_if_success with_reducible show False); with_reducible apply_assumption (exfalso := false) (symm := false) only [*, rfl, trivial, congrArg]) | with_reducible refine And.intro ?_ ?_ | (intro h; contradiction) | (intro h; subst h) | intro h | ((try (with_reducible first | refine a_region (by kernel_rfl) ?_ | (refine a_draw mixed (by kernel_rfl) ?_; intro C hC) | (refine a_cond_k ?_; intro X Y hX hY) | refine RetOk.mk ?_ | refine CallS.intro (h3) ?_ | refine CallD.intro (h3) ?_ | refine CallS.intro (h4) ?_ | refine CallD.intro (h4) ?_ | refine CallS.intro (h5) ?_ | refine CallD.intro (h5) ?_ | refine CallS.intro (ha) ?_ | refine CallD.intro (ha) ?_)); simp (maxSteps := 10000000) (implicitDefEqProofs := false) only [go_sem, ndE, c1]))
  · rcases hk with ⟨rfl, rfl⟩ | ⟨is, rfl, rfl⟩
    · rw [show fmtP 2 0 = true from rfl]
      refine acalls_k Tryz.func37 rfl (by kernel_rfl) (congrArg Array.toList Tryz.results37) Tryz.ntmps37 ?_
      intro R hR
      simp only [st0, List.length_cons, List.length_nil, Nat.reduceAdd, Nat.reduceSub, List.replicate_succ, List.replicate_zero, List.cons_append, List.nil_append]
      repeat' (first | (with_reducible refine a_seq_k ?_; intro K hK) | (with_reducible first | refine a_block ?_ | refine a_ret ?_ | refine a_exit ?_ | refine a_skip ?_ | exact ConfOk.mk (by kernel_rfl)) | (with_reducible refine eqT_of (eq33 _ _ _ _ _ _) ?_; simp) | (with_reducible refine eqT_of (eq35 _ _ _ _ _ _ _ _) ?_; simp) | ((fail_if_success with_reducible show False); with_reducible apply_assumption (exfalso := false) (symm := false) only [*, rfl, trivial, congrArg]) | with_reducible refine And.intro ?_ ?_ | (intro h; contradiction) | (intro h; subst h) | intro h | ((try (with_reducible first | refine a_region (by kernel_rfl) ?_ | (refine a_draw mixed (by kernel_rfl) ?_; intro C hC) | (refine a_cond_k ?_; intro X Y hX hY) | refine RetOk.mk ?_ | refine CallS.intro (h3) ?_ | refine CallD.intro (h3) ?_ | refine CallS.intro (h4) ?_ | refine CallD.intro (h4) ?_ | refine CallS.intro (h5) ?_ | refine CallD.intro (h5) ?_ | refine CallS.intro (ha) ?_ | refine CallD.intro (ha) ?_)); simp (maxSteps := 10000000) (implicitDefEqProofs := false) only [go_sem, ndE]))
    · rw [show fmtP 2 is.length = decide (is.length = 0) by simp [fmtP]]
      by_cases hi : is.length = 0
      · have c1 : (is.length : Int) = 0 := by omega
        rw [decide_eq_true hi]
        refine acalls_k Tryz.func37 rfl (by kernel_rfl) (congrArg Array.toList Tryz.results37) Tryz.ntmps37 ?_
        intro R hR
        simp only [st0, List.length_cons, List.length_nil, Nat.reduceAdd, Nat.reduceSub, List.replicate_succ, List.replicate_zero, List.cons_append, List.nil_append]
        repeat' (first | (with_reducible refine a_seq_k ?_; intro K hK) | (with_reducible first | refine a_block ?_ | refine a_ret ?_ | refine a_exit ?_ | refine a_skip ?_ | exact ConfOk.mk (by kernel_rfl)) | (with_reducible refine eqT_of (eq33 _ _ _ _ _ _) ?_; simp) | (with_reducible refine eqT_of (eq35 _ _ _ _ _ _ _ _) ?_; simp) | ((fail_if_success with_reducible show False); with_reducible apply_assumption (exfalso := false) (symm := false) only [*, rfl, trivial, congrArg]) | with_reducible refine And.intro ?_ ?_ | (intro h; contradiction) | (intro h; subst h) | intro h | ((try (with_reducible first | refine a_region (by kernel_rfl) ?_ | (refine a_draw mixed (by kernel_rfl) ?_; intro C hC) | (refine a_cond_k ?_; intro X Y hX hY) | refine RetOk.mk ?_ | refine CallS.intro (h3) ?_ | refine CallD.intro (h3) ?_ | refine CallS.intro (h4) ?_ | refine CallD.intro (h4) ?_ | refine CallS.intro (h5) ?_ | refine CallD.intro (h5) ?_ | refine CallS.intro (ha) ?_ | refine CallD.intro (ha) ?_)); simp (maxSteps := 10000000) (implicitDefEqProofs := false) only [go_sem, ndE, c1]))
      · have c1 : ((is.length : Int) = 0) = False := by simp; exact fun h => hi (by simp [h])
        rw [decide_eq_false hi]
        refine acalls_k Tryz.func37 rfl (by kernel_rfl) (congrArg Array.toList Tryz.results37) Tryz.ntmps37 ?_
        intro R hR
        simp only [st0, List.length_cons, List.length_nil, Nat.reduceAdd, Nat.reduceSub, List.replicate_succ, List.replicate_zero, List.cons_append, List.nil_append]
        repeat' (first | (with_reducible refine a_seq_k ?_; intro K hK) | (with_reducible first | refine a_block ?_ | refine a_ret ?_ | refine a_exit ?_ | refine a_skip ?_ | exact ConfOk.mk (by kernel_rfl)) | (with_reducible refine eqT_of (eq33 _ _ _ _ _ _) ?_; simp) | (with_reducible refine eqT_of (eq35 _ _ _ _ _ _ _ _) ?_; simp) | ((fail_if_success with_reducible show False); with_reducible apply_assumption (exfalso := false) (symm := false) only [*, rfl, trivial, congrArg]) | with_reducible refine And.intro ?_ ?_ | (intro h; contradiction) | (intro h; subst h) | intro h | ((try (with_reducible first | refine a_region (by kernel_rfl) ?_ | (refine a_draw mixed (by kernel_rfl) ?_; intro C hC) | (refine a_cond_k ?_; intro X Y hX hY) | refine RetOk.mk ?_ | refine CallS.intro (h3) ?_ | refine CallD.intro (h3) ?_ | refine CallS.intro (h4) ?_ | refine CallD.intro (h4) ?_ | refine CallS.intro (h5) ?_ | refine CallD.intro (h5) ?_ | refine CallS.intro (ha) ?_ | refine CallD.intro (ha) ?_)); simp (maxSteps := 10000000) (implicitDefEqProofs := false) only [go_sem, ndE, c1]))
  · have e : fmtP op n = false := by rcases ho with rfl | rfl | rfl | rfl | rfl <;> simp [fmtP]
    rw [e]
    rcases hk with ⟨rfl, rfl⟩ | ⟨is, rfl, rfl⟩
    · clear e h0
      rcases ho with rfl | rfl | rfl | rfl | rfl
      all_goals
        refine acalls_k Tryz.func37 rfl (by kernel_rfl) (congrArg Array.toList Tryz.results37) Tryz.ntmps37 ?_
        intro R hR
        simp only [st0, List.length_cons, List.length_nil, Nat.reduceAdd, Nat.reduceSub, List.replicate_succ, List.replicate_zero, List.cons_append, List.nil_append]
        repeat' (first | (with_reducible refine a_seq_k ?_; intro K hK) | (with_reducible first | refine a_block ?_ | refine a_ret ?_ | refine a_exit ?_ | refine a_skip ?_ | exact ConfOk.mk (by kernel_rfl)) | (with_reducible refine eqT_of (eq33 _ _ _ _ _ _) ?_; simp) | (with_reducible refine eqT_of (eq35 _ _ _ _ _ _ _ _) ?_; simp) | ((fail_if_success with_reducible show False); with_reducible apply_assumption (exfalso := false) (symm := false) only [*, rfl, trivial, congrArg]) | with_reducible refine And.intro ?_ ?_ | (intro h; contradiction) | (intro h; subst h) | intro h | ((try (with_reducible first | refine a_region (by kernel_rfl) ?_ | (refine a_draw mixed (by kernel_rfl) ?_; intro C hC) | (refine a_cond_k ?_; intro X Y hX hY) | refine RetOk.mk ?_ | refine CallS.intro (h3) ?_ | refine CallD.intro (h3) ?_ | refine CallS.intro (h4) ?_ | refine CallD.intro (h4) ?_ | refine CallS.intro (h5) ?_ | refine CallD.intro (h5) ?_ | refine CallS.intro (ha) ?_ | refine CallD.intro (ha) ?_)); simp (maxSteps := 10000000) (implicitDefEqProofs := false) only [go_sem, ndE]))
    · clear e h0
      rcases ho with rfl | rfl | rfl | rfl | rfl
      all_goals
        refine acalls_k Tryz.func37 rfl (by kernel_rfl) (congrArg Array.toList Tryz.results37) Tryz.ntmps37 ?_
        intro R hR
        simp only [st0, List.length_cons, List.length_nil, Nat.reduceAdd, Nat.reduceSub, List.replicate_succ, List.replicate_zero, List.cons_append, List.nil_append]
        repeat' (first | (with_reducible refine a_seq_k ?_; intro K hK) | (with_reducible first | refine a_block ?_ | refine a_ret ?_ | refine a_exit ?_ | refine a_skip ?_ | exact ConfOk.mk (by kernel_rfl)) | (with_reducible refine eqT_of (eq33 _ _ _ _ _ _) ?_; simp) | (with_reducible refine eqT_of (eq35 _ _ _ _ _ _ _ _) ?_; simp) | ((fail_if_success with_reducible show False); with_reducible apply_assumption (exfalso := false) (symm := false) only [*, rfl, trivial, congrArg]) | with_reducible refine And.intro ?_ ?_ | (intro h; contradiction) | (intro h; subst h) | intro h | ((try (with_reducible first | refine a_region (by kernel_rfl) ?_ | (refine a_draw mixed (by kernel_rfl) ?_; intro C hC) | (refine a_cond_k ?_; intro X Y hX hY) | refine RetOk.mk ?_ | refine CallS.intro (h3) ?_ | refine CallD.intro (h3) ?_ | refine CallS.intro (h4) ?_ | refine CallD.intro (h4) ?_ | refine CallS.intro (h5) ?_ | refine CallD.intro (h5) ?_ | refine CallS.intro (ha) ?_ | refine CallD.intro (ha) ?_)); simp (maxSteps := 10000000) (implicitDefEqProofs := false) only [go_sem, ndE]))
  · have e : fmtP op n = false := by simp [fmtP]; omega
    rw [e]
    have o0 : op ≠ 0 := by omega
    have o1 : op ≠ 1 := by omega
    have o2 : op ≠ 2 := by omega
    have o3 : op ≠ 3 := by omega
    have o7 : op ≠ 27 := by omega
    have o8 : op ≠ 28 := by omega
    have o9 : op ≠ 29 := by omega
    clear e h0
    rcases hk with ⟨rfl, rfl⟩ | ⟨is, rfl, rfl⟩
    all_goals
      refine acalls_k Tryz.func37 rfl (by kernel_rfl) (congrArg Array.toList Tryz.results37) Tryz.ntmps37 ?_
      intro R hR
      simp only [st0, List.length_cons, List.length_nil, Nat.reduceAdd, Nat.reduceSub, List.replicate_succ, List.replicate_zero, List.cons_append, List.nil_append]
      repeat' (first | (with_reducible refine a_seq_k ?_; intro K hK) | (with_reducible first | refine a_block ?_ | refine a_ret ?_ | refine a_exit ?_ | refine a_skip ?_ | exact ConfOk.mk (by kernel_rfl)) | (with_reducible refine eqT_of (eq33 _ _ _ _ _ _) ?_; simp) | (with_reducible refine eqT_of (eq35 _ _ _ _ _ _ _ _) ?_; simp) | ((fail_if_success with_reducible show False); with_reducible apply_assumption (exfalso := false) (symm := false) only [*, rfl, trivial, congrArg]) | with_reducible refine And.intro ?_ ?_ | (intro h; contradiction) | (intro h; subst h) | intro h | ((try (with_reducible first | refine a_region (by kernel_rfl) ?_ | (refine a_draw mixed (by kernel_rfl) ?_; intro C hC) | (refine a_cond_k ?_; intro X Y hX hY) | refine RetOk.mk ?_ | refine CallS.intro (h3) ?_ | refine CallD.intro (h3) ?_ | refine CallS.intro (h4) ?_ | refine CallD.intro (h4) ?_ | refine CallS.intro (h5) ?_ | refine CallD.intro (h5) ?_ | refine CallS.intro (ha) ?_ | refine CallD.intro (ha) ?_)); simp (maxSteps := 10000000) (implicitDefEqProofs := false) only [go_sem, ndE, o0, o1, o2, o3, o7, o8, o9, ho]))
  · have e : fmtP op n = true := by simp [fmtP]; omega
    rw [e]
    have c1 : (29 < op) = False := by simp; omega
    have c2 : (2 < op) = True := by simp; omega
    clear e h0 o4 o26
    rcases hk with ⟨rfl, rfl⟩ | ⟨is, rfl, rfl⟩
    all_goals
      refine acalls_k Tryz.func37 rfl (by kernel_rfl) (congrArg Array.toList Tryz.results37) Tryz.ntmps37 ?_
      intro R hR
      simp only [st0, List.length_cons, List.length_nil, Nat.reduceAdd, Nat.reduceSub, List.replicate_succ, List.replicate_zero, List.cons_append, List.nil_append]
      repeat' (first | (with_reducible refine a_seq_k ?_; intro K hK) | (with_reducible first | refine a_block ?_ | refine a_ret ?_ | refine a_exit ?_ | refine a_skip ?_ | exact ConfOk.mk (by kernel_rfl)) | (with_reducible refine eqT_of (eq33 _ _ _ _ _ _) ?_; simp) | (with_reducible refine eqT_of (eq35 _ _ _ _ _ _ _ _) ?_; simp) | ((fail_if_success with_reducible show False); with_reducible apply_assumption (exfalso := false) (symm := false) only [*, rfl, trivial, congrArg]) | with_reducible refine And.intro ?_ ?_ | (intro h; contradiction) | (intro h; subst h) | intro h | ((try (with_reducible first | refine a_region (by kernel_rfl) ?_ | (refine a_draw mixed (by kernel_rfl) ?_; intro C hC) | (refine a_cond_k ?_; intro X Y hX hY) | refine RetOk.mk ?_ | refine CallS.intro (h3) ?_ | refine CallD.intro (h3) ?_ | refine CallS.intro (h4) ?_ | refine CallD.intro (h4) ?_ | refine CallS.intro (h5) ?_ | refine CallD.intro (h5) ?_ | refine CallS.intro (ha) ?_ | refine CallD.intro (ha) ?_)); simp (maxSteps := 10000000) (implicitDefEqProofs := false) only [go_sem, ndE, o0, o1, o2, o3, o7, o8, o9, c1, c2]))
theorem alg_k3 (k : Int) : ACalls Tryz.prog 76 [.int .u8 k] (.bool (decide (k ≤ 3))) := by
  refine acalls_k Tryz.func76 rfl (by kernel_rfl) (congrArg Array.toList Tryz.results76) Tryz.ntmps76 ?_
  intro R hR
  simp only [st0, List.length_cons, List.length_nil, Nat.reduceAdd, Nat.reduceSub, List.replicate_succ, List.replicate_zero, List.cons_append, List.nil_append]
  repeat' (first | (with_reducible refine a_seq_k ?_; intro K hK) | (with_reducible first | refine a_block ?_ | refine a_ret ?_ | refine a_exit ?_ | refine a_skip ?_ | exact ConfOk.mk (by kernel_rfl)) | ((fail_if_success with_reducible show False); with_reducible apply_assumption (exfalso := false) (symm := false) only [*, rfl, trivial, congrArg]) | with_reducible refine And.intro ?_ ?_ | (intro h; contradiction) | (intro h; subst h) | intro h | ((try (with_reducible first | refine a_region (by kernel_rfl) ?_ | (refine a_draw mixed (by kernel_rfl) ?_; intro C hC) | (refine a_cond_k ?_; intro X Y hX hY) | refine RetOk.mk ?_)); simp (maxSteps := 10000000) (implicitDefEqProofs := false) only [go_sem]))
theorem all_kinds (ks : List Int) (hl : ks.length < 2 ^ 40) (h : ∀ k ∈ ks, k ≤ 3) : ACalls Tryz.prog 75 [kinds ks, .func (.func 76) []] (.bool true) := by
  have hc := fun k => alg_k3 k
  refine acalls_k Tryz.func75 rfl (by kernel_rfl) (congrArg Array.toList Tryz.results75) Tryz.ntmps75 ?_
  intro R hR
  simp only [st0, List.length_cons, List.length_nil, Nat.reduceAdd, Nat.reduceSub, List.replicate_succ, List.replicate_zero, List.cons_append, List.nil_append]
  repeat' (first | (with_reducible refine a_seq_k ?_; intro K hK) | (with_reducible first | refine a_block ?_ | refine a_ret ?_ | refine a_exit ?_ | refine a_skip ?_ | exact ConfOk.mk (by kernel_rfl)) | ((fail_if_success with_reducible show False); with_reducible apply_assumption (exfalso := false) (symm := false) only [*, rfl, trivial, congrArg]) | with_reducible refine And.intro ?_ ?_ | (intro h; contradiction) | (intro h; subst h) | intro h | ((try (with_reducible first | refine a_region (by kernel_rfl) ?_ | (refine a_draw mixed (by kernel_rfl) ?_; intro C hC) | (refine a_cond_k ?_; intro X Y hX hY) | refine RetOk.mk ?_)); simp (maxSteps := 10000000) (implicitDefEqProofs := false) only [go_sem]))
  refine a_loop_k (fun n st => ∃ (g : Nat) (pre rest : List _) (u : Unit), ks = pre ++ rest ∧ n = rest.length ∧ (True) ∧ Has st 18 [(1, pkA), (7, .slice (ks.map kd)), (8, .int .i64 ks.length), (9, .int .i64 pre.length)] []) (ks).length ⟨0, [], ks, (), rfl, rfl, trivial, ⟨rfl, rfl, by simp [kd], by simp [kd]⟩⟩ ?_
  rintro n st ⟨g, pre, rest, u, he, rfl, hp, hs⟩ K hK
  have hw := wrap_nat pre.length (by have := congrArg List.length he; simp at this; omega)
  subst he
  refine a_has hs fun τ σ γ => ?_
  rcases rest with _ | ⟨x, rest⟩
  · simp only [List.append_nil] at *
    repeat' (first | (with_reducible refine a_seq_k ?_; intro K hK) | (with_reducible first | refine a_block ?_ | refine a_ret ?_ | refine a_exit ?_ | refine a_skip ?_ | exact ConfOk.mk (by kernel_rfl)) | ((fail_if_success with_reducible show False); with_reducible apply_assumption (exfalso := false) (symm := false) only [*, rfl, trivial, congrArg]) | with_reducible refine And.intro ?_ ?_ | (intro h; contradiction) | (intro h; subst h) | intro h | ((try (with_reducible first | refine a_region (by kernel_rfl) ?_ | (refine a_draw mixed (by kernel_rfl) ?_; intro C hC) | (refine a_cond_k ?_; intro X Y hX hY) | refine RetOk.mk ?_)); simp (maxSteps := 10000000) (implicitDefEqProofs := false) only [go_sem]))
  · have hx := hc x
    rw [decide_eq_true (h x (by simp))] at hx
    repeat' (first | (with_reducible refine a_seq_k ?_; intro K hK) | (with_reducible first | refine a_block ?_ | refine a_ret ?_ | refine a_exit ?_ | refine a_skip ?_ | exact ConfOk.mk (by kernel_rfl)) | ((fail_if_success with_reducible show False); with_reducible apply_assumption (exfalso := false) (symm := false) only [*, rfl, trivial, congrArg]) | with_reducible refine And.intro ?_ ?_ | (intro h; contradiction) | (intro h; subst h) | intro h | ((try (with_reducible first | refine a_region (by kernel_rfl) ?_ | (refine a_draw mixed (by kernel_rfl) ?_; intro C hC) | (refine a_cond_k ?_; intro X Y hX hY) | refine RetOk.mk ?_ | refine CallS.intro (hx) ?_ | refine CallD.intro (hx) ?_)); simp (maxSteps := 10000000) (implicitDefEqProofs := false) only [go_sem, kd, hw]))
    all_goals exact ⟨⟨rest.length, by simp, 0, pre ++ [x], rest, (), by simp, rfl, ⟨rfl, rfl, by simp [kd], by simp [kd]⟩⟩⟩
theorem all_kinds0 : ACalls Tryz.prog 75 [.nils, .func (.func 76) []] (.bool true) := by
  refine acalls_k Tryz.func75 rfl (by kernel_rfl) (congrArg Array.toList Tryz.results75) Tryz.ntmps75 ?_
  intro R hR
  simp only [st0, List.length_cons, List.length_nil, Nat.reduceAdd, Nat.reduceSub, List.replicate_succ, List.replicate_zero, List.cons_append, List.nil_append]
  repeat' (first | (with_reducible refine a_seq_k ?_; intro K hK) | (with_reducible first | refine a_block ?_ | refine a_ret ?_ | refine a_exit ?_ | refine a_skip ?_ | exact ConfOk.mk (by kernel_rfl)) | ((fail_if_success with_reducible show False); with_reducible apply_assumption (exfalso := false) (symm := false) only [*, rfl, trivial, congrArg]) | with_reducible refine And.intro ?_ ?_ | (intro h; contradiction) | (intro h; subst h) | intro h | ((try (with_reducible first | refine a_region (by kernel_rfl) ?_ | (refine a_draw mixed (by kernel_rfl) ?_; intro C hC) | (refine a_cond_k ?_; intro X Y hX hY) | refine RetOk.mk ?_)); simp (maxSteps := 10000000) (implicitDefEqProofs := false) only [go_sem]))
  refine a_onceT fun K => ?_
  repeat' (first | (with_reducible refine a_seq_k ?_; intro K hK) | (with_reducible first | refine a_block ?_ | refine a_ret ?_ | refine a_exit ?_ | refine a_skip ?_ | exact ConfOk.mk (by kernel_rfl)) | ((fail_if_success with_reducible show False); with_reducible apply_assumption (exfalso := false) (symm := false) only [*, rfl, trivial, congrArg]) | with_reducible refine And.intro ?_ ?_ | (intro h; contradiction) | (intro h; subst h) | intro h | ((try (with_reducible first | refine a_region (by kernel_rfl) ?_ | (refine a_draw mixed (by kernel_rfl) ?_; intro C hC) | (refine a_cond_k ?_; intro X Y hX hY) | refine RetOk.mk ?_)); simp (maxSteps := 10000000) (implicitDefEqProofs := false) only [go_sem]))
theorem alg_prepare (kw : AV) (n : Int) (hkw : kw = .nils ∨ ∃ ks : List Int, kw = kinds ks) (hv : ACalls Tryz.prog 33 [.nils] (.bool true)) (ha : ACalls Tryz.prog 75 [kw, .func (.func 76) []] (.bool true)) :
    ACalls Tryz.prog 35 [.nils, .slice [[kw]], .int .i64 n] (.int .i64 (if 400 < n then 2 else 0)) := by
  obtain ⟨r, hr⟩ : ∃ r : Int, r = if 400 < n then 2 else 0 := ⟨_, rfl⟩
  rw [← hr]
  have w1 : IntKind.wrap .i64 1 = 1 := rfl
  rcases hkw with rfl | ⟨ks, rfl⟩
  all_goals
    refine acalls_k Tryz.func35 rfl (by kernel_rfl) (congrArg Array.toList Tryz.results35) Tryz.ntmps35 ?_
    intro R hR
    simp only [st0, List.length_cons, List.length_nil, Nat.reduceAdd, Nat.reduceSub, List.replicate_succ, List.replicate_zero, List.cons_append, List.nil_append]
    repeat' (first | (with_reducible refine a_seq_k ?_; intro K hK) | (with_reducible first | refine a_block ?_ | refine a_ret ?_ | refine a_exit ?_ | refine a_skip ?_ | exact ConfOk.mk (by kernel_rfl)) | ((fail_if_success with_reducible show False); with_reducible apply_assumption (exfalso := false) (symm := false) only [*, rfl, trivial, congrArg]) | with_reducible refine And.intro ?_ ?_ | (intro h; contradiction) | (intro h; subst h) | intro h | ((try (with_reducible first | refine a_region (by kernel_rfl) ?_ | (refine a_draw mixed (by kernel_rfl) ?_; intro C hC) | (refine a_cond_k ?_; intro X Y hX hY) | refine RetOk.mk ?_ | refine CallS.intro (hv) ?_ | refine CallD.intro (hv) ?_)); simp (maxSteps := 10000000) (implicitDefEqProofs := false) only [go_sem]))
  · refine a_loop_k (fun m st => (m = 1 ∧ Has st 29 [(1, .slice [[.nils]]), (2, .int .i64 n), (12, .slice [[.nils]]), (13, .int .i64 1), (14, .int .i64 0)] []) ∨ (m = 0 ∧ Has st 29 [(1, .slice [[.nils]]), (2, .int .i64 n), (12, .slice [[.nils]]), (13, .int .i64 1), (14, .int .i64 1)] [])) 1 (.inl ⟨rfl, ⟨rfl, rfl, by simp, by simp⟩⟩) ?_
    rintro m st (⟨rfl, hs⟩ | ⟨rfl, hs⟩) K0 hK0
    · refine a_has hs fun τ σ γ => ?_
      repeat' (first | (with_reducible refine a_seq_k ?_; intro K hK) | (with_reducible first | refine a_block ?_ | refine a_ret ?_ | refine a_exit ?_ | refine a_skip ?_ | exact ConfOk.mk (by kernel_rfl)) | ((fail_if_success with_reducible show False); with_reducible apply_assumption (exfalso := false) (symm := false) only [*, rfl, trivial, congrArg]) | with_reducible refine And.intro ?_ ?_ | (intro h; contradiction) | (intro h; subst h) | intro h | ((try (with_reducible first | refine a_region (by kernel_rfl) ?_ | (refine a_draw mixed (by kernel_rfl) ?_; intro C hC) | (refine a_cond_k ?_; intro X Y hX hY) | refine RetOk.mk ?_ | refine CallS.intro (ha) ?_ | refine CallD.intro (ha) ?_)); simp (maxSteps := 10000000) (implicitDefEqProofs := false) only [go_sem, w1]))
      all_goals exact ⟨⟨0, by omega, .inr ⟨rfl, ⟨rfl, rfl, by simp, by simp⟩⟩⟩⟩
    · refine a_has hs fun τ σ γ => ?_
      repeat' (first | (with_reducible refine a_seq_k ?_; intro K hK) | (with_reducible first | refine a_block ?_ | refine a_ret ?_ | refine a_exit ?_ | refine a_skip ?_ | exact ConfOk.mk (by kernel_rfl)) | ((fail_if_success with_reducible show False); with_reducible apply_assumption (exfalso := false) (symm := false) only [*, rfl, trivial, congrArg]) | with_reducible refine And.intro ?_ ?_ | (intro h; contradiction) | (intro h; subst h) | intro h | ((try (with_reducible first | refine a_region (by kernel_rfl) ?_ | (refine a_draw mixed (by kernel_rfl) ?_; intro C hC) | (refine a_cond_k ?_; intro X Y hX hY) | refine RetOk.mk ?_)); simp (maxSteps := 10000000) (implicitDefEqProofs := false) only [go_sem]))
      all_goals (rw [hr]; simp [*])
  · refine a_loop_k (fun m st => (m = 1 ∧ Has st 29 [(1, .slice [[kinds ks]]), (2, .int .i64 n), (12, .slice [[kinds ks]]), (13, .int .i64 1), (14, .int .i64 0)] []) ∨ (m = 0 ∧ Has st 29 [(1, .slice [[kinds ks]]), (2, .int .i64 n), (12, .slice [[kinds ks]]), (13, .int .i64 1), (14, .int .i64 1)] [])) 1 (.inl ⟨rfl, ⟨rfl, rfl, by simp, by simp⟩⟩) ?_
    rintro m st (⟨rfl, hs⟩ | ⟨rfl, hs⟩) K0 hK0
    · refine a_has hs fun τ σ γ => ?_
      repeat' (first | (with_reducible refine a_seq_k ?_; intro K hK) | (with_reducible first | refine a_block ?_ | refine a_ret ?_ | refine a_exit ?_ | refine a_skip ?_ | exact ConfOk.mk (by kernel_rfl)) | ((fail_if_success with_reducible show False); with_reducible apply_assumption (exfalso := false) (symm := false) only [*, rfl, trivial, congrArg]) | with_reducible refine And.intro ?_ ?_ | (intro h; contradiction) | (intro h; subst h) | intro h | ((try (with_reducible first | refine a_region (by kernel_rfl) ?_ | (refine a_draw mixed (by kernel_rfl) ?_; intro C hC) | (refine a_cond_k ?_; intro X Y hX hY) | refine RetOk.mk ?_ | refine CallS.intro (ha) ?_ | refine CallD.intro (ha) ?_)); simp (maxSteps := 10000000) (implicitDefEqProofs := false) only [go_sem, w1]))
      all_goals exact ⟨⟨0, by omega, .inr ⟨rfl, ⟨rfl, rfl, by simp, by simp⟩⟩⟩⟩
    · refine a_has hs fun τ σ γ => ?_
      repeat' (first | (with_reducible refine a_seq_k ?_; intro K hK) | (with_reducible first | refine a_block ?_ | refine a_ret ?_ | refine a_exit ?_ | refine a_skip ?_ | exact ConfOk.mk (by kernel_rfl)) | ((fail_if_success with_reducible show False); with_reducible apply_assumption (exfalso := false) (symm := false) only [*, rfl, trivial, congrArg]) | with_reducible refine And.intro ?_ ?_ | (intro h; contradiction) | (intro h; subst h) | intro h | ((try (with_reducible first | refine a_region (by kernel_rfl) ?_ | (refine a_draw mixed (by kernel_rfl) ?_; intro C hC) | (refine a_cond_k ?_; intro X Y hX hY) | refine RetOk.mk ?_)); simp (maxSteps := 10000000) (implicitDefEqProofs := false) only [go_sem]))
      all_goals (rw [hr]; simp [*])
def kindE (p : Int × Int) : Int × Int := if p.2 = 1 then (0, 80) else if p.2 = 0 then p else (0, 50)
def kindX (op : Int) (ks : List Int) : Int × Int := if op = 0 then (0, 0) else if op = 2 then (0, 81) else kindE (refKind op ks)
def kindT (op : Int) (ks : List Int) : Int × Int := if 400 ≤ ks.length then (0, 2) else if fmtP op ks.length = true then kindX op ks else (0, 80)
end Go.Proofs.YtoggbjfjmbjegaaGreatDoor
