/- The domain of a node in the document: jointerref12.Node. The domain of a node over columns: props.Domain and the document's Domain, given their parts. The domain of a node over one column or more: the program's and the document's are one. -/
import Derived.Test.YtoggbjfjmbjegaaGreatDoorH7
import Derived.Test.YtoggbjfjmbjegaaGreatDoorH6
import Derived.Test.YtoggbjfjmbjegaaGreatDoorFD
import Derived.Test.YtoggbjfjmbjegaaGreatDoorAb28
import Derived.Test.YtoggbjfjmbjegaaGreatDoorJA
import Derived.Test.YtoggbjfjmbjegaaGreatDoorJ4
set_option linter.unusedSimpArgs false
set_option linter.unusedVariables false
set_option linter.unusedSimpArgs false
set_option linter.unusedVariables false
namespace Go.Proofs.YtoggbjfjmbjegaaGreatDoor
open Go Go.Ab
-- @enc(Dom.enc, En.enc, kd, dZ)@
attribute [local go_sem ↓] parts_tt parts_ff parts_tf parts_ft reduceIte
attribute [local go_sem] reduceCtorEq Nat.reduceAdd Nat.reduceSub Nat.reduceLeDiff Nat.reduceEqDiff Nat.reduceMul Nat.reduceLT Nat.reducePow Int.reduceEq Int.reduceLT Int.reduceLE Int.reduceGT Int.reduceGE Int.reduceAdd Int.reduceSub Int.reduceNeg Int.reduceToNat parts_eq learnT aops_nil aops_cons aopsD_nil aopsD_cons stepS stepD gval St.learn skipR St.after putτ applyUpd List.foldl_cons List.foldl_nil pureOp memOp callOf litA closeO closeK List.flatMap_cons List.flatMap_nil Option.map_none decide_false opnd ofConst leaf binA unA lenA indexA indexAddrA fieldAddrA fieldA weak_slice weak_nils weak_str weak_view weak_viewF weak_sliceF weak_ptr weak_cptr weak_rptr weak_sl weak_sl0 weak_any sliceFA_slice sliceFA_str sliceFA_view sliceFA_none sliceFA_some sameO sliceA convertA pickV fillA placeS cellsA setA partA loadM storeM appendM srcEls lookBox lookRow lookMap closeL closeV scalarB scalarL killed buildEls lookupA leafEq eqAll resA resL tupA retA thenA blockA isInt loA hiA foldA maxA minA okSize leafB closedB Res.foot List.getD_cons_zero List.getD_cons_succ List.set_cons_zero List.set_cons_succ List.map_cons List.map_nil List.append_nil List.nil_append List.cons_append List.length_cons List.length_nil List.take_succ_cons List.take_zero List.drop_succ_cons List.drop_zero List.take_nil List.drop_nil List.all_cons List.all_nil List.getElem?_toArray List.getElem?_cons_zero List.getElem?_cons_succ Option.bind_some Option.map_some true_and and_true true_implies ne_eq not_true_eq_false not_false_eq_true Bool.true_eq_false Bool.false_eq_true Bool.not_true Bool.not_false decide_eq_true_eq decide_eq_false_iff_not false_implies implies_true and_self ite_true ite_false cond_true cond_false Option.some.injEq List.reverse_cons List.reverse_nil Bool.and_self Bool.true_and Bool.and_true Bool.false_and Bool.and_false Bool.or_true Bool.true_or Bool.or_false Bool.false_or Bool.not_eq_eq_eq_not Bool.not_not Bool.or_self beq_self_eq_true and_false false_and or_true true_or or_false false_or not_true not_false_iff Decidable.not_not lookT lookR tabT tabR Int.toNat_natCast List.length_map List.map_append List.length_append decide_true decide_false tmod2 List.mem_singleton forall_eq elOk1 elOk3 elOk4 castn0 castn1 castn2 castn3 getD_mid getD_mid_map at_lt at_end mid_lt mid_lt' nat_ge List.size_toArray Array.size_empty Nat.add_zero Nat.zero_add
attribute [local irreducible] ASpec ACalls retA ti EqT
set_option linter.unusedSimpArgs false
set_option maxHeartbeats 4000000
set_option maxRecDepth 100000
set_option linter.unusedVariables false
attribute [local go_sem] ti2 ti3 ti4 ti5 ti9 ti21 ti22 ti23 ti24 ti26 ti27 ti28 ti30 ti33 ti34 ti37 ti41 ti42 ti46 ti52 ti56 ti68 ti69 ti73 ti78 ti86 ti89 ti99 ti117 ti122 ti123 ti124 ti144 ti166 ti173 ti174 ti190 ti191 ti199 ti245 ti247 ti257 ti271 ti288 ti290 ti343
theorem ref_Node (op k : Int) (kids : List Dom) (hl : kids.length < 2 ^ 40) (hne : kids ≠ []) (hk : refKind op (kids.map (·.kind)) = (k, 0))
    (hs : op ≠ 23 → op ≠ 24 → op ≠ 25 → op ≠ 26 → ACalls Tryz.prog 69 [.int .u8 op, .int .u8 k, doms kids] (dA (strictD op k kids mayD mayNotD (alike (kids.headD (noneD 0)) (kids.getLastD (noneD 0))) (mR (kids.getLastD (noneD 0))) true))) :
    ACalls Tryz.prog 32 [.int .u8 op, doms kids] (dA (nodeR op k kids)) := by
  have hkd := (ref_Kind op (kids.map (·.kind)) (by simpa using Nat.lt_trans hl (by decide)))
  rw [hk] at hkd
  have c1 := ref_And kids hl
  have c2 := ref_or kids hl hne
  have c3 := ref_cases k kids hl
  have c4 := ref_coalesce k kids hl
  have hem := fun x => ref_Empty x
  obtain ⟨res, hres⟩ : ∃ r, r = nodeR op k kids := ⟨_, rfl⟩
  rw [← hres]
  unfold nodeR at hres
  simp only [kinds, List.map_map, Function.comp_def, kd] at hkd
  simp only [dA, Dom.enc] at hem
  clear hk
  refine acalls_k Tryz.func32 rfl (by kernel_rfl) (congrArg Array.toList Tryz.results32) Tryz.ntmps32 ?_
  intro R hR
  simp only [st0, List.length_cons, List.length_nil, Nat.reduceAdd, Nat.reduceSub, List.replicate_succ, List.replicate_zero, List.cons_append, List.nil_append]
  repeat' (first | (with_reducible refine a_seq_k ?_; intro K hK) | (with_reducible first | refine a_block ?_ | refine a_ret ?_ | refine a_exit ?_ | refine a_skip ?_ | exact ConfOk.mk (by kernel_rfl)) | ((fail_if_success with_reducible show False); with_reducible apply_assumption (exfalso := false) (symm := false) only [*, rfl, trivial, congrArg]) | with_reducible refine And.intro ?_ ?_ | (intro h; contradiction) | (intro h; subst h) | intro h | ((try (with_reducible first | refine a_region (by kernel_rfl) ?_ | (refine a_draw mixed (by kernel_rfl) ?_; intro C hC) | (refine a_cond_k ?_; intro X Y hX hY) | refine RetOk.mk ?_)); simp (maxSteps := 10000000) (implicitDefEqProofs := false) only [go_sem, Dom.enc]))
  refine a_loop_k (fun m st => (m = kids.length ∧ Has st 70 [(0, .int .u8 op), (1, .slice (kids.map Dom.enc)), (4, .ptr 4 0 0), (5, .nils), (6, .bool true), (7, .int .i64 0)] [(4, .box 0 dZ)]) ∨ (∃ (g : Nat) (pre rest : List Dom), kids = pre ++ rest ∧ pre ≠ [] ∧ m = rest.length ∧ Has st 70 [(0, .int .u8 op), (1, .slice (kids.map Dom.enc)), (4, .ptr 4 0 0), (5, .view 23 g), (6, .bool (!pre.any emptyD)), (7, .int .i64 pre.length)] [(4, .box 0 dZ), (23, .row g 1 (pre.map fun x => [.int .u8 x.kind]))])) kids.length (.inl ⟨rfl, ⟨rfl, rfl, by simp, by simp⟩⟩) ?_
  rintro m st (⟨rfl, hs2⟩ | ⟨g, pre, rest, he, hp, rfl, hs2⟩) K0 hK0
  · obtain ⟨x, r, rfl⟩ := List.exists_cons_of_ne_nil hne
    have hc := hem x
    refine a_has hs2 fun τ σ γ => ?_
    have hgt : (0 : Int) < ((r.length + 1 : Nat) : Int) := by omega
    clear hs c1 c2 c3 c4 hkd hres
    obtain ⟨ex, hex⟩ : ∃ b, b = emptyD x := ⟨_, rfl⟩
    rw [← hex] at hc
    repeat' (first | (with_reducible refine a_seq_k ?_; intro K hK) | (with_reducible first | refine a_block ?_ | refine a_ret ?_ | refine a_exit ?_ | refine a_skip ?_ | exact ConfOk.mk (by kernel_rfl)) | ((fail_if_success with_reducible show False); with_reducible apply_assumption (exfalso := false) (symm := false) only [*, rfl, trivial, congrArg]) | with_reducible refine And.intro ?_ ?_ | (intro h; contradiction) | (intro h; subst h) | intro h | ((try (with_reducible first | refine a_region (by kernel_rfl) ?_ | (refine a_draw mixed (by kernel_rfl) ?_; intro C hC) | (refine a_cond_k ?_; intro X Y hX hY) | refine RetOk.mk ?_ | refine CallS.intro (hc) ?_ | refine CallD.intro (hc) ?_)); simp (maxSteps := 10000000) (implicitDefEqProofs := false) only [go_sem, Dom.enc, wr1, hgt]))
    all_goals exact ⟨⟨r.length, by simp, .inr ⟨γ + 1, [x], r, rfl, by simp, rfl, ⟨rfl, rfl, by simp [Dom.enc, hex, emptyD], by simp [Dom.enc]⟩⟩⟩⟩
  · have hw := wrap_nat pre.length (by have := congrArg List.length he; simp at this; omega)
    subst he
    refine a_has hs2 fun τ σ γ => ?_
    rcases rest with _ | ⟨x, rest⟩
    · simp only [List.append_nil] at *
      generalize pre.any emptyD = eb at *
      cases eb with
      | true =>
        rw [if_pos rfl] at hres
        clear hs c1 c2 c3 c4
        repeat' (first | (with_reducible refine a_seq_k ?_; intro K hK) | (with_reducible first | refine a_block ?_ | refine a_ret ?_ | refine a_exit ?_ | refine a_skip ?_ | exact ConfOk.mk (by kernel_rfl)) | ((fail_if_success with_reducible show False); with_reducible apply_assumption (exfalso := false) (symm := false) only [*, rfl, trivial, congrArg]) | with_reducible refine And.intro ?_ ?_ | (intro h; contradiction) | (intro h; subst h) | intro h | ((try (with_reducible first | refine a_region (by kernel_rfl) ?_ | (refine a_draw mixed (by kernel_rfl) ?_; intro C hC) | (refine a_cond_k ?_; intro X Y hX hY) | refine RetOk.mk ?_ | refine CallS.intro (hkd) ?_ | refine CallD.intro (hkd) ?_)); simp (maxSteps := 10000000) (implicitDefEqProofs := false) only [go_sem, Dom.enc, hres, noneD]))
      | false =>
        rw [if_neg (by simp)] at hres
        by_cases o23 : op = 23
        · rw [if_pos o23] at hres
          rw [← hres] at c1
          simp only [dA, Dom.enc, doms] at c1
          clear hs c2 c3 c4 hres
          subst o23
          repeat' (first | (with_reducible refine a_seq_k ?_; intro K hK) | (with_reducible first | refine a_block ?_ | refine a_ret ?_ | refine a_exit ?_ | refine a_skip ?_ | exact ConfOk.mk (by kernel_rfl)) | ((fail_if_success with_reducible show False); with_reducible apply_assumption (exfalso := false) (symm := false) only [*, rfl, trivial, congrArg]) | with_reducible refine And.intro ?_ ?_ | (intro h; contradiction) | (intro h; subst h) | intro h | ((try (with_reducible first | refine a_region (by kernel_rfl) ?_ | (refine a_draw mixed (by kernel_rfl) ?_; intro C hC) | (refine a_cond_k ?_; intro X Y hX hY) | refine RetOk.mk ?_ | refine CallS.intro (hkd) ?_ | refine CallD.intro (hkd) ?_ | refine CallS.intro (c1) ?_ | refine CallD.intro (c1) ?_)); simp (maxSteps := 10000000) (implicitDefEqProofs := false) only [go_sem, Dom.enc]))
        rw [if_neg o23] at hres
        by_cases o24 : op = 24
        · rw [if_pos o24] at hres
          rw [← hres] at c2
          simp only [dA, Dom.enc, doms] at c2
          clear hs c1 c3 c4 hres
          subst o24
          repeat' (first | (with_reducible refine a_seq_k ?_; intro K hK) | (with_reducible first | refine a_block ?_ | refine a_ret ?_ | refine a_exit ?_ | refine a_skip ?_ | exact ConfOk.mk (by kernel_rfl)) | ((fail_if_success with_reducible show False); with_reducible apply_assumption (exfalso := false) (symm := false) only [*, rfl, trivial, congrArg]) | with_reducible refine And.intro ?_ ?_ | (intro h; contradiction) | (intro h; subst h) | intro h | ((try (with_reducible first | refine a_region (by kernel_rfl) ?_ | (refine a_draw mixed (by kernel_rfl) ?_; intro C hC) | (refine a_cond_k ?_; intro X Y hX hY) | refine RetOk.mk ?_ | refine CallS.intro (hkd) ?_ | refine CallD.intro (hkd) ?_ | refine CallS.intro (c2) ?_ | refine CallD.intro (c2) ?_)); simp (maxSteps := 10000000) (implicitDefEqProofs := false) only [go_sem, Dom.enc]))
        rw [if_neg o24] at hres
        by_cases o25 : op = 25
        · rw [if_pos o25] at hres
          rw [← hres] at c3
          simp only [dA, Dom.enc, doms] at c3
          clear hs c1 c2 c4 hres
          subst o25
          repeat' (first | (with_reducible refine a_seq_k ?_; intro K hK) | (with_reducible first | refine a_block ?_ | refine a_ret ?_ | refine a_exit ?_ | refine a_skip ?_ | exact ConfOk.mk (by kernel_rfl)) | ((fail_if_success with_reducible show False); with_reducible apply_assumption (exfalso := false) (symm := false) only [*, rfl, trivial, congrArg]) | with_reducible refine And.intro ?_ ?_ | (intro h; contradiction) | (intro h; subst h) | intro h | ((try (with_reducible first | refine a_region (by kernel_rfl) ?_ | (refine a_draw mixed (by kernel_rfl) ?_; intro C hC) | (refine a_cond_k ?_; intro X Y hX hY) | refine RetOk.mk ?_ | refine CallS.intro (hkd) ?_ | refine CallD.intro (hkd) ?_ | refine CallS.intro (c3) ?_ | refine CallD.intro (c3) ?_)); simp (maxSteps := 10000000) (implicitDefEqProofs := false) only [go_sem, Dom.enc]))
        rw [if_neg o25] at hres
        by_cases o26 : op = 26
        · rw [if_pos o26] at hres
          rw [← hres] at c4
          simp only [dA, Dom.enc, doms] at c4
          clear hs c1 c2 c3 hres
          subst o26
          repeat' (first | (with_reducible refine a_seq_k ?_; intro K hK) | (with_reducible first | refine a_block ?_ | refine a_ret ?_ | refine a_exit ?_ | refine a_skip ?_ | exact ConfOk.mk (by kernel_rfl)) | ((fail_if_success with_reducible show False); with_reducible apply_assumption (exfalso := false) (symm := false) only [*, rfl, trivial, congrArg]) | with_reducible refine And.intro ?_ ?_ | (intro h; contradiction) | (intro h; subst h) | intro h | ((try (with_reducible first | refine a_region (by kernel_rfl) ?_ | (refine a_draw mixed (by kernel_rfl) ?_; intro C hC) | (refine a_cond_k ?_; intro X Y hX hY) | refine RetOk.mk ?_ | refine CallS.intro (hkd) ?_ | refine CallD.intro (hkd) ?_ | refine CallS.intro (c4) ?_ | refine CallD.intro (c4) ?_)); simp (maxSteps := 10000000) (implicitDefEqProofs := false) only [go_sem, Dom.enc]))
        rw [if_neg o26] at hres
        have c5 := hs o23 o24 o25 o26
        rw [← hres] at c5
        simp only [dA, Dom.enc, doms] at c5
        clear hs c1 c2 c3 c4 hres
        repeat' (first | (with_reducible refine a_seq_k ?_; intro K hK) | (with_reducible first | refine a_block ?_ | refine a_ret ?_ | refine a_exit ?_ | refine a_skip ?_ | exact ConfOk.mk (by kernel_rfl)) | ((fail_if_success with_reducible show False); with_reducible apply_assumption (exfalso := false) (symm := false) only [*, rfl, trivial, congrArg]) | with_reducible refine And.intro ?_ ?_ | (intro h; contradiction) | (intro h; subst h) | intro h | ((try (with_reducible first | refine a_region (by kernel_rfl) ?_ | (refine a_draw mixed (by kernel_rfl) ?_; intro C hC) | (refine a_cond_k ?_; intro X Y hX hY) | refine RetOk.mk ?_ | refine CallS.intro (hkd) ?_ | refine CallD.intro (hkd) ?_ | refine CallS.intro (c5) ?_ | refine CallD.intro (c5) ?_)); simp (maxSteps := 10000000) (implicitDefEqProofs := false) only [go_sem, Dom.enc, o23, o24, o25, o26]))
    · have hc := hem x
      clear hs c1 c2 c3 c4 hkd hres
      have eA : (!(pre ++ [x]).any emptyD) = (!pre.any emptyD && !emptyD x) := by simp
      obtain ⟨ex, hex⟩ : ∃ b, b = emptyD x := ⟨_, rfl⟩
      obtain ⟨eb, heb⟩ : ∃ b, b = pre.any emptyD := ⟨_, rfl⟩
      obtain ⟨ea, hea⟩ : ∃ b, b = (pre ++ [x]).any emptyD := ⟨_, rfl⟩
      rw [← hex] at hc eA
      rw [← heb] at eA ⊢
      rw [← hea] at eA
      clear hs2
      repeat' (first | (with_reducible refine a_seq_k ?_; intro K hK) | (with_reducible first | refine a_block ?_ | refine a_ret ?_ | refine a_exit ?_ | refine a_skip ?_ | exact ConfOk.mk (by kernel_rfl)) | ((fail_if_success with_reducible show False); with_reducible apply_assumption (exfalso := false) (symm := false) only [*, rfl, trivial, congrArg]) | with_reducible refine And.intro ?_ ?_ | (intro h; contradiction) | (intro h; subst h) | intro h | ((try (with_reducible first | refine a_region (by kernel_rfl) ?_ | (refine a_draw mixed (by kernel_rfl) ?_; intro C hC) | (refine a_cond_k ?_; intro X Y hX hY) | refine RetOk.mk ?_ | refine CallS.intro (hc) ?_ | refine CallD.intro (hc) ?_)); simp (maxSteps := 10000000) (implicitDefEqProofs := false) only [go_sem, Dom.enc, hw]))
      all_goals simp only [List.length_append, List.length_cons] at hl
      try any_goals omega
      all_goals exact ⟨⟨rest.length, by simp, .inr ⟨γ + 1, pre ++ [x], rest, by simp, by simp, rfl, ⟨rfl, rfl, by rw [← hea, eA]; simp [Dom.enc], by simp [Dom.enc]⟩⟩⟩⟩
-- @enc(Dom.enc, kd, dZ)@
attribute [local go_sem] memS memS0 memT allocB
theorem ref_Same_self (d : Dom) : ACalls Tryz.prog 7 [dA d, dA d] (.bool true) := by
  obtain ⟨k, n, f, s, lo, hi⟩ := d
  refine acalls_k Tryz.func7 rfl (by kernel_rfl) (congrArg Array.toList Tryz.results7) Tryz.ntmps7 ?_
  intro R hR
  simp only [st0, List.length_cons, List.length_nil, Nat.reduceAdd, Nat.reduceSub, List.replicate_succ, List.replicate_zero, List.cons_append, List.nil_append]
  repeat' (first | (with_reducible refine a_seq_k ?_; intro K hK) | (with_reducible first | refine a_block ?_ | refine a_ret ?_ | refine a_exit ?_ | refine a_skip ?_ | exact ConfOk.mk (by kernel_rfl)) | ((fail_if_success with_reducible show False); with_reducible apply_assumption (exfalso := false) (symm := false) only [*, rfl, trivial, congrArg]) | with_reducible refine And.intro ?_ ?_ | (intro h; contradiction) | (intro h; subst h) | intro h | ((try (with_reducible first | refine a_region (by kernel_rfl) ?_ | (refine a_draw mixed (by kernel_rfl) ?_; intro C hC) | (refine a_cond_k ?_; intro X Y hX hY) | refine RetOk.mk ?_)); simp (maxSteps := 10000000) (implicitDefEqProofs := false) only [go_sem, Dom.enc]))
theorem facts_Kinds (ks : List Dom) (r : AV) (hr : ∃ x, r = .slice [[x]] ∧ (x = .nils ∨ ∃ l, x = .slice l)) (h : ACalls Tryz.prog 39 [rows1 ks] r) : ACalls Tryz.prog 15 [rows1 ks] r := by
  obtain ⟨x, rfl, rfl | ⟨l, rfl⟩⟩ := hr
  · refine acalls_k Tryz.func15 rfl (by kernel_rfl) (congrArg Array.toList Tryz.results15) Tryz.ntmps15 ?_
    intro R hR
    simp only [st0, List.length_cons, List.length_nil, Nat.reduceAdd, Nat.reduceSub, List.replicate_succ, List.replicate_zero, List.cons_append, List.nil_append]
    repeat' (first | (with_reducible refine a_seq_k ?_; intro K hK) | (with_reducible first | refine a_block ?_ | refine a_ret ?_ | refine a_exit ?_ | refine a_skip ?_ | exact ConfOk.mk (by kernel_rfl)) | ((fail_if_success with_reducible show False); with_reducible apply_assumption (exfalso := false) (symm := false) only [*, rfl, trivial, congrArg]) | with_reducible refine And.intro ?_ ?_ | (intro h; contradiction) | (intro h; subst h) | intro h | ((try (with_reducible first | refine a_region (by kernel_rfl) ?_ | (refine a_draw mixed (by kernel_rfl) ?_; intro C hC) | (refine a_cond_k ?_; intro X Y hX hY) | refine RetOk.mk ?_ | refine CallS.intro (h) ?_ | refine CallD.intro (h) ?_)); simp (maxSteps := 10000000) (implicitDefEqProofs := false) only [go_sem]))
  · refine acalls_k Tryz.func15 rfl (by kernel_rfl) (congrArg Array.toList Tryz.results15) Tryz.ntmps15 ?_
    intro R hR
    simp only [st0, List.length_cons, List.length_nil, Nat.reduceAdd, Nat.reduceSub, List.replicate_succ, List.replicate_zero, List.cons_append, List.nil_append]
    repeat' (first | (with_reducible refine a_seq_k ?_; intro K hK) | (with_reducible first | refine a_block ?_ | refine a_ret ?_ | refine a_exit ?_ | refine a_skip ?_ | exact ConfOk.mk (by kernel_rfl)) | ((fail_if_success with_reducible show False); with_reducible apply_assumption (exfalso := false) (symm := false) only [*, rfl, trivial, congrArg]) | with_reducible refine And.intro ?_ ?_ | (intro h; contradiction) | (intro h; subst h) | intro h | ((try (with_reducible first | refine a_region (by kernel_rfl) ?_ | (refine a_draw mixed (by kernel_rfl) ?_; intro C hC) | (refine a_cond_k ?_; intro X Y hX hY) | refine RetOk.mk ?_ | refine CallS.intro (h) ?_ | refine CallD.intro (h) ?_)); simp (maxSteps := 10000000) (implicitDefEqProofs := false) only [go_sem]))
theorem props_Domain (ks : List Dom) (hl : ks.length < 2 ^ 40) (op : Int) (kz kx : AV) (hkz : ∀ σ n, closeV σ n kz = some (kz, [])) (k e : Int) (d : Dom)
    (hB : ks.any badC = false → ACalls Tryz.prog 15 [rows1 ks] (.slice [[kx]]) ∧ ACalls Tryz.prog 14 [.nils, .agg (nodeE op kz), .slice [[kx]]] (.tuple [.int .u8 k, .int .i64 e]) ∧
      (e = 0 → ACalls Tryz.prog 16 [.nils, .agg (nodeE op kz), rows1 ks] (dA d))) :
    ACalls Tryz.prog 6 [.nils, .agg (nodeE op kz), rows1 ks] (.tuple [if ks.any badC = false ∧ e = 0 then dA d else .agg dZ, .int .i64 (if ks.any badC = true then 1 else e)]) := by
  have hc := props_check ks hl
  generalize ks.any badC = b at *
  cases b
  · obtain ⟨h1, h2, h3⟩ := hB rfl
    clear hB
    simp only [Bool.false_eq_true, if_false] at hc
    by_cases he : e = 0
    · have h9 := h3 he
      clear h3
      subst he
      simp only [dA, Dom.enc] at h9
      refine acalls_k Tryz.func6 rfl (by kernel_rfl) (congrArg Array.toList Tryz.results6) Tryz.ntmps6 ?_
      intro R hR
      simp only [st0, List.length_cons, List.length_nil, Nat.reduceAdd, Nat.reduceSub, List.replicate_succ, List.replicate_zero, List.cons_append, List.nil_append]
      repeat' (first | (with_reducible refine a_seq_k ?_; intro K hK) | (with_reducible first | refine a_block ?_ | refine a_ret ?_ | refine a_exit ?_ | refine a_skip ?_ | exact ConfOk.mk (by kernel_rfl)) | ((fail_if_success with_reducible show False); with_reducible apply_assumption (exfalso := false) (symm := false) only [*, rfl, trivial, congrArg]) | with_reducible refine And.intro ?_ ?_ | (intro h; contradiction) | (intro h; subst h) | intro h | ((try (with_reducible first | refine a_region (by kernel_rfl) ?_ | (refine a_draw mixed (by kernel_rfl) ?_; intro C hC) | (refine a_cond_k ?_; intro X Y hX hY) | refine RetOk.mk ?_ | refine CallS.intro (hc) ?_ | refine CallD.intro (hc) ?_ | refine CallS.intro (h1) ?_ | refine CallD.intro (h1) ?_ | refine CallS.intro (h2) ?_ | refine CallD.intro (h2) ?_ | refine CallS.intro (h9) ?_ | refine CallD.intro (h9) ?_)); simp (maxSteps := 10000000) (implicitDefEqProofs := false) only [go_sem, hkz, Dom.enc]))
    · clear h3
      refine acalls_k Tryz.func6 rfl (by kernel_rfl) (congrArg Array.toList Tryz.results6) Tryz.ntmps6 ?_
      intro R hR
      simp only [st0, List.length_cons, List.length_nil, Nat.reduceAdd, Nat.reduceSub, List.replicate_succ, List.replicate_zero, List.cons_append, List.nil_append]
      repeat' (first | (with_reducible refine a_seq_k ?_; intro K hK) | (with_reducible first | refine a_block ?_ | refine a_ret ?_ | refine a_exit ?_ | refine a_skip ?_ | exact ConfOk.mk (by kernel_rfl)) | ((fail_if_success with_reducible show False); with_reducible apply_assumption (exfalso := false) (symm := false) only [*, rfl, trivial, congrArg]) | with_reducible refine And.intro ?_ ?_ | (intro h; contradiction) | (intro h; subst h) | intro h | ((try (with_reducible first | refine a_region (by kernel_rfl) ?_ | (refine a_draw mixed (by kernel_rfl) ?_; intro C hC) | (refine a_cond_k ?_; intro X Y hX hY) | refine RetOk.mk ?_ | refine CallS.intro (hc) ?_ | refine CallD.intro (hc) ?_ | refine CallS.intro (h1) ?_ | refine CallD.intro (h1) ?_ | refine CallS.intro (h2) ?_ | refine CallD.intro (h2) ?_)); simp (maxSteps := 10000000) (implicitDefEqProofs := false) only [go_sem, hkz, he]))
  · clear hB
    simp only [if_true] at hc
    refine acalls_k Tryz.func6 rfl (by kernel_rfl) (congrArg Array.toList Tryz.results6) Tryz.ntmps6 ?_
    intro R hR
    simp only [st0, List.length_cons, List.length_nil, Nat.reduceAdd, Nat.reduceSub, List.replicate_succ, List.replicate_zero, List.cons_append, List.nil_append]
    repeat' (first | (with_reducible refine a_seq_k ?_; intro K hK) | (with_reducible first | refine a_block ?_ | refine a_ret ?_ | refine a_exit ?_ | refine a_skip ?_ | exact ConfOk.mk (by kernel_rfl)) | ((fail_if_success with_reducible show False); with_reducible apply_assumption (exfalso := false) (symm := false) only [*, rfl, trivial, congrArg]) | with_reducible refine And.intro ?_ ?_ | (intro h; contradiction) | (intro h; subst h) | intro h | ((try (with_reducible first | refine a_region (by kernel_rfl) ?_ | (refine a_draw mixed (by kernel_rfl) ?_; intro C hC) | (refine a_cond_k ?_; intro X Y hX hY) | refine RetOk.mk ?_ | refine CallS.intro (hc) ?_ | refine CallD.intro (hc) ?_)); simp (maxSteps := 10000000) (implicitDefEqProofs := false) only [go_sem, hkz]))
theorem ref_Domain12 (ks : List Dom) (hl : ks.length < 2 ^ 40) (op : Int) (kz kx : AV) (hkz : ∀ σ n, closeV σ n kz = some (kz, [])) (k e : Int) (d : Dom)
    (hB : ks.any badR = false → ACalls Tryz.prog 11 [rows1 ks] (.slice [[kx]]) ∧ ACalls Tryz.prog 10 [.nils, .agg (nodeE op kz), .slice [[kx]]] (.tuple [.int .u8 k, .int .i64 e]) ∧
      (e = 0 → ACalls Tryz.prog 12 [.nils, .agg (nodeE op kz), rows1 ks] (dA d))) :
    ACalls Tryz.prog 5 [.nils, .agg (nodeE op kz), rows1 ks] (.tuple [if ks.any badR = false ∧ e = 0 then dA d else .agg dZ, .int .i64 (if ks.any badR = true then 1 else e)]) := by
  have hc := ref_given ks hl
  generalize ks.any badR = b at *
  cases b
  · obtain ⟨h1, h2, h3⟩ := hB rfl
    clear hB
    simp only [Bool.false_eq_true, if_false] at hc
    by_cases he : e = 0
    · have h9 := h3 he
      clear h3
      subst he
      simp only [dA, Dom.enc] at h9
      refine acalls_k Tryz.func5 rfl (by kernel_rfl) (congrArg Array.toList Tryz.results5) Tryz.ntmps5 ?_
      intro R hR
      simp only [st0, List.length_cons, List.length_nil, Nat.reduceAdd, Nat.reduceSub, List.replicate_succ, List.replicate_zero, List.cons_append, List.nil_append]
      repeat' (first | (with_reducible refine a_seq_k ?_; intro K hK) | (with_reducible first | refine a_block ?_ | refine a_ret ?_ | refine a_exit ?_ | refine a_skip ?_ | exact ConfOk.mk (by kernel_rfl)) | ((fail_if_success with_reducible show False); with_reducible apply_assumption (exfalso := false) (symm := false) only [*, rfl, trivial, congrArg]) | with_reducible refine And.intro ?_ ?_ | (intro h; contradiction) | (intro h; subst h) | intro h | ((try (with_reducible first | refine a_region (by kernel_rfl) ?_ | (refine a_draw mixed (by kernel_rfl) ?_; intro C hC) | (refine a_cond_k ?_; intro X Y hX hY) | refine RetOk.mk ?_ | refine CallS.intro (hc) ?_ | refine CallD.intro (hc) ?_ | refine CallS.intro (h1) ?_ | refine CallD.intro (h1) ?_ | refine CallS.intro (h2) ?_ | refine CallD.intro (h2) ?_ | refine CallS.intro (h9) ?_ | refine CallD.intro (h9) ?_)); simp (maxSteps := 10000000) (implicitDefEqProofs := false) only [go_sem, hkz, Dom.enc]))
    · clear h3
      refine acalls_k Tryz.func5 rfl (by kernel_rfl) (congrArg Array.toList Tryz.results5) Tryz.ntmps5 ?_
      intro R hR
      simp only [st0, List.length_cons, List.length_nil, Nat.reduceAdd, Nat.reduceSub, List.replicate_succ, List.replicate_zero, List.cons_append, List.nil_append]
      repeat' (first | (with_reducible refine a_seq_k ?_; intro K hK) | (with_reducible first | refine a_block ?_ | refine a_ret ?_ | refine a_exit ?_ | refine a_skip ?_ | exact ConfOk.mk (by kernel_rfl)) | ((fail_if_success with_reducible show False); with_reducible apply_assumption (exfalso := false) (symm := false) only [*, rfl, trivial, congrArg]) | with_reducible refine And.intro ?_ ?_ | (intro h; contradiction) | (intro h; subst h) | intro h | ((try (with_reducible first | refine a_region (by kernel_rfl) ?_ | (refine a_draw mixed (by kernel_rfl) ?_; intro C hC) | (refine a_cond_k ?_; intro X Y hX hY) | refine RetOk.mk ?_ | refine CallS.intro (hc) ?_ | refine CallD.intro (hc) ?_ | refine CallS.intro (h1) ?_ | refine CallD.intro (h1) ?_ | refine CallS.intro (h2) ?_ | refine CallD.intro (h2) ?_)); simp (maxSteps := 10000000) (implicitDefEqProofs := false) only [go_sem, hkz, he]))
  · clear hB
    simp only [if_true] at hc
    refine acalls_k Tryz.func5 rfl (by kernel_rfl) (congrArg Array.toList Tryz.results5) Tryz.ntmps5 ?_
    intro R hR
    simp only [st0, List.length_cons, List.length_nil, Nat.reduceAdd, Nat.reduceSub, List.replicate_succ, List.replicate_zero, List.cons_append, List.nil_append]
    repeat' (first | (with_reducible refine a_seq_k ?_; intro K hK) | (with_reducible first | refine a_block ?_ | refine a_ret ?_ | refine a_exit ?_ | refine a_skip ?_ | exact ConfOk.mk (by kernel_rfl)) | ((fail_if_success with_reducible show False); with_reducible apply_assumption (exfalso := false) (symm := false) only [*, rfl, trivial, congrArg]) | with_reducible refine And.intro ?_ ?_ | (intro h; contradiction) | (intro h; subst h) | intro h | ((try (with_reducible first | refine a_region (by kernel_rfl) ?_ | (refine a_draw mixed (by kernel_rfl) ?_; intro C hC) | (refine a_cond_k ?_; intro X Y hX hY) | refine RetOk.mk ?_ | refine CallS.intro (hc) ?_ | refine CallD.intro (hc) ?_)); simp (maxSteps := 10000000) (implicitDefEqProofs := false) only [go_sem, hkz]))
@[reducible] def zsOf (ks : List Dom) : Zs := ks.zipIdx
theorem zsOf_ok (ks : List Dom) : (zsOf ks).Ok := by
  intro pre x rest h
  have h1 : (zsOf ks)[pre.length]? = some x := by rw [h]; simp
  rw [zsOf, List.getElem?_zipIdx] at h1
  cases hq : ks[pre.length]? with
  | none => rw [hq] at h1; cases h1
  | some d => rw [hq] at h1; simp at h1; rw [← h1]
theorem zsOf_fst (ks : List Dom) : (zsOf ks).map (·.1) = ks := by simp [zsOf]
theorem zsOf_len (ks : List Dom) : (zsOf ks).length = ks.length := by simp [zsOf]
theorem zsOf_nil (ks : List Dom) : zsOf ks = [] ↔ ks = [] := by
  constructor
  · intro h; exact List.eq_nil_of_length_eq_zero (by rw [← zsOf_len, h]; rfl)
  · rintro rfl; rfl
theorem zsOf_enc (ks : List Dom) : (zsOf ks).map domZ = ks.map Dom.enc := by
  have : (zsOf ks).map domZ = ((zsOf ks).map (·.1)).map Dom.enc := by rw [List.map_map]; rfl
  rw [this, zsOf_fst]
theorem zsOf_kind (ks : List Dom) : (zsOf ks).map (fun z => z.1.kind) = ks.map (·.kind) := by
  have : (zsOf ks).map (fun z => z.1.kind) = ((zsOf ks).map (·.1)).map (·.kind) := by rw [List.map_map]; rfl
  rw [this, zsOf_fst]
theorem zsOf_kd (ks : List Dom) : (zsOf ks).map kdZ = ks.map kdD := by
  have : (zsOf ks).map kdZ = ((zsOf ks).map (·.1)).map kdD := by rw [List.map_map]; rfl
  rw [this, zsOf_fst]
theorem zsOf_leaf (ks : List Dom) : (zsOf ks).map leafZ = (List.range ks.length).map leafE := by
  have : (zsOf ks).map leafZ = ((zsOf ks).map (·.2)).map leafE := by rw [List.map_map]; rfl
  rw [this]
  congr 1
  simp [zsOf, List.range_eq_range']
@[reducible] def psOf (zs : Zs) : Ps := zs.map fun z => (z.1.kind, z.2)
theorem psOf_ok {zs : Zs} (hz : zs.Ok) : (psOf zs).Ok := by
  intro pre x rest h
  obtain ⟨a, b, hab, ha, hb⟩ := List.map_eq_append_iff.1 h
  obtain ⟨y, c, rfl, hy, hc⟩ := List.map_eq_cons_iff.1 hb
  have := hz a y c hab
  rw [← hy, ← ha]
  simpa using this
theorem rowsA_zs (ks : List Dom) : rowsA (zsOf ks) = rows1 ks := by
  have := zsOf_enc ks
  simp only [rowsA, rows1, this]
theorem two_kids {op k : Int} {kids : List Dom} (h : refKind op (kids.map (·.kind)) = (k, 0)) (o23 : op ≠ 23) (o24 : op ≠ 24) (o25 : op ≠ 25) (o26 : op ≠ 26) :
    ∃ a b, ((kids = [a] ∧ b = a ∧ op ≠ 18) ∨ kids = [a, b]) ∧ a ∈ kids ∧ b ∈ kids ∧ kids.headD (noneD 0) = a ∧ kids.getLastD (noneD 0) = b := by
  obtain ⟨hn, hs0, hk⟩ := refKind_inv h
  have h12 : ((sortOf op).2 = 1 ∧ op ≠ 18) ∨ (sortOf op).2 = 2 := by
    revert hs0
    unfold sortOf
    simp only [o23, o24, o25, o26, or_self, if_false]
    (repeat' split) <;> simp <;> omega
  have hl : (kids.length : Int) = (sortOf op).2 := by have := hn (by omega); simpa using this
  match kids, hl with
  | [], hl => simp at hl; omega
  | [a], hl =>
    have h18 : op ≠ 18 := by
      rcases h12 with ⟨_, h⟩ | h
      · exact h
      · simp at hl; omega
    exact ⟨a, a, .inl ⟨rfl, rfl, h18⟩, by simp, by simp, rfl, rfl⟩
  | [a, b], _ => exact ⟨a, b, .inr rfl, by simp, by simp, rfl, rfl⟩
  | _ :: _ :: _ :: _, hl => simp at hl; omega
theorem strict_ops {op k : Int} {ks : List Int} (h : refKind op ks = (k, 0)) (o23 : op ≠ 23) (o24 : op ≠ 24) (o25 : op ≠ 25) (o26 : op ≠ 26) :
    op ≠ 18 → op ≠ 20 → op ≠ 21 → ¬ (op = 4 ∨ op = 5 ∨ op = 6 ∨ op = 7 ∨ op = 8 ∨ op = 9 ∨ op = 10 ∨ op = 11 ∨ op = 22 ∨ op = 19) → 12 ≤ op ∧ op ≤ 17 := by
  obtain ⟨_, hs0, _⟩ := refKind_inv h
  intro o18 o20 o21 ho
  revert hs0
  unfold sortOf
  simp only [o23, o24, o25, o26, or_self, if_false]
  (repeat' split) <;> simp <;> omega
theorem dom_some (ks : List Dom) (hne : ks ≠ []) (hl : ks.length < 2 ^ 40) (hO : ∀ d ∈ ks, d.Ok) (op k : Int) (h0 : 4 ≤ op ∧ op ≤ 26) (hk : refKind op (ks.map (·.kind)) = (k, 0)) :
    ∃ r : Dom, ACalls Tryz.prog 16 [.nils, .agg (nodeE op (.slice ((zsOf ks).map leafZ))), rows1 ks] (dA r) ∧ ACalls Tryz.prog 12 [.nils, .agg (nodeE op (.slice ((zsOf ks).map leafZ))), rows1 ks] (dA r) := by
  have hkc : (kindC op (ks.map (·.kind))).1 = k := by
    rw [kinds_alike op _ (by simp; omega) (by intro x hx; obtain ⟨d, hd, rfl⟩ := List.mem_map.1 hx; exact (hO d hd).2.1), hk]
  have eN := node_alike op k ks hO hk
  have n1 : ACalls Tryz.prog 88 [.int .u8 op, .sliceF (ks.map Dom.enc)] (dA (nodeD op k ks)) := by
    refine facts_node op k ks hl hkc fun hem o23 o24 o25 o26 => ?_
    obtain ⟨a, b, hab, ha, hb, e1, e2⟩ := two_kids hk o23 o24 o25 o26
    have hs := facts_strict op k ks a b hl hab (hO a ha).2 (hO b hb).2
    have e : nodeD op k ks = strictD op k ks (fun c => mayBe c 1) (fun c => mayBe c 0) (sameC a b) (mC (byOf b)) false := by
      unfold nodeD
      rw [if_neg (by rw [hem]; simp), if_neg o23, if_neg o24, if_neg o25, if_neg o26, e1, e2]
    rw [e]
    exact hs
  have n2 : ACalls Tryz.prog 32 [.int .u8 op, doms ks] (dA (nodeR op k ks)) := by
    refine ref_Node op k ks hl hne hk fun o23 o24 o25 o26 => ?_
    obtain ⟨a, b, hab, ha, hb, e1, e2⟩ := two_kids hk o23 o24 o25 o26
    rw [e1, e2]
    exact ref_strict op k ks a b hl hab (hO a ha).2 (hO b hb).2 (fun hs => ((okD_cases (hO b hb).1 (hO b hb).2.1).2.2 hs).2.1) (strict_ops hk o23 o24 o25 o26)
  rw [eN] at n1
  have z1 := zsOf_ok ks
  have z2 : (zsOf ks).length < 2 ^ 40 := by rw [zsOf_len]; exact hl
  refine ⟨nodeR op k ks, ?_, ?_⟩
  · rw [← rowsA_zs]
    refine facts_Domain (zsOf ks) op _ _ (.inl rfl) (dom_node (zsOf ks) z1 z2 op (by omega) (by omega) _ ?_)
    rw [zsOf_enc]
    exact n1
  · rw [← rowsA_zs]
    refine ref_of_node (zsOf ks) z1 z2 op (by omega) (by omega) (by omega) (by omega) (by omega) _ (fun h => hne ((zsOf_nil ks).1 h)) ?_
    rw [zsOf_enc]
    exact n2
end Go.Proofs.YtoggbjfjmbjegaaGreatDoor
