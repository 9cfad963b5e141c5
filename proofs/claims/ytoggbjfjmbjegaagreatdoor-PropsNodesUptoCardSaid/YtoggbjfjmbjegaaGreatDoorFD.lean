/- The domain of a node over columns: the program's scope.domain, scope.domains, facts.Domain. No tables are valid tables; rows of domains are looked through: the program's props.check, the document's given. The kinds of rows of domains (the program's facts.Kinds, the document's Kinds); the document's of. -/
import Derived.Test.YtoggbjfjmbjegaaGreatDoorFC
import Derived.Test.YtoggbjfjmbjegaaGreatDoorT0
set_option linter.unusedSimpArgs false
set_option linter.unusedVariables false
set_option linter.unusedSimpArgs false
set_option linter.unusedVariables false
namespace Go.Proofs.YtoggbjfjmbjegaaGreatDoor
open Go Go.Ab
-- @enc(Dom.enc, kd, dZ, leafE)@
theorem ti41 : ti Tryz.prog 41 = ⟨(.slice 56), 1, 24, false, some [.nils]⟩ := by kernel_rfl
theorem ti42 : ti Tryz.prog 42 = ⟨(.slice 56), 1, 24, false, some [.nils]⟩ := by kernel_rfl
theorem ti56 : ti Tryz.prog 56 = ⟨(.struct [(0, 1, false), (1, 1, false), (2, 1, false), (3, 1, false), (4, 1, false)]), 5, 112, true, some [.str ⟨#[]⟩, .nils, .nils, .nils, .nils]⟩ := by kernel_rfl
theorem ti117 : ti Tryz.prog 117 = ⟨(.slice 9), 1, 24, false, some [.nils]⟩ := by kernel_rfl
theorem ti166 : ti Tryz.prog 166 = ⟨(.map 9 4), 1, 8, false, some [.lit (.map none)]⟩ := by kernel_rfl

attribute [local go_sem ↓] parts_tt parts_ff parts_tf parts_ft reduceIte
attribute [local go_sem] reduceCtorEq Nat.reduceAdd Nat.reduceSub Nat.reduceLeDiff Nat.reduceEqDiff Nat.reduceMul Nat.reduceLT Nat.reducePow Int.reduceEq Int.reduceLT Int.reduceLE Int.reduceGT Int.reduceGE Int.reduceAdd Int.reduceSub Int.reduceNeg Int.reduceToNat parts_eq learnT aops_nil aops_cons aopsD_nil aopsD_cons stepS stepD gval St.learn skipR St.after putτ applyUpd List.foldl_cons List.foldl_nil pureOp memOp callOf litA closeO closeK List.flatMap_cons List.flatMap_nil Option.map_none decide_false opnd ofConst leaf binA unA lenA indexA indexAddrA fieldAddrA fieldA weak_slice weak_nils weak_str weak_view weak_viewF weak_sliceF weak_ptr weak_cptr weak_rptr weak_sl weak_sl0 weak_any sliceFA_slice sliceFA_str sliceFA_view sliceFA_none sliceFA_some sameO sliceA convertA pickV fillA placeS cellsA setA partA loadM storeM appendM srcEls lookBox lookRow lookMap closeL closeV scalarB scalarL killed buildEls lookupA leafEq eqAll resA resL tupA retA thenA blockA isInt loA hiA foldA maxA minA okSize leafB closedB Res.foot List.getD_cons_zero List.getD_cons_succ List.set_cons_zero List.set_cons_succ List.map_cons List.map_nil List.append_nil List.nil_append List.cons_append List.length_cons List.length_nil List.take_succ_cons List.take_zero List.drop_succ_cons List.drop_zero List.take_nil List.drop_nil List.all_cons List.all_nil List.getElem?_toArray List.getElem?_cons_zero List.getElem?_cons_succ Option.bind_some Option.map_some true_and and_true true_implies ne_eq not_true_eq_false not_false_eq_true Bool.true_eq_false Bool.false_eq_true Bool.not_true Bool.not_false decide_eq_true_eq decide_eq_false_iff_not false_implies implies_true and_self ite_true ite_false cond_true cond_false Option.some.injEq List.reverse_cons List.reverse_nil Bool.and_self Bool.true_and Bool.and_true Bool.false_and Bool.and_false Bool.or_true Bool.true_or Bool.or_false Bool.false_or Bool.not_eq_eq_eq_not Bool.not_not Bool.or_self beq_self_eq_true and_false false_and or_true true_or or_false false_or not_true not_false_iff Decidable.not_not lookT lookR tabT tabR Int.toNat_natCast List.length_map List.map_append List.length_append decide_true decide_false tmod2 List.mem_singleton forall_eq elOk1 elOk3 elOk4 castn0 castn1 castn2 castn3 getD_mid getD_mid_map at_lt at_end mid_lt mid_lt' nat_ge List.size_toArray Array.size_empty Nat.add_zero Nat.zero_add
attribute [local irreducible] ASpec ACalls retA ti EqT
set_option linter.unusedSimpArgs false
set_option maxHeartbeats 4000000
set_option maxRecDepth 100000
set_option linter.unusedVariables false
attribute [local go_sem] ti2 ti3 ti4 ti5 ti9 ti21 ti22 ti23 ti24 ti26 ti27 ti28 ti30 ti33 ti34 ti37 ti41 ti42 ti46 ti52 ti56 ti68 ti69 ti73 ti78 ti86 ti89 ti99 ti117 ti122 ti123 ti124 ti144 ti166 ti173 ti174 ti190 ti191 ti199 ti245 ti247 ti257 ti271 ti288 ti290 ti343
attribute [local go_sem] memS memS0 memT allocB
@[reducible] def leafE (i : Nat) : List AV := [.int .u8 2, .int .u8 0, .int .i64 0, .str ⟨#[]⟩, .int .i64 0, .int .i64 i, .nils, .nils]
abbrev Zs := List (Dom × Nat)
def Zs.Ok (zs : Zs) : Prop := ∀ pre x rest, zs = pre ++ x :: rest → x.2 = pre.length
@[reducible] def domZ (z : Dom × Nat) : List AV := z.1.enc
@[reducible] def leafZ (z : Dom × Nat) : List AV := leafE z.2
@[reducible] def rowsA (zs : Zs) : AV := .slice [[.slice (zs.map domZ)]]
@[reducible] def scopeA (zs : Zs) : AV := .agg [.nils, rowsA zs]
theorem law_column (i : Int) : ACalls Tryz.prog 4 [.int .i64 0, .int .i64 i] (.agg [.int .u8 2, .int .u8 0, .int .i64 0, .str ⟨#[]⟩, .int .i64 0, .int .i64 i, .nils, .nils]) := by
  refine acalls_k Tryz.func4 rfl (by kernel_rfl) (congrArg Array.toList Tryz.results4) Tryz.ntmps4 ?_
  intro R hR
  simp only [st0, List.length_cons, List.length_nil, Nat.reduceAdd, Nat.reduceSub, List.replicate_succ, List.replicate_zero, List.cons_append, List.nil_append]
  repeat' (first | (with_reducible refine a_seq_k ?_; intro K hK) | (with_reducible first | refine a_block ?_ | refine a_ret ?_ | refine a_exit ?_ | refine a_skip ?_ | exact ConfOk.mk (by kernel_rfl)) | ((fail_if_success with_reducible show False); with_reducible apply_assumption (exfalso := false) (symm := false) only [*, rfl, trivial, congrArg]) | with_reducible refine And.intro ?_ ?_ | (intro h; contradiction) | (intro h; subst h) | intro h | ((try (with_reducible first | refine a_region (by kernel_rfl) ?_ | (refine a_draw mixed (by kernel_rfl) ?_; intro C hC) | (refine a_cond_k ?_; intro X Y hX hY) | refine RetOk.mk ?_)); simp (maxSteps := 10000000) (implicitDefEqProofs := false) only [go_sem]))
theorem dom_leaf (zs : Zs) (hz : zs.Ok) (pre rest : Zs) (x : Dom × Nat) (h : zs = pre ++ x :: rest) : ACalls Tryz.prog 40 [scopeA zs, .agg (leafZ x)] (dA x.1) := by
  have hx := hz pre x rest h
  subst h
  obtain ⟨d, i⟩ := x
  simp only at hx
  subst hx
  refine acalls_k Tryz.func40 rfl (by kernel_rfl) (congrArg Array.toList Tryz.results40) Tryz.ntmps40 ?_
  intro R hR
  simp only [st0, List.length_cons, List.length_nil, Nat.reduceAdd, Nat.reduceSub, List.replicate_succ, List.replicate_zero, List.cons_append, List.nil_append]
  repeat' (first | (with_reducible refine a_seq_k ?_; intro K hK) | (with_reducible first | refine a_block ?_ | refine a_ret ?_ | refine a_exit ?_ | refine a_skip ?_ | exact ConfOk.mk (by kernel_rfl)) | ((fail_if_success with_reducible show False); with_reducible apply_assumption (exfalso := false) (symm := false) only [*, rfl, trivial, congrArg]) | with_reducible refine And.intro ?_ ?_ | (intro h; contradiction) | (intro h; subst h) | intro h | ((try (with_reducible first | refine a_region (by kernel_rfl) ?_ | (refine a_draw mixed (by kernel_rfl) ?_; intro C hC) | (refine a_cond_k ?_; intro X Y hX hY) | refine RetOk.mk ?_)); simp (maxSteps := 10000000) (implicitDefEqProofs := false) only [go_sem, Dom.enc]))
theorem dom_leaves (zs : Zs) (hz : zs.Ok) (hl : zs.length < 2 ^ 40) : ACalls Tryz.prog 87 [scopeA zs, .slice (zs.map leafZ)] (.sliceF (zs.map domZ)) := by
  have hd := fun pre rest x h => dom_leaf zs hz pre rest x h
  simp only [scopeA, rowsA, dA] at hd
  refine acalls_k Tryz.func87 rfl (by kernel_rfl) (congrArg Array.toList Tryz.results87) Tryz.ntmps87 ?_
  intro R hR
  simp only [st0, List.length_cons, List.length_nil, Nat.reduceAdd, Nat.reduceSub, List.replicate_succ, List.replicate_zero, List.cons_append, List.nil_append]
  repeat' (first | (with_reducible refine a_seq_k ?_; intro K hK) | (with_reducible first | refine a_block ?_ | refine a_ret ?_ | refine a_exit ?_ | refine a_skip ?_ | exact ConfOk.mk (by kernel_rfl)) | ((fail_if_success with_reducible show False); with_reducible apply_assumption (exfalso := false) (symm := false) only [*, rfl, trivial, congrArg]) | with_reducible refine And.intro ?_ ?_ | (intro h; contradiction) | (intro h; subst h) | intro h | ((try (with_reducible first | refine a_region (by kernel_rfl) ?_ | (refine a_draw mixed (by kernel_rfl) ?_; intro C hC) | (refine a_cond_k ?_; intro X Y hX hY) | refine RetOk.mk ?_)); simp (maxSteps := 10000000) (implicitDefEqProofs := false) only [go_sem]))
  try any_goals omega
  refine a_loop_k (fun n st => ∃ (g : Nat) (pre rest : List _) (u : Unit), zs = pre ++ rest ∧ n = rest.length ∧ (True) ∧ Has st 26 [(2, .ptr 2 0 0), (5, .viewF 10 1), (11, .slice (zs.map leafZ)), (12, .int .i64 zs.length), (13, .int .i64 pre.length)] [(2, .box 0 [.nils, .slice [[.slice (zs.map domZ)]]]), (10, .row 1 6 (pre.map domZ ++ List.replicate rest.length dZ))]) (zs).length ⟨0, [], zs, (), rfl, rfl, trivial, ⟨rfl, rfl, by simp [Dom.enc, kd, dZ, leafE], by simp [Dom.enc, kd, dZ, leafE]⟩⟩ ?_
  rintro n st ⟨g, pre, rest, u, he, rfl, hp, hs⟩ K hK
  have hw := wrap_nat pre.length (by have := congrArg List.length he; simp at this; omega)
  subst he
  refine a_has hs fun τ σ γ => ?_
  rcases rest with _ | ⟨x, rest⟩
  · simp only [List.append_nil, List.length_nil, List.replicate_zero] at *
    repeat' (first | (with_reducible refine a_seq_k ?_; intro K hK) | (with_reducible first | refine a_block ?_ | refine a_ret ?_ | refine a_exit ?_ | refine a_skip ?_ | exact ConfOk.mk (by kernel_rfl)) | ((fail_if_success with_reducible show False); with_reducible apply_assumption (exfalso := false) (symm := false) only [*, rfl, trivial, congrArg]) | with_reducible refine And.intro ?_ ?_ | (intro h; contradiction) | (intro h; subst h) | intro h | ((try (with_reducible first | refine a_region (by kernel_rfl) ?_ | (refine a_draw mixed (by kernel_rfl) ?_; intro C hC) | (refine a_cond_k ?_; intro X Y hX hY) | refine RetOk.mk ?_)); simp (maxSteps := 10000000) (implicitDefEqProofs := false) only [go_sem]))
  · have h6 := set_rep (pre.map domZ) rest.length dZ (domZ x)
    have h7 := getD_rep (pre.map domZ) rest.length dZ []
    have hc := hd pre rest x rfl
    simp only [List.length_map] at h6 h7
    simp only [List.map_append, List.map_cons, leafZ, leafE, domZ, Dom.enc, dZ] at hc h6 h7
    repeat' (first | (with_reducible refine a_seq_k ?_; intro K hK) | (with_reducible first | refine a_block ?_ | refine a_ret ?_ | refine a_exit ?_ | refine a_skip ?_ | exact ConfOk.mk (by kernel_rfl)) | ((fail_if_success with_reducible show False); with_reducible apply_assumption (exfalso := false) (symm := false) only [*, rfl, trivial, congrArg]) | with_reducible refine And.intro ?_ ?_ | (intro h; contradiction) | (intro h; subst h) | intro h | ((try (with_reducible first | refine a_region (by kernel_rfl) ?_ | (refine a_draw mixed (by kernel_rfl) ?_; intro C hC) | (refine a_cond_k ?_; intro X Y hX hY) | refine RetOk.mk ?_ | refine CallS.intro (hc) ?_ | refine CallD.intro (hc) ?_)); simp (maxSteps := 10000000) (implicitDefEqProofs := false) only [go_sem, hw, h6, h7, List.length_replicate, domZ, Dom.enc, dZ]))
    try any_goals omega
    all_goals exact ⟨⟨rest.length, by simp, 0, pre ++ [x], rest, (), by simp, rfl, ⟨rfl, rfl, by simp [Dom.enc], by simp [Dom.enc]⟩⟩⟩
@[reducible] def nodeE (op : Int) (ks : AV) : List AV := [.int .u8 op, .int .u8 0, .int .i64 0, .str ⟨#[]⟩, .int .i64 0, .int .i64 0, ks, .nils]
theorem dom_node (zs : Zs) (hz : zs.Ok) (hl : zs.length < 2 ^ 40) (op : Int) (h0 : op ≠ 0) (h2 : op ≠ 2) (r : Dom)
    (hn : ACalls Tryz.prog 88 [.int .u8 op, .sliceF (zs.map domZ)] (dA r)) :
    ACalls Tryz.prog 40 [scopeA zs, .agg (nodeE op (.slice (zs.map leafZ)))] (dA r) := by
  have hd := dom_leaves zs hz hl
  simp only [dA, Dom.enc] at hn
  refine acalls_k Tryz.func40 rfl (by kernel_rfl) (congrArg Array.toList Tryz.results40) Tryz.ntmps40 ?_
  intro R hR
  simp only [st0, List.length_cons, List.length_nil, Nat.reduceAdd, Nat.reduceSub, List.replicate_succ, List.replicate_zero, List.cons_append, List.nil_append]
  repeat' (first | (with_reducible refine a_seq_k ?_; intro K hK) | (with_reducible first | refine a_block ?_ | refine a_ret ?_ | refine a_exit ?_ | refine a_skip ?_ | exact ConfOk.mk (by kernel_rfl)) | ((fail_if_success with_reducible show False); with_reducible apply_assumption (exfalso := false) (symm := false) only [*, rfl, trivial, congrArg]) | with_reducible refine And.intro ?_ ?_ | (intro h; contradiction) | (intro h; subst h) | intro h | ((try (with_reducible first | refine a_region (by kernel_rfl) ?_ | (refine a_draw mixed (by kernel_rfl) ?_; intro C hC) | (refine a_cond_k ?_; intro X Y hX hY) | refine RetOk.mk ?_ | refine CallS.intro (hd) ?_ | refine CallD.intro (hd) ?_ | refine CallS.intro (hn) ?_ | refine CallD.intro (hn) ?_)); simp (maxSteps := 10000000) (implicitDefEqProofs := false) only [go_sem, Dom.enc, h0, h2, nilB]))
theorem facts_Domain (zs : Zs) (op : Int) (ks : AV) (r : Dom) (hks : ks = .slice (zs.map leafZ) ∨ ks = .nils)
    (h : ACalls Tryz.prog 40 [scopeA zs, .agg (nodeE op ks)] (dA r)) :
    ACalls Tryz.prog 16 [.nils, .agg (nodeE op ks), rowsA zs] (dA r) := by
  simp only [dA, Dom.enc] at h
  rcases hks with rfl | rfl
  · refine acalls_k Tryz.func16 rfl (by kernel_rfl) (congrArg Array.toList Tryz.results16) Tryz.ntmps16 ?_
    intro R hR
    simp only [st0, List.length_cons, List.length_nil, Nat.reduceAdd, Nat.reduceSub, List.replicate_succ, List.replicate_zero, List.cons_append, List.nil_append]
    repeat' (first | (with_reducible refine a_seq_k ?_; intro K hK) | (with_reducible first | refine a_block ?_ | refine a_ret ?_ | refine a_exit ?_ | refine a_skip ?_ | exact ConfOk.mk (by kernel_rfl)) | ((fail_if_success with_reducible show False); with_reducible apply_assumption (exfalso := false) (symm := false) only [*, rfl, trivial, congrArg]) | with_reducible refine And.intro ?_ ?_ | (intro h; contradiction) | (intro h; subst h) | intro h | ((try (with_reducible first | refine a_region (by kernel_rfl) ?_ | (refine a_draw mixed (by kernel_rfl) ?_; intro C hC) | (refine a_cond_k ?_; intro X Y hX hY) | refine RetOk.mk ?_ | refine CallS.intro (h) ?_ | refine CallD.intro (h) ?_)); simp (maxSteps := 10000000) (implicitDefEqProofs := false) only [go_sem, Dom.enc]))
  · refine acalls_k Tryz.func16 rfl (by kernel_rfl) (congrArg Array.toList Tryz.results16) Tryz.ntmps16 ?_
    intro R hR
    simp only [st0, List.length_cons, List.length_nil, Nat.reduceAdd, Nat.reduceSub, List.replicate_succ, List.replicate_zero, List.cons_append, List.nil_append]
    repeat' (first | (with_reducible refine a_seq_k ?_; intro K hK) | (with_reducible first | refine a_block ?_ | refine a_ret ?_ | refine a_exit ?_ | refine a_skip ?_ | exact ConfOk.mk (by kernel_rfl)) | ((fail_if_success with_reducible show False); with_reducible apply_assumption (exfalso := false) (symm := false) only [*, rfl, trivial, congrArg]) | with_reducible refine And.intro ?_ ?_ | (intro h; contradiction) | (intro h; subst h) | intro h | ((try (with_reducible first | refine a_region (by kernel_rfl) ?_ | (refine a_draw mixed (by kernel_rfl) ?_; intro C hC) | (refine a_cond_k ?_; intro X Y hX hY) | refine RetOk.mk ?_ | refine CallS.intro (h) ?_ | refine CallD.intro (h) ?_)); simp (maxSteps := 10000000) (implicitDefEqProofs := false) only [go_sem, Dom.enc]))
theorem dom_null : ACalls Tryz.prog 40 [scopeA [], .agg (nodeE 0 .nils)] (dA ⟨0, true, false, false, 0, 0⟩) := by
  have h := facts_measured ⟨0, 0, ⟨#[]⟩⟩
  rw [show single ⟨0, 0, ⟨#[]⟩⟩ = ⟨0, true, false, false, 0, 0⟩ from rfl] at h
  simp only [dA, Dom.enc, Val.enc] at h
  refine acalls_k Tryz.func40 rfl (by kernel_rfl) (congrArg Array.toList Tryz.results40) Tryz.ntmps40 ?_
  intro R hR
  simp only [st0, List.length_cons, List.length_nil, Nat.reduceAdd, Nat.reduceSub, List.replicate_succ, List.replicate_zero, List.cons_append, List.nil_append]
  repeat' (first | (with_reducible refine a_seq_k ?_; intro K hK) | (with_reducible first | refine a_block ?_ | refine a_ret ?_ | refine a_exit ?_ | refine a_skip ?_ | exact ConfOk.mk (by kernel_rfl)) | ((fail_if_success with_reducible show False); with_reducible apply_assumption (exfalso := false) (symm := false) only [*, rfl, trivial, congrArg]) | with_reducible refine And.intro ?_ ?_ | (intro h; contradiction) | (intro h; subst h) | intro h | ((try (with_reducible first | refine a_region (by kernel_rfl) ?_ | (refine a_draw mixed (by kernel_rfl) ?_; intro C hC) | (refine a_cond_k ?_; intro X Y hX hY) | refine RetOk.mk ?_ | refine CallS.intro (h) ?_ | refine CallD.intro (h) ?_)); simp (maxSteps := 10000000) (implicitDefEqProofs := false) only [go_sem, Dom.enc]))
-- @enc(Dom.enc, kd, dZ)@
attribute [local go_sem] memS memS0 memT allocB
theorem a_once {P : Program} {c : Code} {Q : Exit → St → Prop} {st : St} (h : ∀ K : St → Prop, ASpec P c (thenA K Q) st) : ASpec P (.loop c) Q st :=
  a_loop_k (fun _ st' => st' = st) 0 rfl (fun n st' e K hK => e ▸ h K)
theorem mapped_nil (f : AV) (hf : f = .func (.func 72) []) : ACalls Tryz.prog 71 [.nils, f] (.slice []) := by
  subst hf
  refine acalls_k Tryz.func71 rfl (by kernel_rfl) (congrArg Array.toList Tryz.results71) Tryz.ntmps71 ?_
  intro R hR
  simp only [st0, List.length_cons, List.length_nil, Nat.reduceAdd, Nat.reduceSub, List.replicate_succ, List.replicate_zero, List.cons_append, List.nil_append]
  repeat' (first | (with_reducible refine a_seq_k ?_; intro K hK) | (with_reducible first | refine a_block ?_ | refine a_ret ?_ | refine a_exit ?_ | refine a_skip ?_ | exact ConfOk.mk (by kernel_rfl)) | ((fail_if_success with_reducible show False); with_reducible apply_assumption (exfalso := false) (symm := false) only [*, rfl, trivial, congrArg]) | with_reducible refine And.intro ?_ ?_ | (intro h; contradiction) | (intro h; subst h) | intro h | ((try (with_reducible first | refine a_region (by kernel_rfl) ?_ | (refine a_draw mixed (by kernel_rfl) ?_; intro C hC) | (refine a_cond_k ?_; intro X Y hX hY) | refine RetOk.mk ?_)); simp (maxSteps := 10000000) (implicitDefEqProofs := false) only [go_sem]))
  try any_goals omega
  all_goals (try exact (by decide))
  refine a_once fun K => ?_
  repeat' (first | (with_reducible refine a_seq_k ?_; intro K hK) | (with_reducible first | refine a_block ?_ | refine a_ret ?_ | refine a_exit ?_ | refine a_skip ?_ | exact ConfOk.mk (by kernel_rfl)) | ((fail_if_success with_reducible show False); with_reducible apply_assumption (exfalso := false) (symm := false) only [*, rfl, trivial, congrArg]) | with_reducible refine And.intro ?_ ?_ | (intro h; contradiction) | (intro h; subst h) | intro h | ((try (with_reducible first | refine a_region (by kernel_rfl) ?_ | (refine a_draw mixed (by kernel_rfl) ?_; intro C hC) | (refine a_cond_k ?_; intro X Y hX hY) | refine RetOk.mk ?_)); simp (maxSteps := 10000000) (implicitDefEqProofs := false) only [go_sem]))
theorem distinct_nil : ACalls Tryz.prog 70 [.slice []] (.bool true) := by
  refine acalls_k Tryz.func70 rfl (by kernel_rfl) (congrArg Array.toList Tryz.results70) Tryz.ntmps70 ?_
  intro R hR
  simp only [st0, List.length_cons, List.length_nil, Nat.reduceAdd, Nat.reduceSub, List.replicate_succ, List.replicate_zero, List.cons_append, List.nil_append]
  repeat' (first | (with_reducible refine a_seq_k ?_; intro K hK) | (with_reducible first | refine a_block ?_ | refine a_ret ?_ | refine a_exit ?_ | refine a_skip ?_ | exact ConfOk.mk (by kernel_rfl)) | ((fail_if_success with_reducible show False); with_reducible apply_assumption (exfalso := false) (symm := false) only [*, rfl, trivial, congrArg]) | with_reducible refine And.intro ?_ ?_ | (intro h; contradiction) | (intro h; subst h) | intro h | ((try (with_reducible first | refine a_region (by kernel_rfl) ?_ | (refine a_draw mixed (by kernel_rfl) ?_; intro C hC) | (refine a_cond_k ?_; intro X Y hX hY) | refine RetOk.mk ?_)); simp (maxSteps := 10000000) (implicitDefEqProofs := false) only [go_sem]))
  try any_goals omega
  all_goals (try exact (by decide))
  refine a_once fun K => ?_
  repeat' (first | (with_reducible refine a_seq_k ?_; intro K hK) | (with_reducible first | refine a_block ?_ | refine a_ret ?_ | refine a_exit ?_ | refine a_skip ?_ | exact ConfOk.mk (by kernel_rfl)) | ((fail_if_success with_reducible show False); with_reducible apply_assumption (exfalso := false) (symm := false) only [*, rfl, trivial, congrArg]) | with_reducible refine And.intro ?_ ?_ | (intro h; contradiction) | (intro h; subst h) | intro h | ((try (with_reducible first | refine a_region (by kernel_rfl) ?_ | (refine a_draw mixed (by kernel_rfl) ?_; intro C hC) | (refine a_cond_k ?_; intro X Y hX hY) | refine RetOk.mk ?_)); simp (maxSteps := 10000000) (implicitDefEqProofs := false) only [go_sem]))
theorem scheme_Valid : ACalls Tryz.prog 33 [.nils] (.bool true) := by
  refine acalls_k Tryz.func33 rfl (by kernel_rfl) (congrArg Array.toList Tryz.results33) Tryz.ntmps33 ?_
  intro R hR
  simp only [st0, List.length_cons, List.length_nil, Nat.reduceAdd, Nat.reduceSub, List.replicate_succ, List.replicate_zero, List.cons_append, List.nil_append]
  repeat' (first | (with_reducible refine a_seq_k ?_; intro K hK) | (with_reducible first | refine a_block ?_ | refine a_ret ?_ | refine a_exit ?_ | refine a_skip ?_ | exact ConfOk.mk (by kernel_rfl)) | ((fail_if_success with_reducible show False); with_reducible apply_assumption (exfalso := false) (symm := false) only [*, rfl, trivial, congrArg]) | with_reducible refine And.intro ?_ ?_ | (intro h; contradiction) | (intro h; subst h) | intro h | ((try (with_reducible first | refine a_region (by kernel_rfl) ?_ | (refine a_draw mixed (by kernel_rfl) ?_; intro C hC) | (refine a_cond_k ?_; intro X Y hX hY) | refine RetOk.mk ?_ | refine CallS.intro (mapped_nil _ rfl) ?_ | refine CallD.intro (mapped_nil _ rfl) ?_ | refine CallS.intro (distinct_nil) ?_ | refine CallD.intro (distinct_nil) ?_)); simp (maxSteps := 10000000) (implicitDefEqProofs := false) only [go_sem]))
  refine a_once fun K => ?_
  repeat' (first | (with_reducible refine a_seq_k ?_; intro K hK) | (with_reducible first | refine a_block ?_ | refine a_ret ?_ | refine a_exit ?_ | refine a_skip ?_ | exact ConfOk.mk (by kernel_rfl)) | ((fail_if_success with_reducible show False); with_reducible apply_assumption (exfalso := false) (symm := false) only [*, rfl, trivial, congrArg]) | with_reducible refine And.intro ?_ ?_ | (intro h; contradiction) | (intro h; subst h) | intro h | ((try (with_reducible first | refine a_region (by kernel_rfl) ?_ | (refine a_draw mixed (by kernel_rfl) ?_; intro C hC) | (refine a_cond_k ?_; intro X Y hX hY) | refine RetOk.mk ?_)); simp (maxSteps := 10000000) (implicitDefEqProofs := false) only [go_sem]))
theorem ref_Valid0 : ACalls Tryz.prog 21 [.nils] (.bool true) := by
  refine acalls_k Tryz.func21 rfl (by kernel_rfl) (congrArg Array.toList Tryz.results21) Tryz.ntmps21 ?_
  intro R hR
  simp only [st0, List.length_cons, List.length_nil, Nat.reduceAdd, Nat.reduceSub, List.replicate_succ, List.replicate_zero, List.cons_append, List.nil_append]
  repeat' (first | (with_reducible refine a_seq_k ?_; intro K hK) | (with_reducible first | refine a_block ?_ | refine a_ret ?_ | refine a_exit ?_ | refine a_skip ?_ | exact ConfOk.mk (by kernel_rfl)) | ((fail_if_success with_reducible show False); with_reducible apply_assumption (exfalso := false) (symm := false) only [*, rfl, trivial, congrArg]) | with_reducible refine And.intro ?_ ?_ | (intro h; contradiction) | (intro h; subst h) | intro h | ((try (with_reducible first | refine a_region (by kernel_rfl) ?_ | (refine a_draw mixed (by kernel_rfl) ?_; intro C hC) | (refine a_cond_k ?_; intro X Y hX hY) | refine RetOk.mk ?_)); simp (maxSteps := 10000000) (implicitDefEqProofs := false) only [go_sem]))
  try any_goals omega
  all_goals (try exact (by decide))
  refine a_once fun K => ?_
  repeat' (first | (with_reducible refine a_seq_k ?_; intro K hK) | (with_reducible first | refine a_block ?_ | refine a_ret ?_ | refine a_exit ?_ | refine a_skip ?_ | exact ConfOk.mk (by kernel_rfl)) | ((fail_if_success with_reducible show False); with_reducible apply_assumption (exfalso := false) (symm := false) only [*, rfl, trivial, congrArg]) | with_reducible refine And.intro ?_ ?_ | (intro h; contradiction) | (intro h; subst h) | intro h | ((try (with_reducible first | refine a_region (by kernel_rfl) ?_ | (refine a_draw mixed (by kernel_rfl) ?_; intro C hC) | (refine a_cond_k ?_; intro X Y hX hY) | refine RetOk.mk ?_)); simp (maxSteps := 10000000) (implicitDefEqProofs := false) only [go_sem]))
@[reducible] def badC (d : Dom) : Bool := !okDC d || d.fail
@[reducible] def badR (d : Dom) : Bool := !okD d || d.fail
@[reducible] def rows1 (ks : List Dom) : AV := .slice [[.slice (ks.map Dom.enc)]]
theorem props_check (ks : List Dom) (hl : ks.length < 2 ^ 40) : ACalls Tryz.prog 13 [.nils, rows1 ks] (.int .i64 (if ks.any badC = true then 1 else 0)) := by
  obtain ⟨res, hres⟩ : ∃ r : Int, r = if ks.any badC = true then 1 else 0 := ⟨_, rfl⟩
  rw [← hres]
  refine acalls_k Tryz.func13 rfl (by kernel_rfl) (congrArg Array.toList Tryz.results13) Tryz.ntmps13 ?_
  intro R hR
  simp only [st0, List.length_cons, List.length_nil, Nat.reduceAdd, Nat.reduceSub, List.replicate_succ, List.replicate_zero, List.cons_append, List.nil_append]
  repeat' (first | (with_reducible refine a_seq_k ?_; intro K hK) | (with_reducible first | refine a_block ?_ | refine a_ret ?_ | refine a_exit ?_ | refine a_skip ?_ | exact ConfOk.mk (by kernel_rfl)) | ((fail_if_success with_reducible show False); with_reducible apply_assumption (exfalso := false) (symm := false) only [*, rfl, trivial, congrArg]) | with_reducible refine And.intro ?_ ?_ | (intro h; contradiction) | (intro h; subst h) | intro h | ((try (with_reducible first | refine a_region (by kernel_rfl) ?_ | (refine a_draw mixed (by kernel_rfl) ?_; intro C hC) | (refine a_cond_k ?_; intro X Y hX hY) | refine RetOk.mk ?_ | refine CallS.intro (scheme_Valid) ?_ | refine CallD.intro (scheme_Valid) ?_)); simp (maxSteps := 10000000) (implicitDefEqProofs := false) only [go_sem]))
  refine a_loop_k (fun m st => (m = 1 ∧ Has st 33 [(12, .slice [[.slice (ks.map Dom.enc)]]), (13, .int .i64 1), (14, .int .i64 0)] []) ∨ (m = 0 ∧ ks.any badC = false ∧ Has st 33 [(12, .slice [[.slice (ks.map Dom.enc)]]), (13, .int .i64 1), (14, .int .i64 1)] [])) 1 (.inl ⟨rfl, ⟨rfl, rfl, by simp, by simp⟩⟩) ?_
  rintro m st (⟨rfl, hs⟩ | ⟨rfl, hb, hs⟩) K0 hK0
  · refine a_has hs fun τ σ γ => ?_
    repeat' (first | (with_reducible refine a_seq_k ?_; intro K hK) | (with_reducible first | refine a_block ?_ | refine a_ret ?_ | refine a_exit ?_ | refine a_skip ?_ | exact ConfOk.mk (by kernel_rfl)) | ((fail_if_success with_reducible show False); with_reducible apply_assumption (exfalso := false) (symm := false) only [*, rfl, trivial, congrArg]) | with_reducible refine And.intro ?_ ?_ | (intro h; contradiction) | (intro h; subst h) | intro h | ((try (with_reducible first | refine a_region (by kernel_rfl) ?_ | (refine a_draw mixed (by kernel_rfl) ?_; intro C hC) | (refine a_cond_k ?_; intro X Y hX hY) | refine RetOk.mk ?_)); simp (maxSteps := 10000000) (implicitDefEqProofs := false) only [go_sem]))
    refine a_loop_k (fun n st => ∃ (g : Nat) (pre rest : List _) (u : Unit), ks = pre ++ rest ∧ n = rest.length ∧ (pre.any badC = false) ∧ Has st 33 [(12, .slice [[.slice (ks.map Dom.enc)]]), (13, .int .i64 1), (14, .int .i64 0), (18, .slice (ks.map Dom.enc)), (19, .int .i64 ks.length), (20, .int .i64 pre.length)] []) (ks).length ⟨0, [], ks, (), rfl, rfl, rfl, ⟨rfl, rfl, by simp [Dom.enc, kd, dZ], by simp [Dom.enc, kd, dZ]⟩⟩ ?_
    rintro n st ⟨g, pre, rest, u, he, rfl, hp, hs⟩ K hK
    have hw := wrap_nat pre.length (by have := congrArg List.length he; simp at this; omega)
    subst he
    refine a_has hs fun τ σ γ => ?_
    rcases rest with _ | ⟨x, rest⟩
    · simp only [List.append_nil] at *
      repeat' (first | (with_reducible refine a_seq_k ?_; intro K hK) | (with_reducible first | refine a_block ?_ | refine a_ret ?_ | refine a_exit ?_ | refine a_skip ?_ | exact ConfOk.mk (by kernel_rfl)) | ((fail_if_success with_reducible show False); with_reducible apply_assumption (exfalso := false) (symm := false) only [*, rfl, trivial, congrArg]) | with_reducible refine And.intro ?_ ?_ | (intro h; contradiction) | (intro h; subst h) | intro h | ((try (with_reducible first | refine a_region (by kernel_rfl) ?_ | (refine a_draw mixed (by kernel_rfl) ?_; intro C hC) | (refine a_cond_k ?_; intro X Y hX hY) | refine RetOk.mk ?_)); simp (maxSteps := 10000000) (implicitDefEqProofs := false) only [go_sem, wr1]))
      all_goals exact ⟨⟨0, by omega, .inr ⟨rfl, by assumption, ⟨rfl, rfl, by simp, by simp⟩⟩⟩⟩
    · have hv := facts_Valid x
      simp only [dA, Dom.enc] at hv
      repeat' (first | (with_reducible refine a_seq_k ?_; intro K hK) | (with_reducible first | refine a_block ?_ | refine a_ret ?_ | refine a_exit ?_ | refine a_skip ?_ | exact ConfOk.mk (by kernel_rfl)) | ((fail_if_success with_reducible show False); with_reducible apply_assumption (exfalso := false) (symm := false) only [*, rfl, trivial, congrArg]) | with_reducible refine And.intro ?_ ?_ | (intro h; contradiction) | (intro h; subst h) | intro h | ((try (with_reducible first | refine a_region (by kernel_rfl) ?_ | (refine a_draw mixed (by kernel_rfl) ?_; intro C hC) | (refine a_cond_k ?_; intro X Y hX hY) | refine RetOk.mk ?_ | refine CallS.intro (hv) ?_ | refine CallD.intro (hv) ?_)); simp (maxSteps := 10000000) (implicitDefEqProofs := false) only [go_sem, Dom.enc, hw]))
      all_goals first
        | (rw [hres, if_pos (by simp [badC, *])]; done)
        | exact ⟨⟨rest.length, by simp, 0, pre ++ [x], rest, (), by simp, rfl, by simp [badC, *], ⟨rfl, rfl, by simp [Dom.enc, kd, dZ], by simp [Dom.enc, kd, dZ]⟩⟩⟩
  · refine a_has hs fun τ σ γ => ?_
    rw [if_neg (by simp [hb])] at hres
    subst hres
    repeat' (first | (with_reducible refine a_seq_k ?_; intro K hK) | (with_reducible first | refine a_block ?_ | refine a_ret ?_ | refine a_exit ?_ | refine a_skip ?_ | exact ConfOk.mk (by kernel_rfl)) | ((fail_if_success with_reducible show False); with_reducible apply_assumption (exfalso := false) (symm := false) only [*, rfl, trivial, congrArg]) | with_reducible refine And.intro ?_ ?_ | (intro h; contradiction) | (intro h; subst h) | intro h | ((try (with_reducible first | refine a_region (by kernel_rfl) ?_ | (refine a_draw mixed (by kernel_rfl) ?_; intro C hC) | (refine a_cond_k ?_; intro X Y hX hY) | refine RetOk.mk ?_)); simp (maxSteps := 10000000) (implicitDefEqProofs := false) only [go_sem]))
theorem ref_given (ks : List Dom) (hl : ks.length < 2 ^ 40) : ACalls Tryz.prog 9 [.nils, rows1 ks] (.int .i64 (if ks.any badR = true then 1 else 0)) := by
  obtain ⟨res, hres⟩ : ∃ r : Int, r = if ks.any badR = true then 1 else 0 := ⟨_, rfl⟩
  rw [← hres]
  refine acalls_k Tryz.func9 rfl (by kernel_rfl) (congrArg Array.toList Tryz.results9) Tryz.ntmps9 ?_
  intro R hR
  simp only [st0, List.length_cons, List.length_nil, Nat.reduceAdd, Nat.reduceSub, List.replicate_succ, List.replicate_zero, List.cons_append, List.nil_append]
  repeat' (first | (with_reducible refine a_seq_k ?_; intro K hK) | (with_reducible first | refine a_block ?_ | refine a_ret ?_ | refine a_exit ?_ | refine a_skip ?_ | exact ConfOk.mk (by kernel_rfl)) | ((fail_if_success with_reducible show False); with_reducible apply_assumption (exfalso := false) (symm := false) only [*, rfl, trivial, congrArg]) | with_reducible refine And.intro ?_ ?_ | (intro h; contradiction) | (intro h; subst h) | intro h | ((try (with_reducible first | refine a_region (by kernel_rfl) ?_ | (refine a_draw mixed (by kernel_rfl) ?_; intro C hC) | (refine a_cond_k ?_; intro X Y hX hY) | refine RetOk.mk ?_ | refine CallS.intro (ref_Valid0) ?_ | refine CallD.intro (ref_Valid0) ?_)); simp (maxSteps := 10000000) (implicitDefEqProofs := false) only [go_sem]))
  refine a_loop_k (fun m st => (m = 1 ∧ Has st 44 [(1, .slice [[.slice (ks.map Dom.enc)]]), (5, .int .i64 0)] []) ∨ (m = 0 ∧ ks.any badR = false ∧ Has st 44 [(1, .slice [[.slice (ks.map Dom.enc)]]), (5, .int .i64 1)] [])) 1 (.inl ⟨rfl, ⟨rfl, rfl, by simp, by simp⟩⟩) ?_
  rintro m st (⟨rfl, hs⟩ | ⟨rfl, hb, hs⟩) K0 hK0
  · refine a_has hs fun τ σ γ => ?_
    repeat' (first | (with_reducible refine a_seq_k ?_; intro K hK) | (with_reducible first | refine a_block ?_ | refine a_ret ?_ | refine a_exit ?_ | refine a_skip ?_ | exact ConfOk.mk (by kernel_rfl)) | ((fail_if_success with_reducible show False); with_reducible apply_assumption (exfalso := false) (symm := false) only [*, rfl, trivial, congrArg]) | with_reducible refine And.intro ?_ ?_ | (intro h; contradiction) | (intro h; subst h) | intro h | ((try (with_reducible first | refine a_region (by kernel_rfl) ?_ | (refine a_draw mixed (by kernel_rfl) ?_; intro C hC) | (refine a_cond_k ?_; intro X Y hX hY) | refine RetOk.mk ?_)); simp (maxSteps := 10000000) (implicitDefEqProofs := false) only [go_sem]))
    refine a_loop_k (fun n st => ∃ (g : Nat) (pre rest : List _) (u : Unit), ks = pre ++ rest ∧ n = rest.length ∧ (pre.any badR = false) ∧ Has st 44 [(1, .slice [[.slice (ks.map Dom.enc)]]), (5, .int .i64 0), (6, .int .i64 pre.length)] []) (ks).length ⟨0, [], ks, (), rfl, rfl, rfl, ⟨rfl, rfl, by simp [Dom.enc, kd, dZ], by simp [Dom.enc, kd, dZ]⟩⟩ ?_
    rintro n st ⟨g, pre, rest, u, he, rfl, hp, hs⟩ K hK
    have hw := wrap_nat pre.length (by have := congrArg List.length he; simp at this; omega)
    subst he
    refine a_has hs fun τ σ γ => ?_
    rcases rest with _ | ⟨x, rest⟩
    · simp only [List.append_nil] at *
      repeat' (first | (with_reducible refine a_seq_k ?_; intro K hK) | (with_reducible first | refine a_block ?_ | refine a_ret ?_ | refine a_exit ?_ | refine a_skip ?_ | exact ConfOk.mk (by kernel_rfl)) | ((fail_if_success with_reducible show False); with_reducible apply_assumption (exfalso := false) (symm := false) only [*, rfl, trivial, congrArg]) | with_reducible refine And.intro ?_ ?_ | (intro h; contradiction) | (intro h; subst h) | intro h | ((try (with_reducible first | refine a_region (by kernel_rfl) ?_ | (refine a_draw mixed (by kernel_rfl) ?_; intro C hC) | (refine a_cond_k ?_; intro X Y hX hY) | refine RetOk.mk ?_)); simp (maxSteps := 10000000) (implicitDefEqProofs := false) only [go_sem, wr1]))
      all_goals exact ⟨⟨0, by omega, .inr ⟨rfl, by assumption, ⟨rfl, rfl, by simp, by simp⟩⟩⟩⟩
    · have hv := ref_ValidDomain x
      simp only [dA, Dom.enc] at hv
      repeat' (first | (with_reducible refine a_seq_k ?_; intro K hK) | (with_reducible first | refine a_block ?_ | refine a_ret ?_ | refine a_exit ?_ | refine a_skip ?_ | exact ConfOk.mk (by kernel_rfl)) | ((fail_if_success with_reducible show False); with_reducible apply_assumption (exfalso := false) (symm := false) only [*, rfl, trivial, congrArg]) | with_reducible refine And.intro ?_ ?_ | (intro h; contradiction) | (intro h; subst h) | intro h | ((try (with_reducible first | refine a_region (by kernel_rfl) ?_ | (refine a_draw mixed (by kernel_rfl) ?_; intro C hC) | (refine a_cond_k ?_; intro X Y hX hY) | refine RetOk.mk ?_ | refine CallS.intro (hv) ?_ | refine CallD.intro (hv) ?_)); simp (maxSteps := 10000000) (implicitDefEqProofs := false) only [go_sem, Dom.enc, hw]))
      all_goals first
        | (rw [hres, if_pos (by simp [badR, *])]; done)
        | exact ⟨⟨rest.length, by simp, 0, pre ++ [x], rest, (), by simp, rfl, by simp [badR, *], ⟨rfl, rfl, by simp [Dom.enc, kd, dZ], by simp [Dom.enc, kd, dZ]⟩⟩⟩
  · refine a_has hs fun τ σ γ => ?_
    rw [if_neg (by simp [hb])] at hres
    subst hres
    repeat' (first | (with_reducible refine a_seq_k ?_; intro K hK) | (with_reducible first | refine a_block ?_ | refine a_ret ?_ | refine a_exit ?_ | refine a_skip ?_ | exact ConfOk.mk (by kernel_rfl)) | ((fail_if_success with_reducible show False); with_reducible apply_assumption (exfalso := false) (symm := false) only [*, rfl, trivial, congrArg]) | with_reducible refine And.intro ?_ ?_ | (intro h; contradiction) | (intro h; subst h) | intro h | ((try (with_reducible first | refine a_region (by kernel_rfl) ?_ | (refine a_draw mixed (by kernel_rfl) ?_; intro C hC) | (refine a_cond_k ?_; intro X Y hX hY) | refine RetOk.mk ?_)); simp (maxSteps := 10000000) (implicitDefEqProofs := false) only [go_sem]))
set_option maxHeartbeats 400000
-- @enc(Dom.enc, kd, dZ)@
set_option maxHeartbeats 400000
attribute [local go_sem] memS memS0 memT allocB
@[reducible] def kdD (d : Dom) : List AV := [.int .u8 d.kind]
@[reducible] def kinds1 (ks : List Dom) : AV := .slice [[.slice (ks.map kdD)]]
theorem ref_of_leaf (zs : Zs) (hz : zs.Ok) (pre rest : Zs) (x : Dom × Nat) (h : zs = pre ++ x :: rest) : ACalls Tryz.prog 12 [.nils, .agg (leafZ x), rowsA zs] (dA x.1) := by
  have hx := hz pre x rest h
  subst h
  obtain ⟨d, i⟩ := x
  simp only at hx
  subst hx
  refine acalls_k Tryz.func12 rfl (by kernel_rfl) (congrArg Array.toList Tryz.results12) Tryz.ntmps12 ?_
  intro R hR
  simp only [st0, List.length_cons, List.length_nil, Nat.reduceAdd, Nat.reduceSub, List.replicate_succ, List.replicate_zero, List.cons_append, List.nil_append]
  repeat' (first | (with_reducible refine a_seq_k ?_; intro K hK) | (with_reducible first | refine a_block ?_ | refine a_ret ?_ | refine a_exit ?_ | refine a_skip ?_ | exact ConfOk.mk (by kernel_rfl)) | ((fail_if_success with_reducible show False); with_reducible apply_assumption (exfalso := false) (symm := false) only [*, rfl, trivial, congrArg]) | with_reducible refine And.intro ?_ ?_ | (intro h; contradiction) | (intro h; subst h) | intro h | ((try (with_reducible first | refine a_region (by kernel_rfl) ?_ | (refine a_draw mixed (by kernel_rfl) ?_; intro C hC) | (refine a_cond_k ?_; intro X Y hX hY) | refine RetOk.mk ?_)); simp (maxSteps := 10000000) (implicitDefEqProofs := false) only [go_sem, Dom.enc]))
theorem ref_of_node (zs : Zs) (hz : zs.Ok) (hl : zs.length < 2 ^ 40) (op : Int) (h0 : op ≠ 0) (h2 : op ≠ 2) (h7 : op ≠ 27) (h8 : op ≠ 28) (h9 : op ≠ 29) (r : Dom) (hne : zs ≠ [])
    (hn : ACalls Tryz.prog 32 [.int .u8 op, .slice (zs.map domZ)] (dA r)) :
    ACalls Tryz.prog 12 [.nils, .agg (nodeE op (.slice (zs.map leafZ))), rowsA zs] (dA r) := by
  have hd := fun pre rest x h => ref_of_leaf zs hz pre rest x h
  simp only [rowsA, dA, Dom.enc] at hd hn
  refine acalls_k Tryz.func12 rfl (by kernel_rfl) (congrArg Array.toList Tryz.results12) Tryz.ntmps12 ?_
  intro R hR
  simp only [st0, List.length_cons, List.length_nil, Nat.reduceAdd, Nat.reduceSub, List.replicate_succ, List.replicate_zero, List.cons_append, List.nil_append]
  repeat' (first | (with_reducible refine a_seq_k ?_; intro K hK) | (with_reducible first | refine a_block ?_ | refine a_ret ?_ | refine a_exit ?_ | refine a_skip ?_ | exact ConfOk.mk (by kernel_rfl)) | ((fail_if_success with_reducible show False); with_reducible apply_assumption (exfalso := false) (symm := false) only [*, rfl, trivial, congrArg]) | with_reducible refine And.intro ?_ ?_ | (intro h; contradiction) | (intro h; subst h) | intro h | ((try (with_reducible first | refine a_region (by kernel_rfl) ?_ | (refine a_draw mixed (by kernel_rfl) ?_; intro C hC) | (refine a_cond_k ?_; intro X Y hX hY) | refine RetOk.mk ?_)); simp (maxSteps := 10000000) (implicitDefEqProofs := false) only [go_sem, Dom.enc, h0, h2]))
  refine a_loop_k (fun m st => (m = zs.length ∧ Has st 84 [(0, .nils), (2, rowsA zs), (4, .ptr 4 0 0), (6, .ptr 6 0 0), (7, .nils), (8, .int .i64 0)] [(4, .box 0 (nodeE op (.slice (zs.map leafZ)))), (6, .box 0 dZ)]) ∨ (∃ (g : Nat) (pre rest : Zs), zs = pre ++ rest ∧ pre ≠ [] ∧ m = rest.length ∧ Has st 84 [(0, .nils), (2, rowsA zs), (4, .ptr 4 0 0), (6, .ptr 6 0 0), (7, .view 44 g), (8, .int .i64 pre.length)] [(4, .box 0 (nodeE op (.slice (zs.map leafZ)))), (6, .box 0 dZ), (44, .row g 6 (pre.map domZ))])) zs.length (.inl ⟨rfl, ⟨rfl, rfl, by simp, by simp⟩⟩) ?_
  rintro m st (⟨rfl, hs⟩ | ⟨g, pre, rest, he, hp, rfl, hs⟩) K0 hK0
  · obtain ⟨x, r, rfl⟩ := List.exists_cons_of_ne_nil hne
    have hc := hd [] r x rfl
    simp only [List.nil_append, List.map_cons, leafZ, leafE, domZ, Dom.enc] at hc
    refine a_has hs fun τ σ γ => ?_
    have hgt : (0 : Int) < ((r.length + 1 : Nat) : Int) := by omega
    repeat' (first | (with_reducible refine a_seq_k ?_; intro K hK) | (with_reducible first | refine a_block ?_ | refine a_ret ?_ | refine a_exit ?_ | refine a_skip ?_ | exact ConfOk.mk (by kernel_rfl)) | ((fail_if_success with_reducible show False); with_reducible apply_assumption (exfalso := false) (symm := false) only [*, rfl, trivial, congrArg]) | with_reducible refine And.intro ?_ ?_ | (intro h; contradiction) | (intro h; subst h) | intro h | ((try (with_reducible first | refine a_region (by kernel_rfl) ?_ | (refine a_draw mixed (by kernel_rfl) ?_; intro C hC) | (refine a_cond_k ?_; intro X Y hX hY) | refine RetOk.mk ?_ | refine CallS.intro (hc) ?_ | refine CallD.intro (hc) ?_)); simp (maxSteps := 10000000) (implicitDefEqProofs := false) only [go_sem, domZ, leafZ, Dom.enc, wr1, hgt]))
    all_goals exact ⟨⟨r.length, by simp, .inr ⟨γ + 1, [x], r, rfl, by simp, rfl, ⟨rfl, rfl, by simp [Dom.enc], by simp [Dom.enc]⟩⟩⟩⟩
  · have hw := wrap_nat pre.length (by have := congrArg List.length he; simp at this; omega)
    subst he
    refine a_has hs fun τ σ γ => ?_
    rcases rest with _ | ⟨x, rest⟩
    · simp only [List.append_nil] at *
      repeat' (first | (with_reducible refine a_seq_k ?_; intro K hK) | (with_reducible first | refine a_block ?_ | refine a_ret ?_ | refine a_exit ?_ | refine a_skip ?_ | exact ConfOk.mk (by kernel_rfl)) | ((fail_if_success with_reducible show False); with_reducible apply_assumption (exfalso := false) (symm := false) only [*, rfl, trivial, congrArg]) | with_reducible refine And.intro ?_ ?_ | (intro h; contradiction) | (intro h; subst h) | intro h | ((try (with_reducible first | refine a_region (by kernel_rfl) ?_ | (refine a_draw mixed (by kernel_rfl) ?_; intro C hC) | (refine a_cond_k ?_; intro X Y hX hY) | refine RetOk.mk ?_ | refine CallS.intro (hn) ?_ | refine CallD.intro (hn) ?_)); simp (maxSteps := 10000000) (implicitDefEqProofs := false) only [go_sem, h7, h8, h9, nodeE]))
    · have hc := hd pre rest x rfl
      simp only [List.map_append, List.map_cons, leafZ, leafE, domZ, Dom.enc] at hc
      repeat' (first | (with_reducible refine a_seq_k ?_; intro K hK) | (with_reducible first | refine a_block ?_ | refine a_ret ?_ | refine a_exit ?_ | refine a_skip ?_ | exact ConfOk.mk (by kernel_rfl)) | ((fail_if_success with_reducible show False); with_reducible apply_assumption (exfalso := false) (symm := false) only [*, rfl, trivial, congrArg]) | with_reducible refine And.intro ?_ ?_ | (intro h; contradiction) | (intro h; subst h) | intro h | ((try (with_reducible first | refine a_region (by kernel_rfl) ?_ | (refine a_draw mixed (by kernel_rfl) ?_; intro C hC) | (refine a_cond_k ?_; intro X Y hX hY) | refine RetOk.mk ?_ | refine CallS.intro (hc) ?_ | refine CallD.intro (hc) ?_)); simp (maxSteps := 10000000) (implicitDefEqProofs := false) only [go_sem, domZ, leafZ, Dom.enc, hw]))
      all_goals simp only [List.length_append, List.length_cons] at hl
      try any_goals omega
      all_goals exact ⟨⟨rest.length, by simp, .inr ⟨γ + 1, pre ++ [x], rest, by simp, by simp, rfl, ⟨rfl, rfl, by simp [Dom.enc], by simp [Dom.enc]⟩⟩⟩⟩
theorem ref_only0 : ACalls Tryz.prog 27 [.agg [.int .u8 0, .int .i64 0, .str ⟨#[]⟩]] (dA ⟨0, true, false, false, 0, 0⟩) := by
  refine acalls_k Tryz.func27 rfl (by kernel_rfl) (congrArg Array.toList Tryz.results27) Tryz.ntmps27 ?_
  intro R hR
  simp only [st0, List.length_cons, List.length_nil, Nat.reduceAdd, Nat.reduceSub, List.replicate_succ, List.replicate_zero, List.cons_append, List.nil_append]
  repeat' (first | (with_reducible refine a_seq_k ?_; intro K hK) | (with_reducible first | refine a_block ?_ | refine a_ret ?_ | refine a_exit ?_ | refine a_skip ?_ | exact ConfOk.mk (by kernel_rfl)) | ((fail_if_success with_reducible show False); with_reducible apply_assumption (exfalso := false) (symm := false) only [*, rfl, trivial, congrArg]) | with_reducible refine And.intro ?_ ?_ | (intro h; contradiction) | (intro h; subst h) | intro h | ((try (with_reducible first | refine a_region (by kernel_rfl) ?_ | (refine a_draw mixed (by kernel_rfl) ?_; intro C hC) | (refine a_cond_k ?_; intro X Y hX hY) | refine RetOk.mk ?_)); simp (maxSteps := 10000000) (implicitDefEqProofs := false) only [go_sem, Dom.enc]))
theorem ref_of_null : ACalls Tryz.prog 12 [.nils, .agg (nodeE 0 .nils), rowsA []] (dA ⟨0, true, false, false, 0, 0⟩) := by
  have h := ref_only0
  simp only [dA, Dom.enc, Val.enc] at h
  refine acalls_k Tryz.func12 rfl (by kernel_rfl) (congrArg Array.toList Tryz.results12) Tryz.ntmps12 ?_
  intro R hR
  simp only [st0, List.length_cons, List.length_nil, Nat.reduceAdd, Nat.reduceSub, List.replicate_succ, List.replicate_zero, List.cons_append, List.nil_append]
  repeat' (first | (with_reducible refine a_seq_k ?_; intro K hK) | (with_reducible first | refine a_block ?_ | refine a_ret ?_ | refine a_exit ?_ | refine a_skip ?_ | exact ConfOk.mk (by kernel_rfl)) | ((fail_if_success with_reducible show False); with_reducible apply_assumption (exfalso := false) (symm := false) only [*, rfl, trivial, congrArg]) | with_reducible refine And.intro ?_ ?_ | (intro h; contradiction) | (intro h; subst h) | intro h | ((try (with_reducible first | refine a_region (by kernel_rfl) ?_ | (refine a_draw mixed (by kernel_rfl) ?_; intro C hC) | (refine a_cond_k ?_; intro X Y hX hY) | refine RetOk.mk ?_ | refine CallS.intro (h) ?_ | refine CallD.intro (h) ?_)); simp (maxSteps := 10000000) (implicitDefEqProofs := false) only [go_sem, Dom.enc]))
theorem kill_some (σ : Sto) : ∀ m, m ≤ List.length σ → (List.range m).foldl (fun s k => s.set k none) σ = List.replicate m none ++ List.drop m σ := by
  intro m
  induction m with
  | zero => intro _; simp
  | succ m ih =>
    intro h
    rw [List.range_succ, List.foldl_append, ih (by omega)]
    have hd : List.drop m σ = (List.getD σ m none) :: List.drop (m + 1) σ := by
      rw [List.drop_eq_getElem_cons (by omega)]
      simp [List.getD, List.getElem?_eq_getElem (show m < List.length σ by omega)]
    rw [hd]
    simp only [List.foldl_cons, List.foldl_nil]
    rw [List.set_append_right _ _ (by simp)]
    simp [List.replicate_succ', List.append_assoc]
theorem kill_all (n : Nat) (σ : Sto) (h : List.length σ = n) : applyUpd σ (killed (List.range n)) = List.replicate n none := by
  unfold applyUpd killed
  rw [List.foldl_map, kill_some σ n (by omega), List.drop_of_length_le (by omega), List.append_nil]
theorem a_shut2 {P : Program} {st : St} {Q : Exit → St → Prop} {c : Code} (t : Nat) (x : AV) {y : AV} (hτ : st.τ[t]? = some x) (hc : closeW st.σ 5 x = some y) (h : ASpec P c Q ⟨st.τ.set t y, List.replicate st.σ.length none, st.gen⟩) : ASpec P c Q st := by
  refine Go.Ab.a_shut t x hτ hc ?_
  rw [kill_all _ _ rfl]
  exact h
theorem ref_Kinds (ks : List Dom) (hl : ks.length < 2 ^ 40) (hne : ks ≠ []) : ACalls Tryz.prog 11 [rows1 ks] (kinds1 ks) := by
  refine acalls_k Tryz.func11 rfl (by kernel_rfl) (congrArg Array.toList Tryz.results11) Tryz.ntmps11 ?_
  intro R hR
  simp only [st0, List.length_cons, List.length_nil, Nat.reduceAdd, Nat.reduceSub, List.replicate_succ, List.replicate_zero, List.cons_append, List.nil_append]
  repeat' (first | (with_reducible refine a_seq_k ?_; intro K hK) | (with_reducible first | refine a_block ?_ | refine a_ret ?_ | refine a_exit ?_ | refine a_skip ?_ | exact ConfOk.mk (by kernel_rfl)) | ((fail_if_success with_reducible show False); with_reducible apply_assumption (exfalso := false) (symm := false) only [*, rfl, trivial, congrArg]) | with_reducible refine And.intro ?_ ?_ | (intro h; contradiction) | (intro h; subst h) | intro h | ((try (with_reducible first | refine a_region (by kernel_rfl) ?_ | (refine a_draw mixed (by kernel_rfl) ?_; intro C hC) | (refine a_cond_k ?_; intro X Y hX hY) | refine RetOk.mk ?_)); simp (maxSteps := 10000000) (implicitDefEqProofs := false) only [go_sem]))
  refine a_loop_k (fun m st => (m = 1 ∧ Has st 38 [(0, rows1 ks), (3, .nils), (4, .int .i64 0)] []) ∨ (∃ g : Nat, m = 0 ∧ Has st 38 [(0, rows1 ks), (3, .view 36 g), (4, .int .i64 1)] [(36, .row g 1 [[.slice (ks.map kdD)]])])) 1 (.inl ⟨rfl, ⟨rfl, rfl, by simp, by simp⟩⟩) ?_
  rintro m st (⟨rfl, hs⟩ | ⟨g, rfl, hs⟩) K0 hK0
  · refine a_has hs fun τ σ γ => ?_
    repeat' (first | (with_reducible refine a_seq_k ?_; intro K hK) | (with_reducible first | refine a_block ?_ | refine a_ret ?_ | refine a_exit ?_ | refine a_skip ?_ | exact ConfOk.mk (by kernel_rfl)) | ((fail_if_success with_reducible show False); with_reducible apply_assumption (exfalso := false) (symm := false) only [*, rfl, trivial, congrArg]) | with_reducible refine And.intro ?_ ?_ | (intro h; contradiction) | (intro h; subst h) | intro h | ((try (with_reducible first | refine a_region (by kernel_rfl) ?_ | (refine a_draw mixed (by kernel_rfl) ?_; intro C hC) | (refine a_cond_k ?_; intro X Y hX hY) | refine RetOk.mk ?_)); simp (maxSteps := 10000000) (implicitDefEqProofs := false) only [go_sem]))
    refine a_loop_k (fun m st => (m = ks.length ∧ Has st 38 [(0, rows1 ks), (3, .nils), (4, .int .i64 0), (5, .nils), (6, .int .i64 0)] []) ∨ (∃ (g : Nat) (pre rest : List Dom), ks = pre ++ rest ∧ pre ≠ [] ∧ m = rest.length ∧ Has st 38 [(0, rows1 ks), (3, .nils), (4, .int .i64 0), (5, .view 32 g), (6, .int .i64 pre.length)] [(32, .row g 1 (pre.map kdD))])) ks.length (.inl ⟨rfl, ⟨rfl, rfl, by simp, by simp⟩⟩) ?_
    rintro m st (⟨rfl, hs⟩ | ⟨g, pre, rest, he, hp, rfl, hs⟩) K1 hK1
    · obtain ⟨x, r, rfl⟩ := List.exists_cons_of_ne_nil hne
      have hgt : (0 : Int) < ((r.length + 1 : Nat) : Int) := by omega
      refine a_has hs fun τ σ γ => ?_
      repeat' (first | (with_reducible refine a_seq_k ?_; intro K hK) | (with_reducible first | refine a_block ?_ | refine a_ret ?_ | refine a_exit ?_ | refine a_skip ?_ | exact ConfOk.mk (by kernel_rfl)) | ((fail_if_success with_reducible show False); with_reducible apply_assumption (exfalso := false) (symm := false) only [*, rfl, trivial, congrArg]) | with_reducible refine And.intro ?_ ?_ | (intro h; contradiction) | (intro h; subst h) | intro h | ((try (with_reducible first | refine a_region (by kernel_rfl) ?_ | (refine a_draw mixed (by kernel_rfl) ?_; intro C hC) | (refine a_cond_k ?_; intro X Y hX hY) | refine RetOk.mk ?_)); simp (maxSteps := 10000000) (implicitDefEqProofs := false) only [go_sem, rows1, Dom.enc, wr1, hgt]))
      all_goals exact ⟨⟨r.length, by simp, .inr ⟨γ + 1, [x], r, rfl, by simp, rfl, ⟨rfl, rfl, by simp [Dom.enc], by simp [Dom.enc]⟩⟩⟩⟩
    · have hw := wrap_nat pre.length (by have := congrArg List.length he; simp at this; omega)
      subst he
      refine a_has hs fun τ σ γ => ?_
      rcases rest with _ | ⟨x, rest⟩
      · simp only [List.append_nil] at *
        simp (maxSteps := 10000000) (implicitDefEqProofs := false) only [go_sem]
        refine a_shut2 5 (.view 32 g) (y := .slice (pre.map kdD)) (by simp) (by simp [closeW, lookRow]) ?_
        simp only [List.replicate_succ, List.replicate_zero]
        simp (maxSteps := 10000000) (implicitDefEqProofs := false) only [go_sem]
        simp only [List.replicate_succ, List.replicate_zero]
        repeat' (first | (with_reducible refine a_seq_k ?_; intro K hK) | (with_reducible first | refine a_block ?_ | refine a_ret ?_ | refine a_exit ?_ | refine a_skip ?_ | exact ConfOk.mk (by kernel_rfl)) | ((fail_if_success with_reducible show False); with_reducible apply_assumption (exfalso := false) (symm := false) only [*, rfl, trivial, congrArg]) | with_reducible refine And.intro ?_ ?_ | (intro h; contradiction) | (intro h; subst h) | intro h | ((try (with_reducible first | refine a_region (by kernel_rfl) ?_ | (refine a_draw mixed (by kernel_rfl) ?_; intro C hC) | (refine a_cond_k ?_; intro X Y hX hY) | refine RetOk.mk ?_)); simp (maxSteps := 10000000) (implicitDefEqProofs := false) only [go_sem, rows1, wr1]))
        all_goals exact ⟨⟨0, by omega, .inr ⟨γ + 1, rfl, ⟨rfl, rfl, by simp, by simp⟩⟩⟩⟩
      · repeat' (first | (with_reducible refine a_seq_k ?_; intro K hK) | (with_reducible first | refine a_block ?_ | refine a_ret ?_ | refine a_exit ?_ | refine a_skip ?_ | exact ConfOk.mk (by kernel_rfl)) | ((fail_if_success with_reducible show False); with_reducible apply_assumption (exfalso := false) (symm := false) only [*, rfl, trivial, congrArg]) | with_reducible refine And.intro ?_ ?_ | (intro h; contradiction) | (intro h; subst h) | intro h | ((try (with_reducible first | refine a_region (by kernel_rfl) ?_ | (refine a_draw mixed (by kernel_rfl) ?_; intro C hC) | (refine a_cond_k ?_; intro X Y hX hY) | refine RetOk.mk ?_)); simp (maxSteps := 10000000) (implicitDefEqProofs := false) only [go_sem, rows1, Dom.enc, hw]))
        all_goals simp only [List.length_append, List.length_cons] at hl
        try any_goals omega
        all_goals exact ⟨⟨rest.length, by simp, .inr ⟨γ + 1, pre ++ [x], rest, by simp, by simp, rfl, ⟨rfl, rfl, by simp [Dom.enc], by simp [Dom.enc]⟩⟩⟩⟩
  · refine a_has hs fun τ σ γ => ?_
    repeat' (first | (with_reducible refine a_seq_k ?_; intro K hK) | (with_reducible first | refine a_block ?_ | refine a_ret ?_ | refine a_exit ?_ | refine a_skip ?_ | exact ConfOk.mk (by kernel_rfl)) | ((fail_if_success with_reducible show False); with_reducible apply_assumption (exfalso := false) (symm := false) only [*, rfl, trivial, congrArg]) | with_reducible refine And.intro ?_ ?_ | (intro h; contradiction) | (intro h; subst h) | intro h | ((try (with_reducible first | refine a_region (by kernel_rfl) ?_ | (refine a_draw mixed (by kernel_rfl) ?_; intro C hC) | (refine a_cond_k ?_; intro X Y hX hY) | refine RetOk.mk ?_)); simp (maxSteps := 10000000) (implicitDefEqProofs := false) only [go_sem]))
theorem facts_kinds (ks : List Dom) (hl : ks.length < 2 ^ 40) (hne : ks ≠ []) : ACalls Tryz.prog 39 [rows1 ks] (kinds1 ks) := by
  refine acalls_k Tryz.func39 rfl (by kernel_rfl) (congrArg Array.toList Tryz.results39) Tryz.ntmps39 ?_
  intro R hR
  simp only [st0, List.length_cons, List.length_nil, Nat.reduceAdd, Nat.reduceSub, List.replicate_succ, List.replicate_zero, List.cons_append, List.nil_append]
  repeat' (first | (with_reducible refine a_seq_k ?_; intro K hK) | (with_reducible first | refine a_block ?_ | refine a_ret ?_ | refine a_exit ?_ | refine a_skip ?_ | exact ConfOk.mk (by kernel_rfl)) | ((fail_if_success with_reducible show False); with_reducible apply_assumption (exfalso := false) (symm := false) only [*, rfl, trivial, congrArg]) | with_reducible refine And.intro ?_ ?_ | (intro h; contradiction) | (intro h; subst h) | intro h | ((try (with_reducible first | refine a_region (by kernel_rfl) ?_ | (refine a_draw mixed (by kernel_rfl) ?_; intro C hC) | (refine a_cond_k ?_; intro X Y hX hY) | refine RetOk.mk ?_)); simp (maxSteps := 10000000) (implicitDefEqProofs := false) only [go_sem]))
  try any_goals (exact (by decide))
  refine a_box [3] (k := 10) (g := 1) (els := [[.nils]]) (by simp) (by simp [lookRow]) (by simp) ?_
  simp (maxSteps := 10000000) (implicitDefEqProofs := false) only [go_sem]
  refine a_loop_k (fun m st => (m = 1 ∧ Has st 38 [(3, .sl 10 1 1 0 1), (11, rows1 ks), (12, .int .i64 1), (13, .int .i64 0)] [(10, .box 1 [.nils])]) ∨ (m = 0 ∧ Has st 38 [(3, kinds1 ks), (11, rows1 ks), (12, .int .i64 1), (13, .int .i64 1)] [])) 1 (.inl ⟨rfl, ⟨rfl, rfl, by simp [putAll], by simp⟩⟩) ?_
  rintro m st (⟨rfl, hs⟩ | ⟨rfl, hs⟩) K0 hK0
  · refine a_has hs fun τ σ γ => ?_
    repeat' (first | (with_reducible refine a_seq_k ?_; intro K hK) | (with_reducible first | refine a_block ?_ | refine a_ret ?_ | refine a_exit ?_ | refine a_skip ?_ | exact ConfOk.mk (by kernel_rfl)) | ((fail_if_success with_reducible show False); with_reducible apply_assumption (exfalso := false) (symm := false) only [*, rfl, trivial, congrArg]) | with_reducible refine And.intro ?_ ?_ | (intro h; contradiction) | (intro h; subst h) | intro h | ((try (with_reducible first | refine a_region (by kernel_rfl) ?_ | (refine a_draw mixed (by kernel_rfl) ?_; intro C hC) | (refine a_cond_k ?_; intro X Y hX hY) | refine RetOk.mk ?_)); simp (maxSteps := 10000000) (implicitDefEqProofs := false) only [go_sem]))
    refine a_loop_k (fun m st => (m = ks.length ∧ Has st 38 [(3, .sl 10 1 1 0 1), (4, .int .i64 0), (11, rows1 ks), (12, .int .i64 1), (13, .int .i64 0), (18, .slice (ks.map Dom.enc)), (19, .int .i64 ks.length), (20, .int .i64 0)] [(10, .box 1 [.nils])]) ∨ (∃ (g : Nat) (pre rest : List Dom), ks = pre ++ rest ∧ pre ≠ [] ∧ m = rest.length ∧ Has st 38 [(3, .sl 10 1 1 0 1), (4, .int .i64 0), (11, rows1 ks), (12, .int .i64 1), (13, .int .i64 0), (18, .slice (ks.map Dom.enc)), (19, .int .i64 ks.length), (20, .int .i64 pre.length)] [(10, .box 1 [.view 33 g]), (33, .row g 1 (pre.map kdD))])) ks.length (.inl ⟨rfl, ⟨rfl, rfl, by simp, by simp⟩⟩) ?_
    rintro m st (⟨rfl, hs⟩ | ⟨g, pre, rest, he, hp, rfl, hs⟩) K1 hK1
    · obtain ⟨x, r, rfl⟩ := List.exists_cons_of_ne_nil hne
      have hgt : (0 : Int) < ((r.length + 1 : Nat) : Int) := by omega
      refine a_has hs fun τ σ γ => ?_
      repeat' (first | (with_reducible refine a_seq_k ?_; intro K hK) | (with_reducible first | refine a_block ?_ | refine a_ret ?_ | refine a_exit ?_ | refine a_skip ?_ | exact ConfOk.mk (by kernel_rfl)) | ((fail_if_success with_reducible show False); with_reducible apply_assumption (exfalso := false) (symm := false) only [*, rfl, trivial, congrArg]) | with_reducible refine And.intro ?_ ?_ | (intro h; contradiction) | (intro h; subst h) | intro h | ((try (with_reducible first | refine a_region (by kernel_rfl) ?_ | (refine a_draw mixed (by kernel_rfl) ?_; intro C hC) | (refine a_cond_k ?_; intro X Y hX hY) | refine RetOk.mk ?_)); simp (maxSteps := 10000000) (implicitDefEqProofs := false) only [go_sem, rows1, Dom.enc, wr1, hgt]))
      all_goals exact ⟨⟨r.length, by simp, .inr ⟨γ + 1 + 1, [x], r, rfl, by simp, rfl, ⟨rfl, rfl, by simp [Dom.enc], by simp [Dom.enc]⟩⟩⟩⟩
    · have hw := wrap_nat pre.length (by have := congrArg List.length he; simp at this; omega)
      subst he
      refine a_has hs fun τ σ γ => ?_
      rcases rest with _ | ⟨x, rest⟩
      · simp only [List.append_nil] at *
        simp (maxSteps := 10000000) (implicitDefEqProofs := false) only [go_sem]
        refine a_shut2 3 (.sl 10 1 1 0 1) (y := kinds1 pre) (by simp) (by simp [closeW, closeWL, chunkA, lookRow, lookBox, scalarB]) ?_
        simp only [List.replicate_succ, List.replicate_zero]
        simp (maxSteps := 10000000) (implicitDefEqProofs := false) only [go_sem]
        simp only [List.replicate_succ, List.replicate_zero]
        repeat' (first | (with_reducible refine a_seq_k ?_; intro K hK) | (with_reducible first | refine a_block ?_ | refine a_ret ?_ | refine a_exit ?_ | refine a_skip ?_ | exact ConfOk.mk (by kernel_rfl)) | ((fail_if_success with_reducible show False); with_reducible apply_assumption (exfalso := false) (symm := false) only [*, rfl, trivial, congrArg]) | with_reducible refine And.intro ?_ ?_ | (intro h; contradiction) | (intro h; subst h) | intro h | ((try (with_reducible first | refine a_region (by kernel_rfl) ?_ | (refine a_draw mixed (by kernel_rfl) ?_; intro C hC) | (refine a_cond_k ?_; intro X Y hX hY) | refine RetOk.mk ?_)); simp (maxSteps := 10000000) (implicitDefEqProofs := false) only [go_sem, rows1, wr1]))
        all_goals exact ⟨⟨0, by omega, .inr ⟨rfl, ⟨rfl, rfl, by simp, by simp⟩⟩⟩⟩
      · repeat' (first | (with_reducible refine a_seq_k ?_; intro K hK) | (with_reducible first | refine a_block ?_ | refine a_ret ?_ | refine a_exit ?_ | refine a_skip ?_ | exact ConfOk.mk (by kernel_rfl)) | ((fail_if_success with_reducible show False); with_reducible apply_assumption (exfalso := false) (symm := false) only [*, rfl, trivial, congrArg]) | with_reducible refine And.intro ?_ ?_ | (intro h; contradiction) | (intro h; subst h) | intro h | ((try (with_reducible first | refine a_region (by kernel_rfl) ?_ | (refine a_draw mixed (by kernel_rfl) ?_; intro C hC) | (refine a_cond_k ?_; intro X Y hX hY) | refine RetOk.mk ?_)); simp (maxSteps := 10000000) (implicitDefEqProofs := false) only [go_sem, rows1, Dom.enc, hw]))
        all_goals simp only [List.length_append, List.length_cons] at hl
        try any_goals omega
        all_goals exact ⟨⟨rest.length, by simp, .inr ⟨γ + 1 + 1, pre ++ [x], rest, by simp, by simp, rfl, ⟨rfl, rfl, by simp [Dom.enc], by simp [Dom.enc]⟩⟩⟩⟩
  · refine a_has hs fun τ σ γ => ?_
    repeat' (first | (with_reducible refine a_seq_k ?_; intro K hK) | (with_reducible first | refine a_block ?_ | refine a_ret ?_ | refine a_exit ?_ | refine a_skip ?_ | exact ConfOk.mk (by kernel_rfl)) | ((fail_if_success with_reducible show False); with_reducible apply_assumption (exfalso := false) (symm := false) only [*, rfl, trivial, congrArg]) | with_reducible refine And.intro ?_ ?_ | (intro h; contradiction) | (intro h; subst h) | intro h | ((try (with_reducible first | refine a_region (by kernel_rfl) ?_ | (refine a_draw mixed (by kernel_rfl) ?_; intro C hC) | (refine a_cond_k ?_; intro X Y hX hY) | refine RetOk.mk ?_)); simp (maxSteps := 10000000) (implicitDefEqProofs := false) only [go_sem]))
end Go.Proofs.YtoggbjfjmbjegaaGreatDoor
