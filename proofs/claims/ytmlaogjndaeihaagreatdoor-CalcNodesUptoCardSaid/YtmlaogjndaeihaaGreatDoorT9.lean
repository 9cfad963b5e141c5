/- AND, OR, CASE over outs. -/
import Derived.Test.YtmlaogjndaeihaaGreatDoorT7
namespace Go.Proofs.YtmlaogjndaeihaaGreatDoor
open Go Go.Ab
attribute [local go_sem ↓] parts_tt parts_ff parts_tf parts_ft
attribute [local go_sem] parts_eq learnT aops_nil aops_cons aopsD_nil aopsD_cons stepS stepD gval St.learn skipR St.after putτ applyUpd List.foldl_cons List.foldl_nil pureOp memOp callOf litA closeO closeK List.flatMap_cons List.flatMap_nil Option.map_none decide_false opnd ofConst leaf binA unA lenA indexA indexAddrA fieldAddrA fieldA sliceA convertA pickV fillA placeS cellsA setA partA loadM storeM appendM srcEls lookBox lookRow lookMap closeL closeV scalarB scalarL killed buildEls lookupA leafEq eqAll resA resL tupA retA thenA blockA isInt loA hiA foldA maxA minA okSize leafB closedB Res.foot List.getD_cons_zero List.getD_cons_succ List.set_cons_zero List.set_cons_succ List.map_cons List.map_nil List.append_nil List.nil_append List.cons_append List.length_cons List.length_nil List.take_succ_cons List.take_zero List.drop_succ_cons List.drop_zero List.take_nil List.drop_nil List.all_cons List.all_nil List.getElem?_toArray List.getElem?_cons_zero List.getElem?_cons_succ Option.bind_some Option.map_some true_and and_true true_implies ne_eq not_true_eq_false not_false_eq_true Bool.true_eq_false Bool.false_eq_true Bool.not_true Bool.not_false decide_eq_true_eq decide_eq_false_iff_not false_implies implies_true and_self ite_true ite_false cond_true cond_false Option.some.injEq List.reverse_cons List.reverse_nil Bool.and_self Bool.true_and Bool.and_true Bool.false_and Bool.and_false Bool.or_true Bool.true_or Bool.or_false Bool.false_or Bool.not_eq_eq_eq_not Bool.not_not Bool.or_self beq_self_eq_true and_false false_and or_true true_or or_false false_or not_true not_false_iff Decidable.not_not lookT lookR tabT tabR Int.toNat_natCast List.length_map List.map_append List.length_append decide_true decide_false tmod2 List.mem_singleton forall_eq elOk1 elOk3 elOk4 castn0 castn1 castn2 castn3 getD_mid getD_mid_map at_lt at_end mid_lt mid_lt' nat_ge List.size_toArray Array.size_empty Nat.add_zero Nat.zero_add
attribute [local irreducible] ASpec ACalls retA ti EqT
set_option linter.unusedSimpArgs false
set_option maxHeartbeats 4000000
set_option maxRecDepth 100000
set_option linter.unusedVariables false
attribute [local go_sem] ti2 ti3 ti4 ti5 ti9 ti21 ti22 ti23 ti24 ti26 ti27 ti29 ti41 ti47 ti49 ti56 ti59 ti63 ti67 ti71 ti75 ti78 ti79 ti80 ti86 ti90 ti110
@[reducible] def outs (os : List Outv) : AV := .slice (os.map Outv.enc)
theorem all_outs (os : List Outv) : (∀ y ∈ List.map Outv.enc os, elOk 4 y = true) = True := by simp [elOk, Outv.enc, leafB]
theorem all_len (os : List Outv) : (∀ y ∈ List.map Outv.enc os, y.length = 4) = True := by simp [Outv.enc]
theorem take_enc (os : List Outv) : List.take os.length (List.map Outv.enc os) = List.map Outv.enc os := List.take_of_length_le (by simp)
def Outv.rk (o : Outv) : Int := Go.Proofs.YtmlaogjndaeihaaGreatDoor.rk o.v.kind o.v.int o.err
@[reducible] def trueO : Outv := ⟨⟨3, 1, ⟨#[]⟩⟩, 0⟩
def andB (b o : Outv) : Outv := if o.rk < b.rk ∨ (o.rk = b.rk ∧ o.rk = 2 ∧ o.err < b.err) then o else b
def andO (os : List Outv) : Outv := os.foldl andB trueO
theorem calc_and (os : List Outv) (hl : os.length < 2 ^ 62) : ACalls Tryz.prog 23 [outs os] (.agg (andO os).enc) := by
  refine acalls_k Tryz.func23 rfl (by kernel_rfl) (congrArg Array.toList Tryz.results23) Tryz.ntmps23 ?_
  intro R hR
  simp only [st0, List.length_cons, List.length_nil, Nat.reduceAdd, Nat.reduceSub, List.replicate_succ, List.replicate_zero, List.cons_append, List.nil_append]
  repeat' (first
      | (with_reducible refine a_seq_k ?_; intro K hK)
      | ((first | with_reducible refine a_region (by kernel_rfl) ?_ | (with_reducible refine a_draw mixed (by kernel_rfl) ?_; intro C hC) | (with_reducible refine a_cond_k ?_; intro X Y hX hY) | with_reducible refine RetOk.mk ?_ | with_reducible refine CallS.intro (value_Bool _) ?_ | with_reducible refine CallD.intro (value_Bool _) ?_); simp (maxSteps := 10000000) (implicitDefEqProofs := false) only [go_sem, boolV, Val.enc,  ↓reduceIte, reduceCtorEq, Nat.reduceAdd, Nat.reduceSub, Nat.reduceLeDiff, Nat.reduceEqDiff, Nat.reduceMul, Nat.reduceLT, Nat.reducePow, Int.reduceEq, Int.reduceLT, Int.reduceLE, Int.reduceGT, Int.reduceGE, Int.reduceAdd, Int.reduceSub, Int.reduceNeg, Int.reduceToNat])
      | with_reducible refine a_block ?_
      | with_reducible refine a_ret ?_
      | with_reducible refine a_exit ?_
      | with_reducible refine a_skip ?_
      | with_reducible exact ConfOk.mk (by kernel_rfl)
      | (with_reducible refine eqT_of (eq33 _ _ _ _ _ _) ?_; simp)
      | (with_reducible refine eqT_of (eq35 _ _ _ _ _ _ _ _) ?_; simp)
      | ((fail_if_success with_reducible show False); with_reducible apply_assumption (exfalso := false) (symm := false) only [*, rfl, trivial, congrArg])
      | with_reducible refine And.intro ?_ ?_
      | (intro h; contradiction)
      | (intro h; subst h)
      | intro h
      | simp (maxSteps := 10000000) (implicitDefEqProofs := false) only [go_sem, boolV, Val.enc,  ↓reduceIte, reduceCtorEq, Nat.reduceAdd, Nat.reduceSub, Nat.reduceLeDiff, Nat.reduceEqDiff, Nat.reduceMul, Nat.reduceLT, Nat.reducePow, Int.reduceEq, Int.reduceLT, Int.reduceLE, Int.reduceGT, Int.reduceGE, Int.reduceAdd, Int.reduceSub, Int.reduceNeg, Int.reduceToNat])
  refine a_loop_k (fun n st => ∃ (g g' : Nat) (pre rest : List _) (best : Outv), os = pre ++ rest ∧ n = rest.length ∧ (rest.foldl andB best = andO os) ∧ Has st 42 [(2, .ptr 2 g' 0), (3, .ptr 3 g 0), (10, .slice (os.map Outv.enc)), (11, .int .i64 os.length), (12, .int .i64 pre.length)] [(2, .box g' [.int .u8 0, .int .i64 0, .str ⟨#[]⟩, .int .i64 0]), (3, .box g best.enc)]) (os).length ⟨1, 0, [], os, trueO, rfl, rfl, rfl, ⟨rfl, rfl, by simp [kd, Outv.enc, Val.enc], by simp [kd, Outv.enc, Val.enc]⟩⟩ ?_
  rintro n st ⟨g, g', pre, rest, best, he, rfl, hp, hs⟩ K hK
  have hw := wrap_nat pre.length (by have := congrArg List.length he; simp at this; omega)
  subst he
  refine a_has hs fun τ σ γ => ?_
  rcases rest with _ | ⟨x, rest⟩
  · repeat' (first
        | (with_reducible refine a_seq_k ?_; intro K hK)
        | ((first | with_reducible refine a_region (by kernel_rfl) ?_ | (with_reducible refine a_draw mixed (by kernel_rfl) ?_; intro C hC) | (with_reducible refine a_cond_k ?_; intro X Y hX hY) | with_reducible refine RetOk.mk ?_); simp (maxSteps := 10000000) (implicitDefEqProofs := false) only [go_sem, Outv.enc, hw,  ↓reduceIte, reduceCtorEq, Nat.reduceAdd, Nat.reduceSub, Nat.reduceLeDiff, Nat.reduceEqDiff, Nat.reduceMul, Nat.reduceLT, Nat.reducePow, Int.reduceEq, Int.reduceLT, Int.reduceLE, Int.reduceGT, Int.reduceGE, Int.reduceAdd, Int.reduceSub, Int.reduceNeg, Int.reduceToNat])
        | with_reducible refine a_block ?_
        | with_reducible refine a_ret ?_
        | with_reducible refine a_exit ?_
        | with_reducible refine a_skip ?_
        | with_reducible exact ConfOk.mk (by kernel_rfl)
        | (with_reducible refine eqT_of (eq33 _ _ _ _ _ _) ?_; simp)
        | (with_reducible refine eqT_of (eq35 _ _ _ _ _ _ _ _) ?_; simp)
        | ((fail_if_success with_reducible show False); with_reducible apply_assumption (exfalso := false) (symm := false) only [*, rfl, trivial, congrArg])
        | with_reducible refine And.intro ?_ ?_
        | (intro h; contradiction)
        | (intro h; subst h)
        | intro h
        | simp (maxSteps := 10000000) (implicitDefEqProofs := false) only [go_sem, Outv.enc, hw,  ↓reduceIte, reduceCtorEq, Nat.reduceAdd, Nat.reduceSub, Nat.reduceLeDiff, Nat.reduceEqDiff, Nat.reduceMul, Nat.reduceLT, Nat.reducePow, Int.reduceEq, Int.reduceLT, Int.reduceLE, Int.reduceGT, Int.reduceGE, Int.reduceAdd, Int.reduceSub, Int.reduceNeg, Int.reduceToNat])
    · simp only [List.append_nil, List.foldl_nil] at hp; subst hp; rfl
  · repeat' (first
        | (with_reducible refine a_seq_k ?_; intro K hK)
        | ((first | with_reducible refine a_region (by kernel_rfl) ?_ | (with_reducible refine a_draw mixed (by kernel_rfl) ?_; intro C hC) | (with_reducible refine a_cond_k ?_; intro X Y hX hY) | with_reducible refine RetOk.mk ?_ | with_reducible refine CallS.intro (calc_rankOf' _ _ _ _) ?_ | with_reducible refine CallD.intro (calc_rankOf' _ _ _ _) ?_); simp (maxSteps := 10000000) (implicitDefEqProofs := false) only [go_sem, Outv.enc, hw,  ↓reduceIte, reduceCtorEq, Nat.reduceAdd, Nat.reduceSub, Nat.reduceLeDiff, Nat.reduceEqDiff, Nat.reduceMul, Nat.reduceLT, Nat.reducePow, Int.reduceEq, Int.reduceLT, Int.reduceLE, Int.reduceGT, Int.reduceGE, Int.reduceAdd, Int.reduceSub, Int.reduceNeg, Int.reduceToNat])
        | with_reducible refine a_block ?_
        | with_reducible refine a_ret ?_
        | with_reducible refine a_exit ?_
        | with_reducible refine a_skip ?_
        | with_reducible exact ConfOk.mk (by kernel_rfl)
        | (with_reducible refine eqT_of (eq33 _ _ _ _ _ _) ?_; simp)
        | (with_reducible refine eqT_of (eq35 _ _ _ _ _ _ _ _) ?_; simp)
        | ((fail_if_success with_reducible show False); with_reducible apply_assumption (exfalso := false) (symm := false) only [*, rfl, trivial, congrArg])
        | with_reducible refine And.intro ?_ ?_
        | (intro h; contradiction)
        | (intro h; subst h)
        | intro h
        | simp (maxSteps := 10000000) (implicitDefEqProofs := false) only [go_sem, Outv.enc, hw,  ↓reduceIte, reduceCtorEq, Nat.reduceAdd, Nat.reduceSub, Nat.reduceLeDiff, Nat.reduceEqDiff, Nat.reduceMul, Nat.reduceLT, Nat.reducePow, Int.reduceEq, Int.reduceLT, Int.reduceLE, Int.reduceGT, Int.reduceGE, Int.reduceAdd, Int.reduceSub, Int.reduceNeg, Int.reduceToNat])
    · exact ⟨⟨rest.length, by simp, g, g', pre ++ [x], rest, x, by simp, rfl, by rw [← hp, List.foldl_cons, andB, if_pos (by unfold Outv.rk; omega)], ⟨rfl, rfl, by simp [kd, Outv.enc, Val.enc], by simp [kd, Outv.enc, Val.enc]⟩⟩⟩
    · exact ⟨⟨rest.length, by simp, g, g', pre ++ [x], rest, best, by simp, rfl, by rw [← hp, List.foldl_cons, andB, if_neg (by unfold Outv.rk; omega)], ⟨rfl, rfl, by simp [kd, Outv.enc, Val.enc], by simp [kd, Outv.enc, Val.enc]⟩⟩⟩
    · exact ⟨⟨rest.length, by simp, g, g', pre ++ [x], rest, best, by simp, rfl, by rw [← hp, List.foldl_cons, andB, if_neg (by unfold Outv.rk; omega)], ⟨rfl, rfl, by simp [kd, Outv.enc, Val.enc], by simp [kd, Outv.enc, Val.enc]⟩⟩⟩
    · exact ⟨⟨rest.length, by simp, g, g', pre ++ [x], rest, best, by simp, rfl, by rw [← hp, List.foldl_cons, andB, if_neg (by unfold Outv.rk; omega)], ⟨rfl, rfl, by simp [kd, Outv.enc, Val.enc], by simp [kd, Outv.enc, Val.enc]⟩⟩⟩
    · exact ⟨⟨rest.length, by simp, g, g', pre ++ [x], rest, x, by simp, rfl, by rw [← hp, List.foldl_cons, andB, if_pos (by unfold Outv.rk; omega)], ⟨rfl, rfl, by simp [kd, Outv.enc, Val.enc], by simp [kd, Outv.enc, Val.enc]⟩⟩⟩
def notO (o : Outv) : Outv := ⟨⟨o.v.kind, notN o.v.kind o.v.int o.err, o.v.text⟩, o.err⟩
def orO (os : List Outv) : Outv := notO (andO (os.map notO))
theorem calc_or (os : List Outv) (hl : os.length < 2 ^ 40) : ACalls Tryz.prog 24 [outs os] (.agg (orO os).enc) := by
  refine acalls_k Tryz.func24 rfl (by kernel_rfl) (congrArg Array.toList Tryz.results24) Tryz.ntmps24 ?_
  intro R hR
  simp only [st0, List.length_cons, List.length_nil, Nat.reduceAdd, Nat.reduceSub, List.replicate_succ, List.replicate_zero, List.cons_append, List.nil_append]
  repeat' (first
      | (with_reducible refine a_seq_k ?_; intro K hK)
      | ((first | with_reducible refine a_region (by kernel_rfl) ?_ | (with_reducible refine a_draw mixed (by kernel_rfl) ?_; intro C hC) | (with_reducible refine a_cond_k ?_; intro X Y hX hY) | with_reducible refine RetOk.mk ?_); simp (maxSteps := 10000000) (implicitDefEqProofs := false) only [go_sem,  ↓reduceIte, reduceCtorEq, Nat.reduceAdd, Nat.reduceSub, Nat.reduceLeDiff, Nat.reduceEqDiff, Nat.reduceMul, Nat.reduceLT, Nat.reducePow, Int.reduceEq, Int.reduceLT, Int.reduceLE, Int.reduceGT, Int.reduceGE, Int.reduceAdd, Int.reduceSub, Int.reduceNeg, Int.reduceToNat])
      | with_reducible refine a_block ?_
      | with_reducible refine a_ret ?_
      | with_reducible refine a_exit ?_
      | with_reducible refine a_skip ?_
      | with_reducible exact ConfOk.mk (by kernel_rfl)
      | (with_reducible refine eqT_of (eq33 _ _ _ _ _ _) ?_; simp)
      | (with_reducible refine eqT_of (eq35 _ _ _ _ _ _ _ _) ?_; simp)
      | ((fail_if_success with_reducible show False); with_reducible apply_assumption (exfalso := false) (symm := false) only [*, rfl, trivial, congrArg])
      | with_reducible refine And.intro ?_ ?_
      | (intro h; contradiction)
      | (intro h; subst h)
      | intro h
      | simp (maxSteps := 10000000) (implicitDefEqProofs := false) only [go_sem,  ↓reduceIte, reduceCtorEq, Nat.reduceAdd, Nat.reduceSub, Nat.reduceLeDiff, Nat.reduceEqDiff, Nat.reduceMul, Nat.reduceLT, Nat.reducePow, Int.reduceEq, Int.reduceLT, Int.reduceLE, Int.reduceGT, Int.reduceGE, Int.reduceAdd, Int.reduceSub, Int.reduceNeg, Int.reduceToNat])
  · simp; omega
  · omega
  refine a_rekey [3] 8 19 (g := 1) (es := 4) (els := []) (by decide) (by simp) (by simp [lookRow]) ?_
  simp only [putAll, List.set_cons_zero, List.set_cons_succ]
  refine a_loop_k (fun n st => ∃ (g g' : Nat) (pre rest : List _) (acc : Unit), os = pre ++ rest ∧ n = rest.length ∧ (True) ∧ Has st 24 [(2, .ptr 2 g' 0), (3, .view 19 g), (9, .slice (os.map Outv.enc)), (10, .int .i64 os.length), (11, .int .i64 pre.length)] [(2, .box g' [.int .u8 0, .int .i64 0, .str ⟨#[]⟩, .int .i64 0]), (19, .row g 4 ((pre.map notO).map Outv.enc))]) (os).length ⟨3, 0, [], os, (), rfl, rfl, trivial, ⟨rfl, rfl, by simp [kd, Outv.enc, Val.enc], by simp [kd, Outv.enc, Val.enc]⟩⟩ ?_
  rintro n st ⟨g, g', pre, rest, acc, he, rfl, hp, hs⟩ K hK
  have hw := wrap_nat pre.length (by have := congrArg List.length he; simp at this; omega)
  subst he
  refine a_has hs fun τ σ γ => ?_
  rcases rest with _ | ⟨x, rest⟩
  · have ha := calc_and (pre.map notO) (by simp at hl ⊢; omega)
    simp only [outs, List.map_map] at ha
    repeat' (first
        | (with_reducible refine a_seq_k ?_; intro K hK)
        | ((first | with_reducible refine a_region (by kernel_rfl) ?_ | (with_reducible refine a_draw mixed (by kernel_rfl) ?_; intro C hC) | (with_reducible refine a_cond_k ?_; intro X Y hX hY) | with_reducible refine RetOk.mk ?_ | with_reducible refine CallS.intro (ha) ?_ | with_reducible refine CallD.intro (ha) ?_ | with_reducible refine CallS.intro (calc_not _ _ _ _) ?_ | with_reducible refine CallD.intro (calc_not _ _ _ _) ?_); simp (maxSteps := 10000000) (implicitDefEqProofs := false) only [go_sem, Outv.enc, hw, List.map_map,  ↓reduceIte, reduceCtorEq, Nat.reduceAdd, Nat.reduceSub, Nat.reduceLeDiff, Nat.reduceEqDiff, Nat.reduceMul, Nat.reduceLT, Nat.reducePow, Int.reduceEq, Int.reduceLT, Int.reduceLE, Int.reduceGT, Int.reduceGE, Int.reduceAdd, Int.reduceSub, Int.reduceNeg, Int.reduceToNat])
        | with_reducible refine a_block ?_
        | with_reducible refine a_ret ?_
        | with_reducible refine a_exit ?_
        | with_reducible refine a_skip ?_
        | with_reducible exact ConfOk.mk (by kernel_rfl)
        | (with_reducible refine eqT_of (eq33 _ _ _ _ _ _) ?_; simp)
        | (with_reducible refine eqT_of (eq35 _ _ _ _ _ _ _ _) ?_; simp)
        | ((fail_if_success with_reducible show False); with_reducible apply_assumption (exfalso := false) (symm := false) only [*, rfl, trivial, congrArg])
        | with_reducible refine And.intro ?_ ?_
        | (intro h; contradiction)
        | (intro h; subst h)
        | intro h
        | simp (maxSteps := 10000000) (implicitDefEqProofs := false) only [go_sem, Outv.enc, hw, List.map_map,  ↓reduceIte, reduceCtorEq, Nat.reduceAdd, Nat.reduceSub, Nat.reduceLeDiff, Nat.reduceEqDiff, Nat.reduceMul, Nat.reduceLT, Nat.reducePow, Int.reduceEq, Int.reduceLT, Int.reduceLE, Int.reduceGT, Int.reduceGE, Int.reduceAdd, Int.reduceSub, Int.reduceNeg, Int.reduceToNat])
  · have hl' : pre.length + (rest.length + 1) < 2 ^ 40 := by simpa using hl
    repeat' (first
        | (with_reducible refine a_seq_k ?_; intro K hK)
        | ((first | with_reducible refine a_region (by kernel_rfl) ?_ | (with_reducible refine a_draw mixed (by kernel_rfl) ?_; intro C hC) | (with_reducible refine a_cond_k ?_; intro X Y hX hY) | with_reducible refine RetOk.mk ?_ | with_reducible refine CallS.intro (calc_not _ _ _ _) ?_ | with_reducible refine CallD.intro (calc_not _ _ _ _) ?_); simp (maxSteps := 10000000) (implicitDefEqProofs := false) only [go_sem, Outv.enc, hw,  ↓reduceIte, reduceCtorEq, Nat.reduceAdd, Nat.reduceSub, Nat.reduceLeDiff, Nat.reduceEqDiff, Nat.reduceMul, Nat.reduceLT, Nat.reducePow, Int.reduceEq, Int.reduceLT, Int.reduceLE, Int.reduceGT, Int.reduceGE, Int.reduceAdd, Int.reduceSub, Int.reduceNeg, Int.reduceToNat])
        | with_reducible refine a_block ?_
        | with_reducible refine a_ret ?_
        | with_reducible refine a_exit ?_
        | with_reducible refine a_skip ?_
        | with_reducible exact ConfOk.mk (by kernel_rfl)
        | (with_reducible refine eqT_of (eq33 _ _ _ _ _ _) ?_; simp)
        | (with_reducible refine eqT_of (eq35 _ _ _ _ _ _ _ _) ?_; simp)
        | ((fail_if_success with_reducible show False); with_reducible apply_assumption (exfalso := false) (symm := false) only [*, rfl, trivial, congrArg])
        | with_reducible refine And.intro ?_ ?_
        | (intro h; contradiction)
        | (intro h; subst h)
        | intro h
        | simp (maxSteps := 10000000) (implicitDefEqProofs := false) only [go_sem, Outv.enc, hw,  ↓reduceIte, reduceCtorEq, Nat.reduceAdd, Nat.reduceSub, Nat.reduceLeDiff, Nat.reduceEqDiff, Nat.reduceMul, Nat.reduceLT, Nat.reducePow, Int.reduceEq, Int.reduceLT, Int.reduceLE, Int.reduceGT, Int.reduceGE, Int.reduceAdd, Int.reduceSub, Int.reduceNeg, Int.reduceToNat])
    · omega
    · omega
    · exact ⟨⟨rest.length, by simp, γ + 1 + 1, g', pre ++ [x], rest, (), by simp, rfl, ⟨rfl, rfl, by simp [Outv.enc], by simp [Outv.enc, notO]⟩⟩⟩
@[reducible] def nullO : Outv := ⟨⟨0, 0, ⟨#[]⟩⟩, 0⟩
def chooseO : List Outv → Outv
  | [] => nullO
  | [x] => x
  | c :: v :: r => if c.rk = 2 then c else if c.rk = 3 then v else chooseO r
theorem calc_choose (os : List Outv) (hl : os.length < 2 ^ 62) : ACalls Tryz.prog 25 [outs os] (.agg (chooseO os).enc) := by
  refine acalls_k Tryz.func25 rfl (by kernel_rfl) (congrArg Array.toList Tryz.results25) Tryz.ntmps25 ?_
  intro R hR
  simp only [st0, List.length_cons, List.length_nil, Nat.reduceAdd, Nat.reduceSub, List.replicate_succ, List.replicate_zero, List.cons_append, List.nil_append]
  repeat' (first
      | (with_reducible refine a_seq_k ?_; intro K hK)
      | ((first | with_reducible refine a_region (by kernel_rfl) ?_ | (with_reducible refine a_draw mixed (by kernel_rfl) ?_; intro C hC) | (with_reducible refine a_cond_k ?_; intro X Y hX hY) | with_reducible refine RetOk.mk ?_); simp (maxSteps := 10000000) (implicitDefEqProofs := false) only [go_sem,  ↓reduceIte, reduceCtorEq, Nat.reduceAdd, Nat.reduceSub, Nat.reduceLeDiff, Nat.reduceEqDiff, Nat.reduceMul, Nat.reduceLT, Nat.reducePow, Int.reduceEq, Int.reduceLT, Int.reduceLE, Int.reduceGT, Int.reduceGE, Int.reduceAdd, Int.reduceSub, Int.reduceNeg, Int.reduceToNat])
      | with_reducible refine a_block ?_
      | with_reducible refine a_ret ?_
      | with_reducible refine a_exit ?_
      | with_reducible refine a_skip ?_
      | with_reducible exact ConfOk.mk (by kernel_rfl)
      | (with_reducible refine eqT_of (eq33 _ _ _ _ _ _) ?_; simp)
      | (with_reducible refine eqT_of (eq35 _ _ _ _ _ _ _ _) ?_; simp)
      | ((fail_if_success with_reducible show False); with_reducible apply_assumption (exfalso := false) (symm := false) only [*, rfl, trivial, congrArg])
      | with_reducible refine And.intro ?_ ?_
      | (intro h; contradiction)
      | (intro h; subst h)
      | intro h
      | simp (maxSteps := 10000000) (implicitDefEqProofs := false) only [go_sem,  ↓reduceIte, reduceCtorEq, Nat.reduceAdd, Nat.reduceSub, Nat.reduceLeDiff, Nat.reduceEqDiff, Nat.reduceMul, Nat.reduceLT, Nat.reducePow, Int.reduceEq, Int.reduceLT, Int.reduceLE, Int.reduceGT, Int.reduceGE, Int.reduceAdd, Int.reduceSub, Int.reduceNeg, Int.reduceToNat])
  refine a_loop_k (fun n st => ∃ r : List Outv, n = r.length ∧ chooseO r = chooseO os ∧ r.length ≤ os.length ∧ Has st 29 [(0, .slice (r.map Outv.enc)), (2, .ptr 2 0 0)] [(2, .box 0 [.int .u8 0, .int .i64 0, .str ⟨#[]⟩, .int .i64 0])]) os.length ⟨os, rfl, rfl, Nat.le_refl _, ⟨rfl, rfl, by simp, by simp⟩⟩ ?_
  rintro n st ⟨r, rfl, hp, hle, hs⟩ K hK
  refine a_has hs fun τ σ γ => ?_
  rcases r with _ | ⟨c, _ | ⟨v, r⟩⟩
  · repeat' (first
        | (with_reducible refine a_seq_k ?_; intro K hK)
        | ((first | with_reducible refine a_region (by kernel_rfl) ?_ | (with_reducible refine a_draw mixed (by kernel_rfl) ?_; intro C hC) | (with_reducible refine a_cond_k ?_; intro X Y hX hY) | with_reducible refine RetOk.mk ?_); simp (maxSteps := 10000000) (implicitDefEqProofs := false) only [go_sem, Outv.enc,  ↓reduceIte, reduceCtorEq, Nat.reduceAdd, Nat.reduceSub, Nat.reduceLeDiff, Nat.reduceEqDiff, Nat.reduceMul, Nat.reduceLT, Nat.reducePow, Int.reduceEq, Int.reduceLT, Int.reduceLE, Int.reduceGT, Int.reduceGE, Int.reduceAdd, Int.reduceSub, Int.reduceNeg, Int.reduceToNat])
        | with_reducible refine a_block ?_
        | with_reducible refine a_ret ?_
        | with_reducible refine a_exit ?_
        | with_reducible refine a_skip ?_
        | with_reducible exact ConfOk.mk (by kernel_rfl)
        | (with_reducible refine eqT_of (eq33 _ _ _ _ _ _) ?_; simp)
        | (with_reducible refine eqT_of (eq35 _ _ _ _ _ _ _ _) ?_; simp)
        | ((fail_if_success with_reducible show False); with_reducible apply_assumption (exfalso := false) (symm := false) only [*, rfl, trivial, congrArg])
        | with_reducible refine And.intro ?_ ?_
        | (intro h; contradiction)
        | (intro h; subst h)
        | intro h
        | simp (maxSteps := 10000000) (implicitDefEqProofs := false) only [go_sem, Outv.enc,  ↓reduceIte, reduceCtorEq, Nat.reduceAdd, Nat.reduceSub, Nat.reduceLeDiff, Nat.reduceEqDiff, Nat.reduceMul, Nat.reduceLT, Nat.reducePow, Int.reduceEq, Int.reduceLT, Int.reduceLE, Int.reduceGT, Int.reduceGE, Int.reduceAdd, Int.reduceSub, Int.reduceNeg, Int.reduceToNat])
    all_goals first
      | omega
      | (rw [← hp]; rfl)
  · repeat' (first
        | (with_reducible refine a_seq_k ?_; intro K hK)
        | ((first | with_reducible refine a_region (by kernel_rfl) ?_ | (with_reducible refine a_draw mixed (by kernel_rfl) ?_; intro C hC) | (with_reducible refine a_cond_k ?_; intro X Y hX hY) | with_reducible refine RetOk.mk ?_); simp (maxSteps := 10000000) (implicitDefEqProofs := false) only [go_sem, Outv.enc,  ↓reduceIte, reduceCtorEq, Nat.reduceAdd, Nat.reduceSub, Nat.reduceLeDiff, Nat.reduceEqDiff, Nat.reduceMul, Nat.reduceLT, Nat.reducePow, Int.reduceEq, Int.reduceLT, Int.reduceLE, Int.reduceGT, Int.reduceGE, Int.reduceAdd, Int.reduceSub, Int.reduceNeg, Int.reduceToNat])
        | with_reducible refine a_block ?_
        | with_reducible refine a_ret ?_
        | with_reducible refine a_exit ?_
        | with_reducible refine a_skip ?_
        | with_reducible exact ConfOk.mk (by kernel_rfl)
        | (with_reducible refine eqT_of (eq33 _ _ _ _ _ _) ?_; simp)
        | (with_reducible refine eqT_of (eq35 _ _ _ _ _ _ _ _) ?_; simp)
        | ((fail_if_success with_reducible show False); with_reducible apply_assumption (exfalso := false) (symm := false) only [*, rfl, trivial, congrArg])
        | with_reducible refine And.intro ?_ ?_
        | (intro h; contradiction)
        | (intro h; subst h)
        | intro h
        | simp (maxSteps := 10000000) (implicitDefEqProofs := false) only [go_sem, Outv.enc,  ↓reduceIte, reduceCtorEq, Nat.reduceAdd, Nat.reduceSub, Nat.reduceLeDiff, Nat.reduceEqDiff, Nat.reduceMul, Nat.reduceLT, Nat.reducePow, Int.reduceEq, Int.reduceLT, Int.reduceLE, Int.reduceGT, Int.reduceGE, Int.reduceAdd, Int.reduceSub, Int.reduceNeg, Int.reduceToNat])
    all_goals first
      | omega
      | (rw [← hp]; rfl)
  · repeat' (first
        | (with_reducible refine a_seq_k ?_; intro K hK)
        | ((first | with_reducible refine a_region (by kernel_rfl) ?_ | (with_reducible refine a_draw mixed (by kernel_rfl) ?_; intro C hC) | (with_reducible refine a_cond_k ?_; intro X Y hX hY) | with_reducible refine RetOk.mk ?_ | with_reducible refine CallS.intro (calc_rankOf' _ _ _ _) ?_ | with_reducible refine CallD.intro (calc_rankOf' _ _ _ _) ?_); simp (maxSteps := 10000000) (implicitDefEqProofs := false) only [go_sem, Outv.enc, Option.map_none, List.mem_cons, forall_eq_or_imp, all_len, take_enc,  ↓reduceIte, reduceCtorEq, Nat.reduceAdd, Nat.reduceSub, Nat.reduceLeDiff, Nat.reduceEqDiff, Nat.reduceMul, Nat.reduceLT, Nat.reducePow, Int.reduceEq, Int.reduceLT, Int.reduceLE, Int.reduceGT, Int.reduceGE, Int.reduceAdd, Int.reduceSub, Int.reduceNeg, Int.reduceToNat])
        | with_reducible refine a_block ?_
        | with_reducible refine a_ret ?_
        | with_reducible refine a_exit ?_
        | with_reducible refine a_skip ?_
        | with_reducible exact ConfOk.mk (by kernel_rfl)
        | (with_reducible refine eqT_of (eq33 _ _ _ _ _ _) ?_; simp)
        | (with_reducible refine eqT_of (eq35 _ _ _ _ _ _ _ _) ?_; simp)
        | ((fail_if_success with_reducible show False); with_reducible apply_assumption (exfalso := false) (symm := false) only [*, rfl, trivial, congrArg])
        | with_reducible refine And.intro ?_ ?_
        | (intro h; contradiction)
        | (intro h; subst h)
        | intro h
        | simp (maxSteps := 10000000) (implicitDefEqProofs := false) only [go_sem, Outv.enc, Option.map_none, List.mem_cons, forall_eq_or_imp, all_len, take_enc,  ↓reduceIte, reduceCtorEq, Nat.reduceAdd, Nat.reduceSub, Nat.reduceLeDiff, Nat.reduceEqDiff, Nat.reduceMul, Nat.reduceLT, Nat.reducePow, Int.reduceEq, Int.reduceLT, Int.reduceLE, Int.reduceGT, Int.reduceGE, Int.reduceAdd, Int.reduceSub, Int.reduceNeg, Int.reduceToNat])
    all_goals first
      | omega
      | (rw [← hp]; simp [chooseO, Outv.rk, *]; done)
      | exact ⟨⟨r.length, by omega, r, rfl, by rw [← hp]; simp [chooseO, Outv.rk, *], by simp only [List.length_cons] at hle; omega, ⟨rfl, rfl, by simp, by simp⟩⟩⟩
end Go.Proofs.YtmlaogjndaeihaaGreatDoor
