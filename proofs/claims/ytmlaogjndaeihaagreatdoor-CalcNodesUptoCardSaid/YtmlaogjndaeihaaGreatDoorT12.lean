/- In, of the program. -/
import Derived.Test.YtmlaogjndaeihaaGreatDoorT10
import Derived.Test.YtmlaogjndaeihaaGreatDoorT11
namespace Go.Proofs.YtmlaogjndaeihaaGreatDoor
open Go Go.Ab
attribute [local go_sem ↓] parts_tt parts_ff parts_tf parts_ft
attribute [local go_sem] parts_eq learnT aops_nil aops_cons aopsD_nil aopsD_cons stepS stepD gval St.learn skipR St.after putτ applyUpd List.foldl_cons List.foldl_nil pureOp memOp callOf litA closeO closeK List.flatMap_cons List.flatMap_nil Option.map_none decide_false opnd ofConst leaf binA unA lenA indexA indexAddrA fieldAddrA fieldA sliceA convertA pickV fillA placeS cellsA setA partA loadM storeM appendM srcEls lookBox lookRow lookMap closeL closeV scalarB scalarL killed buildEls lookupA leafEq eqAll resA resL tupA retA thenA blockA isInt loA hiA foldA maxA minA okSize leafB closedB Res.foot List.getD_cons_zero List.getD_cons_succ List.set_cons_zero List.set_cons_succ List.map_cons List.map_nil List.append_nil List.nil_append List.cons_append List.length_cons List.length_nil List.take_succ_cons List.take_zero List.drop_succ_cons List.drop_zero List.take_nil List.drop_nil List.all_cons List.all_nil List.getElem?_toArray List.getElem?_cons_zero List.getElem?_cons_succ Option.bind_some Option.map_some true_and and_true true_implies ne_eq not_true_eq_false not_false_eq_true Bool.true_eq_false Bool.false_eq_true Bool.not_true Bool.not_false decide_eq_true_eq decide_eq_false_iff_not false_implies implies_true and_self ite_true ite_false cond_true cond_false Option.some.injEq List.reverse_cons List.reverse_nil Bool.and_self Bool.true_and Bool.and_true Bool.false_and Bool.and_false Bool.or_true Bool.true_or Bool.or_false Bool.false_or Bool.not_eq_eq_eq_not Bool.not_not Bool.or_self beq_self_eq_true and_false false_and or_true true_or or_false false_or not_true not_false_iff Decidable.not_not lookT lookR tabT tabR Int.toNat_natCast List.length_map List.map_append List.length_append decide_true decide_false tmod2 List.mem_singleton forall_eq elOk1 elOk3 elOk4 castn0 castn1 castn2 castn3 getD_mid getD_mid_map at_lt at_end mid_lt mid_lt' nat_ge List.size_toArray Array.size_empty Nat.add_zero Nat.zero_add
attribute [local irreducible] ASpec ACalls retA ti EqT
set_option linter.unusedSimpArgs false
set_option maxHeartbeats 4000000
set_option maxRecDepth 100000
set_option linter.unusedVariables false
attribute [local go_sem] ti2 ti3 ti4 ti5 ti9 ti21 ti22 ti23 ti24 ti26 ti27 ti29 ti41 ti47 ti49 ti56 ti59 ti63 ti67 ti71 ti75 ti78 ti79 ti80 ti86 ti90 ti110
@[reducible] def boolO (b : Bool) : Outv := ⟨⟨3, if b then 1 else 0, ⟨#[]⟩⟩, 0⟩
@[reducible] def vEqC (a b : Val) : Bool := decide (a.kind = b.kind) && (decide (a.int = b.int) && decide (a.text = b.text))
def inGo (v : Val) : List (List Val) → Outv → Outv
  | [], out => out
  | r :: rs, out => if v.kind = 0 ∨ (r.headD ⟨0, 0, ⟨#[]⟩⟩).kind = 0 then inGo v rs nullO else if vEqC (r.headD ⟨0, 0, ⟨#[]⟩⟩) v = true then boolO true else inGo v rs out
def inO (x : Outv) (rs : List (List Val)) (e : Int) : Outv :=
  if okC x = false ∨ ocOkC rs e 1 = false then errO 1 else if x.err ≠ 0 ∧ (e = 0 ∨ x.err ≤ e) then errO x.err else if e ≠ 0 then errO e else inGo x.v rs (boolO false)
theorem row_one {r : List Val} (h : rowOkC 1 r = true) : ∃ w, r = [w] := by
  simp only [rowOkC, Bool.not_eq_true', Bool.or_eq_false_iff, Bool.and_eq_false_iff, decide_eq_false_iff_not] at h
  have h1 : (r.length : Int) = 1 := by have := h.1; omega
  match r, h1 with
  | [w], _ => exact ⟨w, rfl⟩
  | [], h1 => simp at h1
  | _ :: _ :: _, h1 => simp at h1; omega
theorem calc_In (y : Outv) (rs : List (List Val)) (e : Int) (hl : rs.length < 2 ^ 62) (hr : ∀ r ∈ rs, r.length < 2 ^ 62) : ACalls Tryz.prog 28 [oA y.v.kind y.v.int y.v.text y.err, ocA rs e] (.agg (inO y rs e).enc) := by
  refine acalls_k Tryz.func28 rfl (by kernel_rfl) (congrArg Array.toList Tryz.results28) Tryz.ntmps28 ?_
  intro R hR
  simp only [st0, List.length_cons, List.length_nil, Nat.reduceAdd, Nat.reduceSub, List.replicate_succ, List.replicate_zero, List.cons_append, List.nil_append]
  repeat' (first
      | (with_reducible refine a_seq_reg ?_; intro K hK)
      | ((first | with_reducible refine a_region (by kernel_rfl) ?_ | (with_reducible refine a_draw mixed (by kernel_rfl) ?_; intro C hC) | (with_reducible refine a_cond_k ?_; intro X Y hX hY) | with_reducible refine RetOk.mk ?_ | with_reducible refine CallS.intro (calc_validOut _ _ _ _) ?_ | with_reducible refine CallD.intro (calc_validOut _ _ _ _) ?_ | with_reducible refine CallS.intro (calc_validOutcome rs e 1 hl hr) ?_ | with_reducible refine CallD.intro (calc_validOutcome rs e 1 hl hr) ?_); simp (maxSteps := 10000000) (implicitDefEqProofs := false) only [go_sem, oA,  ↓reduceIte, reduceCtorEq, Nat.reduceAdd, Nat.reduceSub, Nat.reduceLeDiff, Nat.reduceEqDiff, Nat.reduceMul, Nat.reduceLT, Nat.reducePow, Int.reduceEq, Int.reduceLT, Int.reduceLE, Int.reduceGT, Int.reduceGE, Int.reduceAdd, Int.reduceSub, Int.reduceNeg, Int.reduceToNat])
      | with_reducible refine a_block ?_
      | with_reducible refine a_ret ?_
      | with_reducible refine a_exit ?_
      | with_reducible refine a_skip ?_
      | with_reducible exact ConfOk.mk (by kernel_rfl)
      | (with_reducible refine eqT_of (eq33 _ _ _ _ _ _) ?_; simp)
      | (with_reducible refine eqT_of (eq35 _ _ _ _ _ _ _ _) ?_; simp)
      | ((fail_if_success with_reducible show False); with_reducible apply_assumption (exfalso := false) (symm := false) only [*, rfl, trivial, congrArg])
      | with_reducible refine And.intro ?_ ?_
      | (intro h; contradiction)
      | (intro h; subst h)
      | intro h
      | simp (maxSteps := 10000000) (implicitDefEqProofs := false) only [go_sem, oA,  ↓reduceIte, reduceCtorEq, Nat.reduceAdd, Nat.reduceSub, Nat.reduceLeDiff, Nat.reduceEqDiff, Nat.reduceMul, Nat.reduceLT, Nat.reducePow, Int.reduceEq, Int.reduceLT, Int.reduceLE, Int.reduceGT, Int.reduceGE, Int.reduceAdd, Int.reduceSub, Int.reduceNeg, Int.reduceToNat])
  refine a_cut (fun st => ∃ (g : Nat), (okC y = true ∧ ocOkC rs e 1 = true) ∧ Has st 74 [(2, .ptr 2 0 0), (3, .ptr 3 0 0), (4, .ptr 4 g 0)] [(2, .box 0 y.enc), (3, .box 0 [.slice (rs.map rowE), .int .i64 e]), (4, .box g [.int .u8 0, .int .i64 0, .str ⟨#[]⟩, .int .i64 0])]) (fun K hK => ?_) ?_
  · repeat' (first
        | (with_reducible refine a_seq_k ?_; intro K hK)
        | ((first | with_reducible refine a_region (by kernel_rfl) ?_ | (with_reducible refine a_draw mixed (by kernel_rfl) ?_; intro C hC) | (with_reducible refine a_cond_k ?_; intro X Y hX hY) | with_reducible refine RetOk.mk ?_ | with_reducible refine CallS.intro (calc_validOut _ _ _ _) ?_ | with_reducible refine CallD.intro (calc_validOut _ _ _ _) ?_ | with_reducible refine CallS.intro (calc_validOutcome rs e 1 hl hr) ?_ | with_reducible refine CallD.intro (calc_validOutcome rs e 1 hl hr) ?_); simp (maxSteps := 10000000) (implicitDefEqProofs := false) only [go_sem, oA, Outv.enc,  ↓reduceIte, reduceCtorEq, Nat.reduceAdd, Nat.reduceSub, Nat.reduceLeDiff, Nat.reduceEqDiff, Nat.reduceMul, Nat.reduceLT, Nat.reducePow, Int.reduceEq, Int.reduceLT, Int.reduceLE, Int.reduceGT, Int.reduceGE, Int.reduceAdd, Int.reduceSub, Int.reduceNeg, Int.reduceToNat])
        | with_reducible refine a_block ?_
        | with_reducible refine a_ret ?_
        | with_reducible refine a_exit ?_
        | with_reducible refine a_skip ?_
        | with_reducible exact ConfOk.mk (by kernel_rfl)
        | (with_reducible refine eqT_of (eq33 _ _ _ _ _ _) ?_; simp)
        | (with_reducible refine eqT_of (eq35 _ _ _ _ _ _ _ _) ?_; simp)
        | ((fail_if_success with_reducible show False); with_reducible apply_assumption (exfalso := false) (symm := false) only [*, rfl, trivial, congrArg])
        | with_reducible refine And.intro ?_ ?_
        | (intro h; contradiction)
        | (intro h; subst h)
        | intro h
        | simp (maxSteps := 10000000) (implicitDefEqProofs := false) only [go_sem, oA, Outv.enc,  ↓reduceIte, reduceCtorEq, Nat.reduceAdd, Nat.reduceSub, Nat.reduceLeDiff, Nat.reduceEqDiff, Nat.reduceMul, Nat.reduceLT, Nat.reducePow, Int.reduceEq, Int.reduceLT, Int.reduceLE, Int.reduceGT, Int.reduceGE, Int.reduceAdd, Int.reduceSub, Int.reduceNeg, Int.reduceToNat])
    · rw [inO, if_pos (.inr (by assumption))]
    · exact ⟨⟨0, ⟨by assumption, by assumption⟩, ⟨rfl, rfl, by simp, by simp⟩⟩⟩
    · rw [inO, if_pos (.inl (by assumption))]
  · rintro st ⟨g, hm, hs⟩
    refine a_has hs fun τ σ γ => ?_
    have hm0 := hm
    have hn0 : ¬ (okC y = false ∨ ocOkC rs e 1 = false) := by rw [hm.1, hm.2]; simp
    refine a_cut (fun st => ∃ (g : Nat), (y.err = 0 ∧ e = 0) ∧ Has st 74 [(2, .ptr 2 0 0), (3, .ptr 3 0 0), (4, .ptr 4 g 0)] [(2, .box 0 y.enc), (3, .box 0 [.slice (rs.map rowE), .int .i64 e]), (4, .box g [.int .u8 0, .int .i64 0, .str ⟨#[]⟩, .int .i64 0])]) (fun K hK => ?_) ?_
    · repeat' (first
          | (with_reducible refine a_seq_k ?_; intro K hK)
          | ((first | with_reducible refine a_region (by kernel_rfl) ?_ | (with_reducible refine a_draw mixed (by kernel_rfl) ?_; intro C hC) | (with_reducible refine a_cond_k ?_; intro X Y hX hY) | with_reducible refine RetOk.mk ?_); simp (maxSteps := 10000000) (implicitDefEqProofs := false) only [go_sem, oA, Outv.enc,  ↓reduceIte, reduceCtorEq, Nat.reduceAdd, Nat.reduceSub, Nat.reduceLeDiff, Nat.reduceEqDiff, Nat.reduceMul, Nat.reduceLT, Nat.reducePow, Int.reduceEq, Int.reduceLT, Int.reduceLE, Int.reduceGT, Int.reduceGE, Int.reduceAdd, Int.reduceSub, Int.reduceNeg, Int.reduceToNat])
          | with_reducible refine a_block ?_
          | with_reducible refine a_ret ?_
          | with_reducible refine a_exit ?_
          | with_reducible refine a_skip ?_
          | with_reducible exact ConfOk.mk (by kernel_rfl)
          | (with_reducible refine eqT_of (eq33 _ _ _ _ _ _) ?_; simp)
          | (with_reducible refine eqT_of (eq35 _ _ _ _ _ _ _ _) ?_; simp)
          | ((fail_if_success with_reducible show False); with_reducible apply_assumption (exfalso := false) (symm := false) only [*, rfl, trivial, congrArg])
          | with_reducible refine And.intro ?_ ?_
          | (intro h; contradiction)
          | (intro h; subst h)
          | intro h
          | simp (maxSteps := 10000000) (implicitDefEqProofs := false) only [go_sem, oA, Outv.enc,  ↓reduceIte, reduceCtorEq, Nat.reduceAdd, Nat.reduceSub, Nat.reduceLeDiff, Nat.reduceEqDiff, Nat.reduceMul, Nat.reduceLT, Nat.reducePow, Int.reduceEq, Int.reduceLT, Int.reduceLE, Int.reduceGT, Int.reduceGE, Int.reduceAdd, Int.reduceSub, Int.reduceNeg, Int.reduceToNat])
      · rw [inO, if_neg hn0, if_pos (by omega)]
      · rw [inO, if_neg hn0, if_neg (by omega), if_pos (by omega)]
      · rw [inO, if_neg hn0, if_pos (by omega)]
      · rw [inO, if_neg hn0, if_neg (by omega), if_pos (by omega)]
      · exact ⟨⟨g, by assumption, ⟨rfl, rfl, by simp, by simp⟩⟩⟩
    · rintro st ⟨g, hm, hs⟩
      refine a_has hs fun τ σ γ => ?_
      have hN : inO y rs e = inGo y.v rs (boolO false) := by rw [inO, if_neg hn0, if_neg (by omega), if_neg (by omega)]
      have hall : ∀ r ∈ rs, rowOkC 1 r = true := by
        have := hm0.2
        rw [ocOkC, if_neg (by omega)] at this
        simpa using this
      repeat' (first
          | (with_reducible refine a_seq_k ?_; intro K hK)
          | ((first | with_reducible refine a_region (by kernel_rfl) ?_ | (with_reducible refine a_draw mixed (by kernel_rfl) ?_; intro C hC) | (with_reducible refine a_cond_k ?_; intro X Y hX hY) | with_reducible refine RetOk.mk ?_ | with_reducible refine CallS.intro (calc_truth _) ?_ | with_reducible refine CallD.intro (calc_truth _) ?_); simp (maxSteps := 10000000) (implicitDefEqProofs := false) only [go_sem, oA, Outv.enc,  ↓reduceIte, reduceCtorEq, Nat.reduceAdd, Nat.reduceSub, Nat.reduceLeDiff, Nat.reduceEqDiff, Nat.reduceMul, Nat.reduceLT, Nat.reducePow, Int.reduceEq, Int.reduceLT, Int.reduceLE, Int.reduceGT, Int.reduceGE, Int.reduceAdd, Int.reduceSub, Int.reduceNeg, Int.reduceToNat])
          | with_reducible refine a_block ?_
          | with_reducible refine a_ret ?_
          | with_reducible refine a_exit ?_
          | with_reducible refine a_skip ?_
          | with_reducible exact ConfOk.mk (by kernel_rfl)
          | (with_reducible refine eqT_of (eq33 _ _ _ _ _ _) ?_; simp)
          | (with_reducible refine eqT_of (eq35 _ _ _ _ _ _ _ _) ?_; simp)
          | ((fail_if_success with_reducible show False); with_reducible apply_assumption (exfalso := false) (symm := false) only [*, rfl, trivial, congrArg])
          | with_reducible refine And.intro ?_ ?_
          | (intro h; contradiction)
          | (intro h; subst h)
          | intro h
          | simp (maxSteps := 10000000) (implicitDefEqProofs := false) only [go_sem, oA, Outv.enc,  ↓reduceIte, reduceCtorEq, Nat.reduceAdd, Nat.reduceSub, Nat.reduceLeDiff, Nat.reduceEqDiff, Nat.reduceMul, Nat.reduceLT, Nat.reducePow, Int.reduceEq, Int.reduceLT, Int.reduceLE, Int.reduceGT, Int.reduceGE, Int.reduceAdd, Int.reduceSub, Int.reduceNeg, Int.reduceToNat])
      clear hm0 hn0
      refine a_loop_k (fun n st => ∃ (g g' : Nat) (pre rest : List _) (out : Outv), rs = pre ++ rest ∧ n = rest.length ∧ (inGo y.v rest out = inGo y.v rs (boolO false)) ∧ Has st 74 [(2, .ptr 2 0 0), (4, .ptr 4 g' 0), (5, .ptr 5 g 0), (45, .slice (rs.map rowE)), (46, .int .i64 rs.length), (47, .int .i64 pre.length)] [(2, .box 0 y.enc), (4, .box g' [.int .u8 0, .int .i64 0, .str ⟨#[]⟩, .int .i64 0]), (5, .box g out.enc)]) (rs).length ⟨γ, g, [], rs, boolO false, rfl, rfl, rfl, ⟨rfl, rfl, by simp [kd, Outv.enc, Val.enc], by simp [kd, Outv.enc, Val.enc]⟩⟩ ?_
      rintro n st ⟨g, g', pre, rest, out, he, rfl, hp, hs⟩ K hK
      have hw := wrap_nat pre.length (by have := congrArg List.length he; simp at this; omega)
      subst he
      refine a_has hs fun τ σ γ => ?_
      rcases rest with _ | ⟨x, rest⟩
      · repeat' (first
            | (with_reducible refine a_seq_k ?_; intro K hK)
            | ((first | with_reducible refine a_region (by kernel_rfl) ?_ | (with_reducible refine a_draw mixed (by kernel_rfl) ?_; intro C hC) | (with_reducible refine a_cond_k ?_; intro X Y hX hY) | with_reducible refine RetOk.mk ?_); simp (maxSteps := 10000000) (implicitDefEqProofs := false) only [go_sem, Outv.enc, hw,  ↓reduceIte, reduceCtorEq, Nat.reduceAdd, Nat.reduceSub, Nat.reduceLeDiff, Nat.reduceEqDiff, Nat.reduceMul, Nat.reduceLT, Nat.reducePow, Int.reduceEq, Int.reduceLT, Int.reduceLE, Int.reduceGT, Int.reduceGE, Int.reduceAdd, Int.reduceSub, Int.reduceNeg, Int.reduceToNat])
            | with_reducible refine a_block ?_
            | with_reducible refine a_ret ?_
            | with_reducible refine a_exit ?_
            | with_reducible refine a_skip ?_
            | with_reducible exact ConfOk.mk (by kernel_rfl)
            | (with_reducible refine eqT_of (eq33 _ _ _ _ _ _) ?_; simp)
            | (with_reducible refine eqT_of (eq35 _ _ _ _ _ _ _ _) ?_; simp)
            | ((fail_if_success with_reducible show False); with_reducible apply_assumption (exfalso := false) (symm := false) only [*, rfl, trivial, congrArg])
            | with_reducible refine And.intro ?_ ?_
            | (intro h; contradiction)
            | (intro h; subst h)
            | intro h
            | simp (maxSteps := 10000000) (implicitDefEqProofs := false) only [go_sem, Outv.enc, hw,  ↓reduceIte, reduceCtorEq, Nat.reduceAdd, Nat.reduceSub, Nat.reduceLeDiff, Nat.reduceEqDiff, Nat.reduceMul, Nat.reduceLT, Nat.reducePow, Int.reduceEq, Int.reduceLT, Int.reduceLE, Int.reduceGT, Int.reduceGE, Int.reduceAdd, Int.reduceSub, Int.reduceNeg, Int.reduceToNat])
        · simp only [List.append_nil] at hp hN
          rw [hN, ← hp]; rfl
      · obtain ⟨w, rfl⟩ := row_one (hall x (by simp))
        repeat' (first
            | (with_reducible refine a_seq_k ?_; intro K hK)
            | ((first | with_reducible refine a_region (by kernel_rfl) ?_ | (with_reducible refine a_draw mixed (by kernel_rfl) ?_; intro C hC) | (with_reducible refine a_cond_k ?_; intro X Y hX hY) | with_reducible refine RetOk.mk ?_ | with_reducible refine CallS.intro (calc_truth _) ?_ | with_reducible refine CallD.intro (calc_truth _) ?_); simp (maxSteps := 10000000) (implicitDefEqProofs := false) only [go_sem, Outv.enc, Val.enc, hw,  ↓reduceIte, reduceCtorEq, Nat.reduceAdd, Nat.reduceSub, Nat.reduceLeDiff, Nat.reduceEqDiff, Nat.reduceMul, Nat.reduceLT, Nat.reducePow, Int.reduceEq, Int.reduceLT, Int.reduceLE, Int.reduceGT, Int.reduceGE, Int.reduceAdd, Int.reduceSub, Int.reduceNeg, Int.reduceToNat])
            | with_reducible refine a_block ?_
            | with_reducible refine a_ret ?_
            | with_reducible refine a_exit ?_
            | with_reducible refine a_skip ?_
            | with_reducible exact ConfOk.mk (by kernel_rfl)
            | (with_reducible refine eqT_of (eq33 _ _ _ _ _ _) ?_; simp)
            | (with_reducible refine eqT_of (eq35 _ _ _ _ _ _ _ _) ?_; simp)
            | ((fail_if_success with_reducible show False); with_reducible apply_assumption (exfalso := false) (symm := false) only [*, rfl, trivial, congrArg])
            | with_reducible refine And.intro ?_ ?_
            | (intro h; contradiction)
            | (intro h; subst h)
            | intro h
            | simp (maxSteps := 10000000) (implicitDefEqProofs := false) only [go_sem, Outv.enc, Val.enc, hw,  ↓reduceIte, reduceCtorEq, Nat.reduceAdd, Nat.reduceSub, Nat.reduceLeDiff, Nat.reduceEqDiff, Nat.reduceMul, Nat.reduceLT, Nat.reducePow, Int.reduceEq, Int.reduceLT, Int.reduceLE, Int.reduceGT, Int.reduceGE, Int.reduceAdd, Int.reduceSub, Int.reduceNeg, Int.reduceToNat])
        · have hq : inGo y.v rest nullO = inGo y.v (pre ++ [w] :: rest) (boolO false) := by rw [← hp, inGo, if_pos (.inr h)]
          exact ⟨⟨rest.length, by simp, g, g', pre ++ [[w]], rest, nullO, by simp, rfl, hq, ⟨rfl, rfl, by simp [Outv.enc, Val.enc], by simp [Outv.enc, Val.enc]⟩⟩⟩
        · rw [hN, ← hp, inGo, List.headD_cons, if_neg (by simp [*]), if_pos (show vEqC w y.v = true from h)]; rfl
        · have hq : inGo y.v rest out = inGo y.v (pre ++ [w] :: rest) (boolO false) := by rw [← hp, inGo, if_neg (by simp [*]), if_neg (by simp [vEqC, h])]
          exact ⟨⟨rest.length, by simp, g, g', pre ++ [[w]], rest, out, by simp, rfl, hq, ⟨rfl, rfl, by simp [Outv.enc, Val.enc], by simp [Outv.enc, Val.enc]⟩⟩⟩
        · have hq : inGo y.v rest nullO = inGo y.v (pre ++ [w] :: rest) (boolO false) := by rw [← hp, inGo, if_pos (.inl h)]
          exact ⟨⟨rest.length, by simp, g, g', pre ++ [[w]], rest, nullO, by simp, rfl, hq, ⟨rfl, rfl, by simp [Outv.enc, Val.enc], by simp [Outv.enc, Val.enc]⟩⟩⟩
end Go.Proofs.YtmlaogjndaeihaaGreatDoor
