/- Kind, of the specification and of the program. -/
import Derived.Test.YtmlaogjndaeihaaGreatDoorT2
namespace Go.Proofs.YtmlaogjndaeihaaGreatDoor
open Go Go.Ab
attribute [local go_sem ↓] parts_tt parts_ff parts_tf parts_ft
attribute [local go_sem] parts_eq learnT aops_nil aops_cons aopsD_nil aopsD_cons stepS stepD gval St.learn skipR St.after putτ applyUpd List.foldl_cons List.foldl_nil pureOp memOp callOf litA closeO closeK List.flatMap_cons List.flatMap_nil Option.map_none decide_false opnd ofConst leaf binA unA lenA indexA indexAddrA fieldAddrA fieldA sliceA convertA pickV fillA placeS cellsA setA partA loadM storeM appendM srcEls lookBox lookRow lookMap closeL closeV scalarB scalarL killed buildEls lookupA leafEq eqAll resA resL tupA retA thenA blockA isInt loA hiA foldA maxA minA okSize leafB closedB Res.foot List.getD_cons_zero List.getD_cons_succ List.set_cons_zero List.set_cons_succ List.map_cons List.map_nil List.append_nil List.nil_append List.cons_append List.length_cons List.length_nil List.take_succ_cons List.take_zero List.drop_succ_cons List.drop_zero List.take_nil List.drop_nil List.all_cons List.all_nil List.getElem?_toArray List.getElem?_cons_zero List.getElem?_cons_succ Option.bind_some Option.map_some true_and and_true true_implies ne_eq not_true_eq_false not_false_eq_true Bool.true_eq_false Bool.false_eq_true Bool.not_true Bool.not_false decide_eq_true_eq decide_eq_false_iff_not false_implies implies_true and_self ite_true ite_false cond_true cond_false Option.some.injEq List.reverse_cons List.reverse_nil Bool.and_self Bool.true_and Bool.and_true Bool.false_and Bool.and_false Bool.or_true Bool.true_or Bool.or_false Bool.false_or Bool.not_eq_eq_eq_not Bool.not_not Bool.or_self beq_self_eq_true and_false false_and or_true true_or or_false false_or not_true not_false_iff Decidable.not_not lookT lookR tabT tabR Int.toNat_natCast List.length_map List.map_append List.length_append decide_true decide_false tmod2 List.mem_singleton forall_eq elOk1 elOk3 elOk4 castn0 castn1 castn2 castn3 getD_mid getD_mid_map at_lt at_end mid_lt mid_lt' nat_ge List.size_toArray Array.size_empty Nat.add_zero Nat.zero_add
attribute [local irreducible] ASpec ACalls retA ti EqT
set_option linter.unusedSimpArgs false
set_option maxHeartbeats 4000000
set_option maxRecDepth 100000
set_option linter.unusedVariables false
attribute [local go_sem] ti2 ti3 ti4 ti5 ti9 ti21 ti22 ti23 ti24 ti26 ti27 ti29 ti41 ti47 ti49 ti56 ti59 ti63 ti67 ti71 ti75 ti78 ti79 ti80 ti86 ti90 ti110
def caseGo (even : Bool) : List Int → List Int × List Int
  | [] => ([], [])
  | x :: r => if even = true ∧ r ≠ [] then (x :: (caseGo (!even) r).1, (caseGo (!even) r).2) else ((caseGo (!even) r).1, x :: (caseGo (!even) r).2)
theorem caseGo_step {n : Nat} {x : Int} {rest c o C O : List Int} (hp : c ++ (caseGo (decide (n % 2 = 0)) (x :: rest)).1 = C ∧ o ++ (caseGo (decide (n % 2 = 0)) (x :: rest)).2 = O) :
    (n % 2 = 0 ∧ rest ≠ [] → (c ++ [x]) ++ (caseGo (decide ((n + 1) % 2 = 0)) rest).1 = C ∧ o ++ (caseGo (decide ((n + 1) % 2 = 0)) rest).2 = O) ∧
    (¬ (n % 2 = 0 ∧ rest ≠ []) → c ++ (caseGo (decide ((n + 1) % 2 = 0)) rest).1 = C ∧ (o ++ [x]) ++ (caseGo (decide ((n + 1) % 2 = 0)) rest).2 = O) := by
  have e : decide ((n + 1) % 2 = 0) = !decide (n % 2 = 0) := by
    by_cases h : n % 2 = 0 <;> simp [h] <;> omega
  refine ⟨fun h => ?_, fun h => ?_⟩
  · rw [caseGo, if_pos (by simpa using h)] at hp; rw [e]; simpa using hp
  · rw [caseGo, if_neg (by simpa using h)] at hp; rw [e]; simpa using hp
theorem ref_caseKinds (ks : List Int) (hl : ks.length < 2 ^ 45) : ACalls Tryz.prog 83 [kinds ks] (.tuple [kinds (caseGo true ks).1, kinds (caseGo true ks).2]) := by
  refine acalls_k Tryz.func83 rfl (by kernel_rfl) (congrArg Array.toList Tryz.results83) Tryz.ntmps83 ?_
  intro R hR
  simp only [st0, List.length_cons, List.length_nil, Nat.reduceAdd, Nat.reduceSub, List.replicate_succ, List.replicate_zero, List.cons_append, List.nil_append]
  repeat' (first
      | (with_reducible refine a_seq_reg ?_; intro K hK)
      | ((first | with_reducible refine a_region (by kernel_rfl) ?_ | (with_reducible refine a_draw mixed (by kernel_rfl) ?_; intro C hC) | (with_reducible refine a_cond_k ?_; intro X Y hX hY) | with_reducible refine RetOk.mk ?_); simp (maxSteps := 10000000) (implicitDefEqProofs := false) only [go_sem,  ↓reduceIte, reduceCtorEq, Nat.reduceAdd, Nat.reduceSub, Nat.reduceLeDiff, Nat.reduceEqDiff, Nat.reduceMul, Nat.reduceLT, Nat.reducePow, Int.reduceEq, Int.reduceLT, Int.reduceLE, Int.reduceGT, Int.reduceGE, Int.reduceAdd, Int.reduceSub, Int.reduceNeg, Int.reduceToNat])
      | with_reducible refine a_block ?_
      | with_reducible refine a_ret ?_
      | with_reducible refine a_exit ?_
      | with_reducible refine a_skip ?_
      | with_reducible exact ConfOk.mk (by kernel_rfl)
      | (with_reducible refine eqT_of (eq33 _ _ _ _ _ _) ?_; simp)
      | (with_reducible refine eqT_of (eq35 _ _ _ _ _ _ _ _) ?_; simp)
      | ((fail_if_success with_reducible show False); with_reducible apply_assumption (exfalso := false) (symm := false) only [*, rfl, trivial, congrArg])
      | with_reducible refine And.intro ?_ ?_
      | (intro h; contradiction)
      | (intro h; subst h)
      | intro h
      | simp (maxSteps := 10000000) (implicitDefEqProofs := false) only [go_sem,  ↓reduceIte, reduceCtorEq, Nat.reduceAdd, Nat.reduceSub, Nat.reduceLeDiff, Nat.reduceEqDiff, Nat.reduceMul, Nat.reduceLT, Nat.reducePow, Int.reduceEq, Int.reduceLT, Int.reduceLE, Int.reduceGT, Int.reduceGE, Int.reduceAdd, Int.reduceSub, Int.reduceNeg, Int.reduceToNat])
  refine a_cut (fun st => ∃ g g', Has st 39 [(4, .view 29 g), (5, .view 36 g')] [(29, .row g 1 ((caseGo true ks).1.map kd)), (36, .row g' 1 ((caseGo true ks).2.map kd))]) (fun K hK => ?_) ?_
  · repeat' (first
        | (with_reducible refine a_seq_reg ?_; intro K hK)
        | ((first | with_reducible refine a_region (by kernel_rfl) ?_ | (with_reducible refine a_draw mixed (by kernel_rfl) ?_; intro C hC) | (with_reducible refine a_cond_k ?_; intro X Y hX hY) | with_reducible refine RetOk.mk ?_); simp (maxSteps := 10000000) (implicitDefEqProofs := false) only [go_sem,  ↓reduceIte, reduceCtorEq, Nat.reduceAdd, Nat.reduceSub, Nat.reduceLeDiff, Nat.reduceEqDiff, Nat.reduceMul, Nat.reduceLT, Nat.reducePow, Int.reduceEq, Int.reduceLT, Int.reduceLE, Int.reduceGT, Int.reduceGE, Int.reduceAdd, Int.reduceSub, Int.reduceNeg, Int.reduceToNat])
        | with_reducible refine a_block ?_
        | with_reducible refine a_ret ?_
        | with_reducible refine a_exit ?_
        | with_reducible refine a_skip ?_
        | with_reducible exact ConfOk.mk (by kernel_rfl)
        | (with_reducible refine eqT_of (eq33 _ _ _ _ _ _) ?_; simp)
        | (with_reducible refine eqT_of (eq35 _ _ _ _ _ _ _ _) ?_; simp)
        | ((fail_if_success with_reducible show False); with_reducible apply_assumption (exfalso := false) (symm := false) only [*, rfl, trivial, congrArg])
        | with_reducible refine And.intro ?_ ?_
        | (intro h; contradiction)
        | (intro h; subst h)
        | intro h
        | simp (maxSteps := 10000000) (implicitDefEqProofs := false) only [go_sem,  ↓reduceIte, reduceCtorEq, Nat.reduceAdd, Nat.reduceSub, Nat.reduceLeDiff, Nat.reduceEqDiff, Nat.reduceMul, Nat.reduceLT, Nat.reducePow, Int.reduceEq, Int.reduceLT, Int.reduceLE, Int.reduceGT, Int.reduceGE, Int.reduceAdd, Int.reduceSub, Int.reduceNeg, Int.reduceToNat])
    refine a_nilrow [4] 29 1 (by simp) ?_
    refine a_nilrow [5] 36 1 (by simp [putAll]) ?_
    simp only [putAll, List.set_cons_zero, List.set_cons_succ]
    refine a_loop_k (fun n st => ∃ (g g' : Nat) (pre rest : List _) (c o : List Int), ks = pre ++ rest ∧ n = rest.length ∧ (c.length + o.length = pre.length ∧ (c ++ (caseGo (decide (pre.length % 2 = 0)) rest).1 = (caseGo true ks).1 ∧ o ++ (caseGo (decide (pre.length % 2 = 0)) rest).2 = (caseGo true ks).2)) ∧ Has st 39 [(0, .slice (ks.map kd)), (4, .view 29 g), (5, .view 36 g'), (6, .int .i64 pre.length)] [(29, .row g 1 (c.map kd)), (36, .row g' 1 (o.map kd))]) (ks).length ⟨3, 4, [], ks, [], [], rfl, rfl, by simp, ⟨rfl, rfl, by simp [kd, Outv.enc, Val.enc], by simp [kd, Outv.enc, Val.enc]⟩⟩ ?_
    rintro n st ⟨g, g', pre, rest, c, o, he, rfl, hp, hs⟩ K hK
    have hw := wrap_nat pre.length (by have := congrArg List.length he; simp at this; omega)
    subst he
    refine a_has hs fun τ σ γ => ?_
    rcases rest with _ | ⟨x, rest⟩
    · repeat' (first
          | (with_reducible refine a_seq_k ?_; intro K hK)
          | ((first | with_reducible refine a_region (by kernel_rfl) ?_ | (with_reducible refine a_draw mixed (by kernel_rfl) ?_; intro C hC) | (with_reducible refine a_cond_k ?_; intro X Y hX hY) | with_reducible refine RetOk.mk ?_); simp (maxSteps := 10000000) (implicitDefEqProofs := false) only [go_sem, kd, hw,  ↓reduceIte, reduceCtorEq, Nat.reduceAdd, Nat.reduceSub, Nat.reduceLeDiff, Nat.reduceEqDiff, Nat.reduceMul, Nat.reduceLT, Nat.reducePow, Int.reduceEq, Int.reduceLT, Int.reduceLE, Int.reduceGT, Int.reduceGE, Int.reduceAdd, Int.reduceSub, Int.reduceNeg, Int.reduceToNat])
          | with_reducible refine a_block ?_
          | with_reducible refine a_ret ?_
          | with_reducible refine a_exit ?_
          | with_reducible refine a_skip ?_
          | with_reducible exact ConfOk.mk (by kernel_rfl)
          | (with_reducible refine eqT_of (eq33 _ _ _ _ _ _) ?_; simp)
          | (with_reducible refine eqT_of (eq35 _ _ _ _ _ _ _ _) ?_; simp)
          | ((fail_if_success with_reducible show False); with_reducible apply_assumption (exfalso := false) (symm := false) only [*, rfl, trivial, congrArg])
          | with_reducible refine And.intro ?_ ?_
          | (intro h; contradiction)
          | (intro h; subst h)
          | intro h
          | simp (maxSteps := 10000000) (implicitDefEqProofs := false) only [go_sem, kd, hw,  ↓reduceIte, reduceCtorEq, Nat.reduceAdd, Nat.reduceSub, Nat.reduceLeDiff, Nat.reduceEqDiff, Nat.reduceMul, Nat.reduceLT, Nat.reducePow, Int.reduceEq, Int.reduceLT, Int.reduceLE, Int.reduceGT, Int.reduceGE, Int.reduceAdd, Int.reduceSub, Int.reduceNeg, Int.reduceToNat])
      · simp only [caseGo, List.append_nil] at hp; exact ⟨⟨g, g', ⟨rfl, rfl, by simp, by simp [← hp.2.1, ← hp.2.2]⟩⟩⟩
    · have hl' : pre.length + (rest.length + 1) < 2 ^ 45 := by simpa using hl
      repeat' (first
          | (with_reducible refine a_seq_k ?_; intro K hK)
          | ((first | with_reducible refine a_region (by kernel_rfl) ?_ | (with_reducible refine a_draw mixed (by kernel_rfl) ?_; intro C hC) | (with_reducible refine a_cond_k ?_; intro X Y hX hY) | with_reducible refine RetOk.mk ?_); simp (maxSteps := 10000000) (implicitDefEqProofs := false) only [go_sem, kd, hw,  ↓reduceIte, reduceCtorEq, Nat.reduceAdd, Nat.reduceSub, Nat.reduceLeDiff, Nat.reduceEqDiff, Nat.reduceMul, Nat.reduceLT, Nat.reducePow, Int.reduceEq, Int.reduceLT, Int.reduceLE, Int.reduceGT, Int.reduceGE, Int.reduceAdd, Int.reduceSub, Int.reduceNeg, Int.reduceToNat])
          | with_reducible refine a_block ?_
          | with_reducible refine a_ret ?_
          | with_reducible refine a_exit ?_
          | with_reducible refine a_skip ?_
          | with_reducible exact ConfOk.mk (by kernel_rfl)
          | (with_reducible refine eqT_of (eq33 _ _ _ _ _ _) ?_; simp)
          | (with_reducible refine eqT_of (eq35 _ _ _ _ _ _ _ _) ?_; simp)
          | ((fail_if_success with_reducible show False); with_reducible apply_assumption (exfalso := false) (symm := false) only [*, rfl, trivial, congrArg])
          | with_reducible refine And.intro ?_ ?_
          | (intro h; contradiction)
          | (intro h; subst h)
          | intro h
          | simp (maxSteps := 10000000) (implicitDefEqProofs := false) only [go_sem, kd, hw,  ↓reduceIte, reduceCtorEq, Nat.reduceAdd, Nat.reduceSub, Nat.reduceLeDiff, Nat.reduceEqDiff, Nat.reduceMul, Nat.reduceLT, Nat.reducePow, Int.reduceEq, Int.reduceLT, Int.reduceLE, Int.reduceGT, Int.reduceGE, Int.reduceAdd, Int.reduceSub, Int.reduceNeg, Int.reduceToNat])
      · omega
      · omega
      · have hq := (caseGo_step hp.2).1 ⟨by omega, by rintro rfl; simp at h⟩
        exact ⟨⟨rest.length, by simp, γ + 1 + 1, g', pre ++ [x], rest, c ++ [x], o, by simp, rfl, ⟨by simp; omega, by simpa using hq⟩, ⟨rfl, rfl, by simp [kd], by simp [kd]⟩⟩⟩
      · omega
      · omega
      · have hq := (caseGo_step hp.2).2 (by rintro ⟨_, h2⟩; cases rest <;> simp at h h2; omega)
        exact ⟨⟨rest.length, by simp, g, γ + 1 + 1, pre ++ [x], rest, c, o ++ [x], by simp, rfl, ⟨by simp; omega, by simpa using hq⟩, ⟨rfl, rfl, by simp [kd], by simp [kd]⟩⟩⟩
      · omega
      · omega
      · have hq := (caseGo_step hp.2).2 (by rintro ⟨h1, _⟩; omega)
        exact ⟨⟨rest.length, by simp, g, γ + 1 + 1, pre ++ [x], rest, c, o ++ [x], by simp, rfl, ⟨by simp; omega, by simpa using hq⟩, ⟨rfl, rfl, by simp [kd], by simp [kd]⟩⟩⟩
  · rintro st ⟨g, g', hs⟩
    refine a_has hs fun τ σ γ => ?_
    repeat' (first
        | (with_reducible refine a_seq_k ?_; intro K hK)
        | ((first | with_reducible refine a_region (by kernel_rfl) ?_ | (with_reducible refine a_draw mixed (by kernel_rfl) ?_; intro C hC) | (with_reducible refine a_cond_k ?_; intro X Y hX hY) | with_reducible refine RetOk.mk ?_); simp (maxSteps := 10000000) (implicitDefEqProofs := false) only [go_sem, kd,  ↓reduceIte, reduceCtorEq, Nat.reduceAdd, Nat.reduceSub, Nat.reduceLeDiff, Nat.reduceEqDiff, Nat.reduceMul, Nat.reduceLT, Nat.reducePow, Int.reduceEq, Int.reduceLT, Int.reduceLE, Int.reduceGT, Int.reduceGE, Int.reduceAdd, Int.reduceSub, Int.reduceNeg, Int.reduceToNat])
        | with_reducible refine a_block ?_
        | with_reducible refine a_ret ?_
        | with_reducible refine a_exit ?_
        | with_reducible refine a_skip ?_
        | with_reducible exact ConfOk.mk (by kernel_rfl)
        | (with_reducible refine eqT_of (eq33 _ _ _ _ _ _) ?_; simp)
        | (with_reducible refine eqT_of (eq35 _ _ _ _ _ _ _ _) ?_; simp)
        | ((fail_if_success with_reducible show False); with_reducible apply_assumption (exfalso := false) (symm := false) only [*, rfl, trivial, congrArg])
        | with_reducible refine And.intro ?_ ?_
        | (intro h; contradiction)
        | (intro h; subst h)
        | intro h
        | simp (maxSteps := 10000000) (implicitDefEqProofs := false) only [go_sem, kd,  ↓reduceIte, reduceCtorEq, Nat.reduceAdd, Nat.reduceSub, Nat.reduceLeDiff, Nat.reduceEqDiff, Nat.reduceMul, Nat.reduceLT, Nat.reducePow, Int.reduceEq, Int.reduceLT, Int.reduceLE, Int.reduceGT, Int.reduceGE, Int.reduceAdd, Int.reduceSub, Int.reduceNeg, Int.reduceToNat])
theorem caseGo_len (b : Bool) (ks : List Int) : (caseGo b ks).1.length ≤ ks.length ∧ (caseGo b ks).2.length ≤ ks.length := by
  induction ks generalizing b with
  | nil => simp [caseGo]
  | cons x r ih => have := ih (!b); rw [caseGo]; split <;> simp <;> omega
def kindOf (s : Int) (ks : List Int) : Int × Bool :=
  if s = 1 then (1, ks.all fun x => agree x 1) else if s = 2 then (2, ks.all fun x => agree x 2) else if s = 3 then (1, ks.all fun x => agree x 2) else if s = 4 then (3, agree (ks.getD 0 0) (ks.getD 1 0))
  else if s = 5 then (3, ks.all fun x => agree x 2) else if s = 6 then (3, true) else if s = 7 ∨ s = 8 then (3, ks.all fun x => agree x 3)
  else if s = 9 then ((commonGo 0 (caseGo true ks).2).1, (commonGo 0 (caseGo true ks).2).2 && (caseGo true ks).1.all fun x => agree x 3) else commonGo 0 ks
theorem ref_kindOf (s : Int) (ks : List Int) (hl : ks.length < 2 ^ 45) (h4 : s = 4 → ks.length = 2) : ACalls Tryz.prog 60 [.int .i64 s, kinds ks] (.tuple [.int .u8 (kindOf s ks).1, .bool (kindOf s ks).2]) := by
  have hl' : ks.length < 2 ^ 62 := by omega
  have hl1 : (caseGo true ks).1.length < 2 ^ 62 := by have := caseGo_len true ks; omega
  have hl2 : (caseGo true ks).2.length < 2 ^ 62 := by have := caseGo_len true ks; omega
  by_cases hs : s = 4
  · have h5 := h4 hs
    obtain ⟨a, b, rfl⟩ : ∃ a b, ks = [a, b] := by
      match ks, h5 with
      | [a, b], _ => exact ⟨a, b, rfl⟩
    subst hs
    refine acalls_k Tryz.func60 rfl (by kernel_rfl) (congrArg Array.toList Tryz.results60) Tryz.ntmps60 ?_
    intro R hR
    simp only [st0, List.length_cons, List.length_nil, Nat.reduceAdd, Nat.reduceSub, List.replicate_succ, List.replicate_zero, List.cons_append, List.nil_append]
    repeat' (first
        | (with_reducible refine a_seq_k ?_; intro K hK)
        | ((first | with_reducible refine a_region (by kernel_rfl) ?_ | (with_reducible refine a_draw mixed (by kernel_rfl) ?_; intro C hC) | (with_reducible refine a_cond_k ?_; intro X Y hX hY) | with_reducible refine RetOk.mk ?_ | with_reducible refine CallS.intro (ref_Agree _ _) ?_ | with_reducible refine CallD.intro (ref_Agree _ _) ?_); simp (maxSteps := 10000000) (implicitDefEqProofs := false) only [go_sem, kd,  ↓reduceIte, reduceCtorEq, Nat.reduceAdd, Nat.reduceSub, Nat.reduceLeDiff, Nat.reduceEqDiff, Nat.reduceMul, Nat.reduceLT, Nat.reducePow, Int.reduceEq, Int.reduceLT, Int.reduceLE, Int.reduceGT, Int.reduceGE, Int.reduceAdd, Int.reduceSub, Int.reduceNeg, Int.reduceToNat])
        | with_reducible refine a_block ?_
        | with_reducible refine a_ret ?_
        | with_reducible refine a_exit ?_
        | with_reducible refine a_skip ?_
        | with_reducible exact ConfOk.mk (by kernel_rfl)
        | (with_reducible refine eqT_of (eq33 _ _ _ _ _ _) ?_; simp)
        | (with_reducible refine eqT_of (eq35 _ _ _ _ _ _ _ _) ?_; simp)
        | ((fail_if_success with_reducible show False); with_reducible apply_assumption (exfalso := false) (symm := false) only [*, rfl, trivial, congrArg])
        | with_reducible refine And.intro ?_ ?_
        | (intro h; contradiction)
        | (intro h; subst h)
        | intro h
        | simp (maxSteps := 10000000) (implicitDefEqProofs := false) only [go_sem, kd,  ↓reduceIte, reduceCtorEq, Nat.reduceAdd, Nat.reduceSub, Nat.reduceLeDiff, Nat.reduceEqDiff, Nat.reduceMul, Nat.reduceLT, Nat.reducePow, Int.reduceEq, Int.reduceLT, Int.reduceLE, Int.reduceGT, Int.reduceGE, Int.reduceAdd, Int.reduceSub, Int.reduceNeg, Int.reduceToNat])
    all_goals simp [kindOf]
  · refine acalls_k Tryz.func60 rfl (by kernel_rfl) (congrArg Array.toList Tryz.results60) Tryz.ntmps60 ?_
    intro R hR
    simp only [st0, List.length_cons, List.length_nil, Nat.reduceAdd, Nat.reduceSub, List.replicate_succ, List.replicate_zero, List.cons_append, List.nil_append]
    repeat' (first
        | (with_reducible refine a_seq_k ?_; intro K hK)
        | ((first | with_reducible refine a_region (by kernel_rfl) ?_ | (with_reducible refine a_draw mixed (by kernel_rfl) ?_; intro C hC) | (with_reducible refine a_cond_k ?_; intro X Y hX hY) | with_reducible refine RetOk.mk ?_ | with_reducible refine CallS.intro (ref_allAgree ks _ hl') ?_ | with_reducible refine CallD.intro (ref_allAgree ks _ hl') ?_ | with_reducible refine CallS.intro (ref_Agree _ _) ?_ | with_reducible refine CallD.intro (ref_Agree _ _) ?_ | with_reducible refine CallS.intro (ref_caseKinds ks hl) ?_ | with_reducible refine CallD.intro (ref_caseKinds ks hl) ?_ | with_reducible refine CallS.intro (ref_Common ks hl') ?_ | with_reducible refine CallD.intro (ref_Common ks hl') ?_ | with_reducible refine CallS.intro (ref_Common _ hl2) ?_ | with_reducible refine CallD.intro (ref_Common _ hl2) ?_ | with_reducible refine CallS.intro (ref_allAgree _ _ hl1) ?_ | with_reducible refine CallD.intro (ref_allAgree _ _ hl1) ?_); simp (maxSteps := 10000000) (implicitDefEqProofs := false) only [go_sem, kd, hs,  ↓reduceIte, reduceCtorEq, Nat.reduceAdd, Nat.reduceSub, Nat.reduceLeDiff, Nat.reduceEqDiff, Nat.reduceMul, Nat.reduceLT, Nat.reducePow, Int.reduceEq, Int.reduceLT, Int.reduceLE, Int.reduceGT, Int.reduceGE, Int.reduceAdd, Int.reduceSub, Int.reduceNeg, Int.reduceToNat])
        | with_reducible refine a_block ?_
        | with_reducible refine a_ret ?_
        | with_reducible refine a_exit ?_
        | with_reducible refine a_skip ?_
        | with_reducible exact ConfOk.mk (by kernel_rfl)
        | (with_reducible refine eqT_of (eq33 _ _ _ _ _ _) ?_; simp)
        | (with_reducible refine eqT_of (eq35 _ _ _ _ _ _ _ _) ?_; simp)
        | ((fail_if_success with_reducible show False); with_reducible apply_assumption (exfalso := false) (symm := false) only [*, rfl, trivial, congrArg])
        | with_reducible refine And.intro ?_ ?_
        | (intro h; contradiction)
        | (intro h; subst h)
        | intro h
        | simp (maxSteps := 10000000) (implicitDefEqProofs := false) only [go_sem, kd, hs,  ↓reduceIte, reduceCtorEq, Nat.reduceAdd, Nat.reduceSub, Nat.reduceLeDiff, Nat.reduceEqDiff, Nat.reduceMul, Nat.reduceLT, Nat.reducePow, Int.reduceEq, Int.reduceLT, Int.reduceLE, Int.reduceGT, Int.reduceGE, Int.reduceAdd, Int.reduceSub, Int.reduceNeg, Int.reduceToNat])
    all_goals simp [kindOf, *]
end Go.Proofs.YtmlaogjndaeihaaGreatDoor
