/- Kind of the program. Values and outs: comparing them whole. Small functions on values and outs. -/
import Derived.Test.YtleadljchhkiiaaGreatDoorT5
import Derived.ChangeKeysEq
set_option linter.unusedSimpArgs false
set_option linter.unusedVariables false
section
namespace Go.Proofs.YtleadljchhkiiaaGreatDoor
open Go Go.Ab
attribute [local go_sem ↓] parts_tt parts_ff parts_tf parts_ft
attribute [local go_sem] parts_eq learnT aops_nil aops_cons aopsD_nil aopsD_cons stepS stepD gval St.learn skipR St.after putτ applyUpd List.foldl_cons List.foldl_nil pureOp memOp callOf litA closeO closeK List.flatMap_cons List.flatMap_nil Option.map_none decide_false opnd ofConst leaf binA unA lenA indexA indexAddrA fieldAddrA fieldA sliceA convertA pickV fillA placeS cellsA setA partA loadM storeM appendM srcEls lookBox lookRow lookMap closeL closeV scalarB scalarL killed buildEls lookupA leafEq eqAll resA resL tupA retA thenA blockA isInt loA hiA foldA maxA minA okSize leafB closedB Res.foot List.getD_cons_zero List.getD_cons_succ List.set_cons_zero List.set_cons_succ List.map_cons List.map_nil List.append_nil List.nil_append List.cons_append List.length_cons List.length_nil List.take_succ_cons List.take_zero List.drop_succ_cons List.drop_zero List.take_nil List.drop_nil List.all_cons List.all_nil List.getElem?_toArray List.getElem?_cons_zero List.getElem?_cons_succ Option.bind_some Option.map_some true_and and_true true_implies ne_eq not_true_eq_false not_false_eq_true Bool.true_eq_false Bool.false_eq_true Bool.not_true Bool.not_false decide_eq_true_eq decide_eq_false_iff_not false_implies implies_true and_self ite_true ite_false cond_true cond_false Option.some.injEq List.reverse_cons List.reverse_nil Bool.and_self Bool.true_and Bool.and_true Bool.false_and Bool.and_false Bool.or_true Bool.true_or Bool.or_false Bool.false_or Bool.not_eq_eq_eq_not Bool.not_not Bool.or_self beq_self_eq_true and_false false_and or_true true_or or_false false_or not_true not_false_iff Decidable.not_not lookT lookR tabT tabR Int.toNat_natCast List.length_map List.map_append List.length_append decide_true decide_false tmod2 List.mem_singleton forall_eq elOk1 elOk3 elOk4 castn0 castn1 castn2 castn3 getD_mid getD_mid_map at_lt at_end mid_lt mid_lt' nat_ge List.size_toArray Array.size_empty Nat.add_zero Nat.zero_add
attribute [local irreducible] ASpec ACalls retA ti EqT
set_option linter.unusedSimpArgs false
set_option maxHeartbeats 4000000
set_option maxRecDepth 100000
set_option linter.unusedVariables false
attribute [local go_sem] ti2 ti3 ti4 ti5 ti9 ti21 ti22 ti24 ti26 ti34 ti42 ti55 ti71 ti72 ti81 ti103 ti134 ti146 ti153 ti161 ti165 ti176 ti205 ti221 ti222 ti247
/-- What the program's caseKind does. -/
def caseC (even : Bool) (out : List Int) : List Int → Option (List Int)
  | [] => some out
  | x :: r => if even = true ∧ r ≠ [] then (if agree x 3 = true then caseC (!even) out r else none) else caseC (!even) (out ++ [x]) r
def caseKindC (ks : List Int) : Int × Int :=
  match caseC true [] ks with
  | none => (0, 50)
  | some out => if (commonC out).2 = true then ((commonC out).1, 0) else (0, 50)
theorem all_kd (ks : List Int) : (∀ y ∈ List.map kd ks, elOk 1 y = true) = True := by simp [elOk, kd, leafB]
theorem caseC_len {even : Bool} {out ks r : List Int} (h : caseC even out ks = some r) : r.length ≤ out.length + ks.length := by
  induction ks generalizing even out with
  | nil => simp only [caseC, Option.some.injEq] at h; subst h; simp
  | cons x ks ih =>
    rw [caseC] at h
    split at h
    · split at h
      · have := ih h; simp; omega
      · cases h
    · have := ih h; simp at this ⊢; omega
theorem par_succ (n : Nat) : decide ((n + 1) % 2 = 0) = !decide (n % 2 = 0) := by
  by_cases h : n % 2 = 0 <;> simp [h] <;> omega
theorem caseC_step {n : Nat} {x : Int} {rest o : List Int} {C : Option (List Int)} (hp : caseC (decide (n % 2 = 0)) o (x :: rest) = C) :
    (n % 2 = 0 → rest ≠ [] → agree x 3 = true → caseC (decide ((n + 1) % 2 = 0)) o rest = C) ∧ (n % 2 = 0 → rest ≠ [] → agree x 3 = false → C = none) ∧ (¬ (n % 2 = 0 ∧ rest ≠ []) → caseC (decide ((n + 1) % 2 = 0)) (o ++ [x]) rest = C) := by
  rw [par_succ]
  refine ⟨fun h1 h2 h3 => ?_, fun h1 h2 h3 => ?_, fun h => ?_⟩
  · rw [caseC, if_pos (by simpa using ⟨h1, h2⟩), if_pos h3] at hp; exact hp
  · rw [caseC, if_pos (by simpa using ⟨h1, h2⟩), if_neg (by simp [h3])] at hp; exact hp.symm
  · rw [caseC, if_neg (by simpa using h)] at hp; exact hp
theorem calc_caseKind (ks : List Int) (hl : ks.length < 2 ^ 45) : ACalls Tryz.prog 115 [kinds ks] (.tuple [.int .u8 (caseKindC ks).1, .int .i64 (caseKindC ks).2]) := by
  refine acalls_k Tryz.func115 rfl (by kernel_rfl) (congrArg Array.toList Tryz.results115) Tryz.ntmps115 ?_
  intro R hR
  simp only [st0, List.length_cons, List.length_nil, Nat.reduceAdd, Nat.reduceSub, List.replicate_succ, List.replicate_zero, List.cons_append, List.nil_append]
  repeat' (first
      | (with_reducible refine a_seq_reg ?_; intro K hK)
      | ((first | with_reducible refine a_region (by kernel_rfl) ?_ | (with_reducible refine a_draw mixed (by kernel_rfl) ?_; intro C hC) | (with_reducible refine a_cond_k ?_; intro X Y hX hY) | with_reducible refine RetOk.mk ?_); simp (maxSteps := 10000000) (implicitDefEqProofs := false) only [go_sem,  ↓reduceIte, reduceCtorEq, Nat.reduceAdd, Nat.reduceSub, Nat.reduceLeDiff, Nat.reduceEqDiff, Nat.reduceMul, Nat.reduceLT, Nat.reducePow, Int.reduceEq, Int.reduceLT, Int.reduceLE, Int.reduceGT, Int.reduceGE, Int.reduceAdd, Int.reduceSub, Int.reduceNeg, Int.reduceToNat])
      | with_reducible refine a_block ?_
      | with_reducible refine a_ret ?_
      | with_reducible refine a_exit ?_
      | with_reducible refine a_skip ?_
      | with_reducible exact ConfOk.mk (by kernel_rfl)
      | (with_reducible refine eqT_of (eq33 _ _ _ _ _ _) ?_; simp)
      | (with_reducible refine eqT_of (eq35 _ _ _ _ _ _ _ _) ?_; simp)
      | ((fail_if_success with_reducible show False); with_reducible apply_assumption (exfalso := false) (symm := false) only [*, rfl, trivial, congrArg])
      | with_reducible refine And.intro ?_ ?_
      | (intro h; contradiction)
      | (intro h; subst h)
      | intro h
      | simp (maxSteps := 10000000) (implicitDefEqProofs := false) only [go_sem,  ↓reduceIte, reduceCtorEq, Nat.reduceAdd, Nat.reduceSub, Nat.reduceLeDiff, Nat.reduceEqDiff, Nat.reduceMul, Nat.reduceLT, Nat.reducePow, Int.reduceEq, Int.reduceLT, Int.reduceLE, Int.reduceGT, Int.reduceGE, Int.reduceAdd, Int.reduceSub, Int.reduceNeg, Int.reduceToNat])
  refine a_cut (fun st => ∃ (g : Nat) (out : List Int), (out.length < 2 ^ 62 ∧ caseC true [] ks = some out) ∧ Has st 45 [(4, .view 32 g)] [(32, .row g 1 (out.map kd))]) (fun K hK => ?_) ?_
  · repeat' (first
        | (with_reducible refine a_seq_reg ?_; intro K hK)
        | ((first | with_reducible refine a_region (by kernel_rfl) ?_ | (with_reducible refine a_draw mixed (by kernel_rfl) ?_; intro C hC) | (with_reducible refine a_cond_k ?_; intro X Y hX hY) | with_reducible refine RetOk.mk ?_); simp (maxSteps := 10000000) (implicitDefEqProofs := false) only [go_sem,  ↓reduceIte, reduceCtorEq, Nat.reduceAdd, Nat.reduceSub, Nat.reduceLeDiff, Nat.reduceEqDiff, Nat.reduceMul, Nat.reduceLT, Nat.reducePow, Int.reduceEq, Int.reduceLT, Int.reduceLE, Int.reduceGT, Int.reduceGE, Int.reduceAdd, Int.reduceSub, Int.reduceNeg, Int.reduceToNat])
        | with_reducible refine a_block ?_
        | with_reducible refine a_ret ?_
        | with_reducible refine a_exit ?_
        | with_reducible refine a_skip ?_
        | with_reducible exact ConfOk.mk (by kernel_rfl)
        | (with_reducible refine eqT_of (eq33 _ _ _ _ _ _) ?_; simp)
        | (with_reducible refine eqT_of (eq35 _ _ _ _ _ _ _ _) ?_; simp)
        | ((fail_if_success with_reducible show False); with_reducible apply_assumption (exfalso := false) (symm := false) only [*, rfl, trivial, congrArg])
        | with_reducible refine And.intro ?_ ?_
        | (intro h; contradiction)
        | (intro h; subst h)
        | intro h
        | simp (maxSteps := 10000000) (implicitDefEqProofs := false) only [go_sem,  ↓reduceIte, reduceCtorEq, Nat.reduceAdd, Nat.reduceSub, Nat.reduceLeDiff, Nat.reduceEqDiff, Nat.reduceMul, Nat.reduceLT, Nat.reducePow, Int.reduceEq, Int.reduceLT, Int.reduceLE, Int.reduceGT, Int.reduceGE, Int.reduceAdd, Int.reduceSub, Int.reduceNeg, Int.reduceToNat])
    refine a_nilrow [4] 32 1 (by simp) ?_
    simp only [putAll, List.set_cons_zero, List.set_cons_succ]
    refine a_loop_k (fun n st => ∃ (g : Nat) (pre rest : List _) (o : List Int), ks = pre ++ rest ∧ n = rest.length ∧ (o.length ≤ pre.length ∧ caseC (decide (pre.length % 2 = 0)) o rest = caseC true [] ks) ∧ Has st 45 [(0, .slice (ks.map kd)), (4, .view 32 g), (10, .slice (ks.map kd)), (11, .int .i64 ks.length), (12, .int .i64 pre.length)] [(32, .row g 1 (o.map kd))]) (ks).length ⟨3, [], ks, [], rfl, rfl, by simp, ⟨rfl, rfl, by simp [kd, Outv.enc, Val.enc], by simp [kd, Outv.enc, Val.enc]⟩⟩ ?_
    rintro n st ⟨g, pre, rest, o, he, rfl, hp, hs⟩ K hK
    have hw := wrap_nat pre.length (by have := congrArg List.length he; simp at this; omega)
    subst he
    refine a_has hs fun τ σ γ => ?_
    rcases rest with _ | ⟨x, rest⟩
    · repeat' (first
          | (with_reducible refine a_seq_k ?_; intro K hK)
          | ((first | with_reducible refine a_region (by kernel_rfl) ?_ | (with_reducible refine a_draw mixed (by kernel_rfl) ?_; intro C hC) | (with_reducible refine a_cond_k ?_; intro X Y hX hY) | with_reducible refine RetOk.mk ?_); simp (maxSteps := 10000000) (implicitDefEqProofs := false) only [go_sem, kd, hw,  ↓reduceIte, reduceCtorEq, Nat.reduceAdd, Nat.reduceSub, Nat.reduceLeDiff, Nat.reduceEqDiff, Nat.reduceMul, Nat.reduceLT, Nat.reducePow, Int.reduceEq, Int.reduceLT, Int.reduceLE, Int.reduceGT, Int.reduceGE, Int.reduceAdd, Int.reduceSub, Int.reduceNeg, Int.reduceToNat])
          | with_reducible refine a_block ?_
          | with_reducible refine a_ret ?_
          | with_reducible refine a_exit ?_
          | with_reducible refine a_skip ?_
          | with_reducible exact ConfOk.mk (by kernel_rfl)
          | (with_reducible refine eqT_of (eq33 _ _ _ _ _ _) ?_; simp)
          | (with_reducible refine eqT_of (eq35 _ _ _ _ _ _ _ _) ?_; simp)
          | ((fail_if_success with_reducible show False); with_reducible apply_assumption (exfalso := false) (symm := false) only [*, rfl, trivial, congrArg])
          | with_reducible refine And.intro ?_ ?_
          | (intro h; contradiction)
          | (intro h; subst h)
          | intro h
          | simp (maxSteps := 10000000) (implicitDefEqProofs := false) only [go_sem, kd, hw,  ↓reduceIte, reduceCtorEq, Nat.reduceAdd, Nat.reduceSub, Nat.reduceLeDiff, Nat.reduceEqDiff, Nat.reduceMul, Nat.reduceLT, Nat.reducePow, Int.reduceEq, Int.reduceLT, Int.reduceLE, Int.reduceGT, Int.reduceGE, Int.reduceAdd, Int.reduceSub, Int.reduceNeg, Int.reduceToNat])
      · simp only [caseC, List.append_nil] at hp
        exact ⟨⟨g, o, ⟨by simp at hl; omega, hp.2.symm⟩, ⟨rfl, rfl, by simp, by simp⟩⟩⟩
    · have hl' : pre.length + (rest.length + 1) < 2 ^ 45 := by simpa using hl
      have hw2 := wrap_pred pre.length rest.length (by omega)
      have hc := caseC_step hp.2
      repeat' (first
          | (with_reducible refine a_seq_k ?_; intro K hK)
          | ((first | with_reducible refine a_region (by kernel_rfl) ?_ | (with_reducible refine a_draw mixed (by kernel_rfl) ?_; intro C hC) | (with_reducible refine a_cond_k ?_; intro X Y hX hY) | with_reducible refine RetOk.mk ?_ | with_reducible refine CallS.intro (calc_agree _ _) ?_ | with_reducible refine CallD.intro (calc_agree _ _) ?_); simp (maxSteps := 10000000) (implicitDefEqProofs := false) only [go_sem, kd, hw, hw2,  ↓reduceIte, reduceCtorEq, Nat.reduceAdd, Nat.reduceSub, Nat.reduceLeDiff, Nat.reduceEqDiff, Nat.reduceMul, Nat.reduceLT, Nat.reducePow, Int.reduceEq, Int.reduceLT, Int.reduceLE, Int.reduceGT, Int.reduceGE, Int.reduceAdd, Int.reduceSub, Int.reduceNeg, Int.reduceToNat])
          | with_reducible refine a_block ?_
          | with_reducible refine a_ret ?_
          | with_reducible refine a_exit ?_
          | with_reducible refine a_skip ?_
          | with_reducible exact ConfOk.mk (by kernel_rfl)
          | (with_reducible refine eqT_of (eq33 _ _ _ _ _ _) ?_; simp)
          | (with_reducible refine eqT_of (eq35 _ _ _ _ _ _ _ _) ?_; simp)
          | ((fail_if_success with_reducible show False); with_reducible apply_assumption (exfalso := false) (symm := false) only [*, rfl, trivial, congrArg])
          | with_reducible refine And.intro ?_ ?_
          | (intro h; contradiction)
          | (intro h; subst h)
          | intro h
          | simp (maxSteps := 10000000) (implicitDefEqProofs := false) only [go_sem, kd, hw, hw2,  ↓reduceIte, reduceCtorEq, Nat.reduceAdd, Nat.reduceSub, Nat.reduceLeDiff, Nat.reduceEqDiff, Nat.reduceMul, Nat.reduceLT, Nat.reducePow, Int.reduceEq, Int.reduceLT, Int.reduceLE, Int.reduceGT, Int.reduceGE, Int.reduceAdd, Int.reduceSub, Int.reduceNeg, Int.reduceToNat])
      · omega
      · omega
      · exact ⟨⟨rest.length, by simp, γ + 1 + 1 + 1 + 1, pre ++ [x], rest, o ++ [x], by simp, rfl, ⟨by simp; omega, by simpa using hc.2.2 (by rintro ⟨h1, h2⟩; exact h2 (List.eq_nil_of_length_eq_zero (by omega)))⟩, ⟨rfl, rfl, by simp [kd], by simp [kd]⟩⟩⟩
      · have h6 := hc.2.1 (by omega) (ne_nil_of_lt (by assumption)) h
        rw [caseKindC, h6]
      · have h6 := hc.1 (by omega) (ne_nil_of_lt (by assumption)) h
        exact ⟨⟨rest.length, by simp, g, pre ++ [x], rest, o, by simp, rfl, ⟨by simp; omega, by simpa using h6⟩, ⟨rfl, rfl, by simp [kd], by simp [kd]⟩⟩⟩
      · omega
      · omega
      · exact ⟨⟨rest.length, by simp, γ + 1 + 1 + 1 + 1, pre ++ [x], rest, o ++ [x], by simp, rfl, ⟨by simp; omega, by simpa using hc.2.2 (by rintro ⟨h1, h2⟩; omega)⟩, ⟨rfl, rfl, by simp [kd], by simp [kd]⟩⟩⟩
  · rintro st ⟨g, out, hm, hs⟩
    refine a_has hs fun τ σ γ => ?_
    repeat' (first
        | (with_reducible refine a_seq_k ?_; intro K hK)
        | ((first | with_reducible refine a_region (by kernel_rfl) ?_ | (with_reducible refine a_draw mixed (by kernel_rfl) ?_; intro C hC) | (with_reducible refine a_cond_k ?_; intro X Y hX hY) | with_reducible refine RetOk.mk ?_ | with_reducible refine CallS.intro (calc_common out hm.1) ?_ | with_reducible refine CallD.intro (calc_common out hm.1) ?_); simp (maxSteps := 10000000) (implicitDefEqProofs := false) only [go_sem, kd,  ↓reduceIte, reduceCtorEq, Nat.reduceAdd, Nat.reduceSub, Nat.reduceLeDiff, Nat.reduceEqDiff, Nat.reduceMul, Nat.reduceLT, Nat.reducePow, Int.reduceEq, Int.reduceLT, Int.reduceLE, Int.reduceGT, Int.reduceGE, Int.reduceAdd, Int.reduceSub, Int.reduceNeg, Int.reduceToNat])
        | with_reducible refine a_block ?_
        | with_reducible refine a_ret ?_
        | with_reducible refine a_exit ?_
        | with_reducible refine a_skip ?_
        | with_reducible exact ConfOk.mk (by kernel_rfl)
        | (with_reducible refine eqT_of (eq33 _ _ _ _ _ _) ?_; simp)
        | (with_reducible refine eqT_of (eq35 _ _ _ _ _ _ _ _) ?_; simp)
        | ((fail_if_success with_reducible show False); with_reducible apply_assumption (exfalso := false) (symm := false) only [*, rfl, trivial, congrArg])
        | with_reducible refine And.intro ?_ ?_
        | (intro h; contradiction)
        | (intro h; subst h)
        | intro h
        | simp (maxSteps := 10000000) (implicitDefEqProofs := false) only [go_sem, kd,  ↓reduceIte, reduceCtorEq, Nat.reduceAdd, Nat.reduceSub, Nat.reduceLeDiff, Nat.reduceEqDiff, Nat.reduceMul, Nat.reduceLT, Nat.reducePow, Int.reduceEq, Int.reduceLT, Int.reduceLE, Int.reduceGT, Int.reduceGE, Int.reduceAdd, Int.reduceSub, Int.reduceNeg, Int.reduceToNat])
    · rw [caseKindC, hm.2]; simp [h]
    · rw [caseKindC, hm.2]; simp [h]
def kindC (op : Int) (ks : List Int) : Int × Int :=
  let s := if op = 25 then (⟨⟨2, 2 ^ 62, 0, 0⟩, true⟩ : Sig × Bool) else sigOf op
  if s.2 = false ∨ (ks.length : Int) < s.1.least ∨ s.1.most < (ks.length : Int) ∨ (ks.any fun k => decide (3 < k)) = true then (0, 1)
  else if op = 25 then caseKindC ks
  else if (commonC (s.1.takes :: ks)).2 = true then (if op = 26 then (commonC (s.1.takes :: ks)).1 else s.1.gives, 0) else (0, 50)
theorem kindC_of {op : Int} {ks : List Int} {s : Sig} {b : Bool} (hm : (if op = 25 then (⟨⟨2, 2 ^ 62, 0, 0⟩, true⟩ : Sig × Bool) else sigOf op) = (s, b)) :
    kindC op ks = if b = false ∨ (ks.length : Int) < s.least ∨ s.most < (ks.length : Int) ∨ (ks.any fun k => decide (3 < k)) = true then (0, 1)
      else if op = 25 then caseKindC ks
      else if (commonC (s.takes :: ks)).2 = true then (if op = 26 then (commonC (s.takes :: ks)).1 else s.gives, 0) else (0, 50) := by
  unfold kindC; simp only [hm]
theorem calc_Kind (op : Int) (ks : List Int) (hl : ks.length < 2 ^ 45) : ACalls Tryz.prog 58 [.int .u8 op, kinds ks] (.tuple [.int .u8 (kindC op ks).1, .int .i64 (kindC op ks).2]) := by
  have hl2 : ∀ x : Int, (x :: ks).length < 2 ^ 62 := by intro x; simp; omega
  refine acalls_k Tryz.func58 rfl (by kernel_rfl) (congrArg Array.toList Tryz.results58) Tryz.ntmps58 ?_
  intro R hR
  simp only [st0, List.length_cons, List.length_nil, Nat.reduceAdd, Nat.reduceSub, List.replicate_succ, List.replicate_zero, List.cons_append, List.nil_append]
  repeat' (first
      | (with_reducible refine a_seq_reg ?_; intro K hK)
      | ((first | with_reducible refine a_region (by kernel_rfl) ?_ | (with_reducible refine a_draw mixed (by kernel_rfl) ?_; intro C hC) | (with_reducible refine a_cond_k ?_; intro X Y hX hY) | with_reducible refine RetOk.mk ?_ | with_reducible refine CallS.intro (calc_signatures _) ?_ | with_reducible refine CallD.intro (calc_signatures _) ?_); simp (maxSteps := 10000000) (implicitDefEqProofs := false) only [go_sem, Sig.enc,  ↓reduceIte, reduceCtorEq, Nat.reduceAdd, Nat.reduceSub, Nat.reduceLeDiff, Nat.reduceEqDiff, Nat.reduceMul, Nat.reduceLT, Nat.reducePow, Int.reduceEq, Int.reduceLT, Int.reduceLE, Int.reduceGT, Int.reduceGE, Int.reduceAdd, Int.reduceSub, Int.reduceNeg, Int.reduceToNat])
      | with_reducible refine a_block ?_
      | with_reducible refine a_ret ?_
      | with_reducible refine a_exit ?_
      | with_reducible refine a_skip ?_
      | with_reducible exact ConfOk.mk (by kernel_rfl)
      | (with_reducible refine eqT_of (eq33 _ _ _ _ _ _) ?_; simp)
      | (with_reducible refine eqT_of (eq35 _ _ _ _ _ _ _ _) ?_; simp)
      | ((fail_if_success with_reducible show False); with_reducible apply_assumption (exfalso := false) (symm := false) only [*, rfl, trivial, congrArg])
      | with_reducible refine And.intro ?_ ?_
      | (intro h; contradiction)
      | (intro h; subst h)
      | intro h
      | simp (maxSteps := 10000000) (implicitDefEqProofs := false) only [go_sem, Sig.enc,  ↓reduceIte, reduceCtorEq, Nat.reduceAdd, Nat.reduceSub, Nat.reduceLeDiff, Nat.reduceEqDiff, Nat.reduceMul, Nat.reduceLT, Nat.reducePow, Int.reduceEq, Int.reduceLT, Int.reduceLE, Int.reduceGT, Int.reduceGE, Int.reduceAdd, Int.reduceSub, Int.reduceNeg, Int.reduceToNat])
  refine a_cut (fun st => ∃ (g : Nat) (s : Sig) (b : Bool), ((if op = 25 then (⟨⟨2, 2 ^ 62, 0, 0⟩, true⟩ : Sig × Bool) else sigOf op) = (s, b)) ∧ Has st 62 [(0, .int .u8 op), (1, .slice (ks.map kd)), (6, .ptr 6 g 0), (7, .bool b)] [(6, .box g s.enc)]) (fun K hK => ?_) ?_
  · repeat' (first
        | (with_reducible refine a_seq_k ?_; intro K hK)
        | ((first | with_reducible refine a_region (by kernel_rfl) ?_ | (with_reducible refine a_draw mixed (by kernel_rfl) ?_; intro C hC) | (with_reducible refine a_cond_k ?_; intro X Y hX hY) | with_reducible refine RetOk.mk ?_); simp (maxSteps := 10000000) (implicitDefEqProofs := false) only [go_sem, Sig.enc,  ↓reduceIte, reduceCtorEq, Nat.reduceAdd, Nat.reduceSub, Nat.reduceLeDiff, Nat.reduceEqDiff, Nat.reduceMul, Nat.reduceLT, Nat.reducePow, Int.reduceEq, Int.reduceLT, Int.reduceLE, Int.reduceGT, Int.reduceGE, Int.reduceAdd, Int.reduceSub, Int.reduceNeg, Int.reduceToNat])
        | with_reducible refine a_block ?_
        | with_reducible refine a_ret ?_
        | with_reducible refine a_exit ?_
        | with_reducible refine a_skip ?_
        | with_reducible exact ConfOk.mk (by kernel_rfl)
        | (with_reducible refine eqT_of (eq33 _ _ _ _ _ _) ?_; simp)
        | (with_reducible refine eqT_of (eq35 _ _ _ _ _ _ _ _) ?_; simp)
        | ((fail_if_success with_reducible show False); with_reducible apply_assumption (exfalso := false) (symm := false) only [*, rfl, trivial, congrArg])
        | with_reducible refine And.intro ?_ ?_
        | (intro h; contradiction)
        | (intro h; subst h)
        | intro h
        | simp (maxSteps := 10000000) (implicitDefEqProofs := false) only [go_sem, Sig.enc,  ↓reduceIte, reduceCtorEq, Nat.reduceAdd, Nat.reduceSub, Nat.reduceLeDiff, Nat.reduceEqDiff, Nat.reduceMul, Nat.reduceLT, Nat.reducePow, Int.reduceEq, Int.reduceLT, Int.reduceLE, Int.reduceGT, Int.reduceGE, Int.reduceAdd, Int.reduceSub, Int.reduceNeg, Int.reduceToNat])
    · exact ⟨⟨1, _, _, rfl, ⟨rfl, rfl, by simp, by simp [Sig.enc]⟩⟩⟩
    · exact ⟨⟨1, (sigOf op).1, (sigOf op).2, by rw [if_neg h], ⟨rfl, rfl, by simp, by simp [Sig.enc]⟩⟩⟩
  · rintro st ⟨g, s, b, hm, hs⟩
    refine a_has hs fun τ σ γ => ?_
    refine a_cut (fun st => (b = true ∧ s.least ≤ (ks.length : Int) ∧ (ks.length : Int) ≤ s.most ∧ (ks.any fun k => decide (3 < k)) = false) ∧ Has st 62 [(0, .int .u8 op), (1, .slice (ks.map kd)), (6, .ptr 6 g 0)] [(6, .box g s.enc)]) (fun K hK => ?_) ?_
    · repeat' (first
          | (with_reducible refine a_seq_k ?_; intro K hK)
          | ((first | with_reducible refine a_region (by kernel_rfl) ?_ | (with_reducible refine a_draw mixed (by kernel_rfl) ?_; intro C hC) | (with_reducible refine a_cond_k ?_; intro X Y hX hY) | with_reducible refine RetOk.mk ?_ | with_reducible refine CallS.intro (sl_ContainsFunc ks _ _ _ (fun _ _ => rfl) (fun x => calc_Kind1 x) (by omega)) ?_ | with_reducible refine CallD.intro (sl_ContainsFunc ks _ _ _ (fun _ _ => rfl) (fun x => calc_Kind1 x) (by omega)) ?_); simp (maxSteps := 10000000) (implicitDefEqProofs := false) only [go_sem, Sig.enc,  ↓reduceIte, reduceCtorEq, Nat.reduceAdd, Nat.reduceSub, Nat.reduceLeDiff, Nat.reduceEqDiff, Nat.reduceMul, Nat.reduceLT, Nat.reducePow, Int.reduceEq, Int.reduceLT, Int.reduceLE, Int.reduceGT, Int.reduceGE, Int.reduceAdd, Int.reduceSub, Int.reduceNeg, Int.reduceToNat])
          | with_reducible refine a_block ?_
          | with_reducible refine a_ret ?_
          | with_reducible refine a_exit ?_
          | with_reducible refine a_skip ?_
          | with_reducible exact ConfOk.mk (by kernel_rfl)
          | (with_reducible refine eqT_of (eq33 _ _ _ _ _ _) ?_; simp)
          | (with_reducible refine eqT_of (eq35 _ _ _ _ _ _ _ _) ?_; simp)
          | ((fail_if_success with_reducible show False); with_reducible apply_assumption (exfalso := false) (symm := false) only [*, rfl, trivial, congrArg])
          | with_reducible refine And.intro ?_ ?_
          | (intro h; contradiction)
          | (intro h; subst h)
          | intro h
          | simp (maxSteps := 10000000) (implicitDefEqProofs := false) only [go_sem, Sig.enc,  ↓reduceIte, reduceCtorEq, Nat.reduceAdd, Nat.reduceSub, Nat.reduceLeDiff, Nat.reduceEqDiff, Nat.reduceMul, Nat.reduceLT, Nat.reducePow, Int.reduceEq, Int.reduceLT, Int.reduceLE, Int.reduceGT, Int.reduceGE, Int.reduceAdd, Int.reduceSub, Int.reduceNeg, Int.reduceToNat])
      all_goals first
        | exact ⟨⟨⟨by omega, by omega, by assumption⟩, ⟨rfl, rfl, by simp, by simp [Sig.enc]⟩⟩⟩
        | (rw [kindC_of hm, if_pos (by first | exact .inl rfl | exact .inr (.inl (by assumption)) | exact .inr (.inr (.inl (by assumption))) | exact .inr (.inr (.inr (by assumption))))])
    · rintro st ⟨hm, hs⟩
      refine a_has hs fun τ σ γ => ?_
      have hcc := calc_common (s.takes :: ks) (hl2 _)
      simp only [kinds, List.map_cons, kd] at hcc
      obtain ⟨rfl, hm1, hm2, hm3⟩ := hm
      have hm4 : ¬ (true = false ∨ (ks.length : Int) < s.least ∨ s.most < (ks.length : Int) ∨ (ks.any fun k => decide (3 < k)) = true) := by rw [hm3]; simp; omega
      repeat' (first
          | (with_reducible refine a_seq_k ?_; intro K hK)
          | ((first | with_reducible refine a_region (by kernel_rfl) ?_ | (with_reducible refine a_draw mixed (by kernel_rfl) ?_; intro C hC) | (with_reducible refine a_cond_k ?_; intro X Y hX hY) | with_reducible refine RetOk.mk ?_ | with_reducible refine CallS.intro (calc_caseKind ks hl) ?_ | with_reducible refine CallD.intro (calc_caseKind ks hl) ?_ | with_reducible refine CallS.intro (hcc) ?_ | with_reducible refine CallD.intro (hcc) ?_); simp (maxSteps := 10000000) (implicitDefEqProofs := false) only [go_sem, Sig.enc, kd, all_kd,  ↓reduceIte, reduceCtorEq, Nat.reduceAdd, Nat.reduceSub, Nat.reduceLeDiff, Nat.reduceEqDiff, Nat.reduceMul, Nat.reduceLT, Nat.reducePow, Int.reduceEq, Int.reduceLT, Int.reduceLE, Int.reduceGT, Int.reduceGE, Int.reduceAdd, Int.reduceSub, Int.reduceNeg, Int.reduceToNat])
          | with_reducible refine a_block ?_
          | with_reducible refine a_ret ?_
          | with_reducible refine a_exit ?_
          | with_reducible refine a_skip ?_
          | with_reducible exact ConfOk.mk (by kernel_rfl)
          | (with_reducible refine eqT_of (eq33 _ _ _ _ _ _) ?_; simp)
          | (with_reducible refine eqT_of (eq35 _ _ _ _ _ _ _ _) ?_; simp)
          | ((fail_if_success with_reducible show False); with_reducible apply_assumption (exfalso := false) (symm := false) only [*, rfl, trivial, congrArg])
          | with_reducible refine And.intro ?_ ?_
          | (intro h; contradiction)
          | (intro h; subst h)
          | intro h
          | simp (maxSteps := 10000000) (implicitDefEqProofs := false) only [go_sem, Sig.enc, kd, all_kd,  ↓reduceIte, reduceCtorEq, Nat.reduceAdd, Nat.reduceSub, Nat.reduceLeDiff, Nat.reduceEqDiff, Nat.reduceMul, Nat.reduceLT, Nat.reducePow, Int.reduceEq, Int.reduceLT, Int.reduceLE, Int.reduceGT, Int.reduceGE, Int.reduceAdd, Int.reduceSub, Int.reduceNeg, Int.reduceToNat])
      all_goals first
        | omega
        | (rw [kindC_of (by assumption), if_neg hm4]; simp [*]; done)
end Go.Proofs.YtleadljchhkiiaaGreatDoor
end

section
section
namespace Go.Proofs.YtleadljchhkiiaaGreatDoor
open Go Go.Ab
def vEq (a b : Val) : Bool := decide (a.kind = b.kind) && (decide (a.int = b.int) && decide (a.text = b.text))
def oEq (a b : Outv) : Bool := decide (a.v.kind = b.v.kind) && (decide (a.v.int = b.v.int) && (decide (a.v.text = b.v.text) && decide (a.err = b.err)))
theorem fields33 : ∃ f1 f2 f3, (Tryz.prog.fieldsOf 26).toList = [f1, f2, f3] ∧ f1.type = 24 ∧ f1.offset = 0 ∧ f1.name ≠ "_" ∧ f2.type = 2 ∧ f2.offset = 1 ∧ f2.name ≠ "_" ∧ f3.type = 9 ∧ f3.offset = 2 ∧ f3.name ≠ "_" :=
  ⟨(Tryz.prog.fieldsOf 26).toList[0]!, (Tryz.prog.fieldsOf 26).toList[1]!, (Tryz.prog.fieldsOf 26).toList[2]!, by kernel_rfl, by kernel_rfl, by kernel_rfl, of_decide_eq_true (by kernel_rfl), by kernel_rfl, by kernel_rfl, of_decide_eq_true (by kernel_rfl), by kernel_rfl, by kernel_rfl, of_decide_eq_true (by kernel_rfl)⟩
theorem fields35 : ∃ f1 f2, (Tryz.prog.fieldsOf 42).toList = [f1, f2] ∧ f1.type = 26 ∧ f1.offset = 0 ∧ f1.name ≠ "_" ∧ f2.type = 34 ∧ f2.offset = 3 ∧ f2.name ≠ "_" :=
  ⟨(Tryz.prog.fieldsOf 42).toList[0]!, (Tryz.prog.fieldsOf 42).toList[1]!, by kernel_rfl, by kernel_rfl, by kernel_rfl, of_decide_eq_true (by kernel_rfl), by kernel_rfl, by kernel_rfl, of_decide_eq_true (by kernel_rfl)⟩
theorem toList_beq (a b : ByteArray) : (a.toList == b.toList) = decide (a = b) := by
  rw [Bool.eq_iff_iff]
  simp only [beq_iff_eq, decide_eq_true_eq]
  rw [ByteArray.toList_eq, ByteArray.toList_eq]
  constructor
  · intro h
    obtain ⟨⟨x⟩⟩ := a
    obtain ⟨⟨y⟩⟩ := b
    simpa using h
  · rintro rfl; rfl
theorem eqIn33 (w : World) (d : Nat) (k k' n n' : Int) (s s' : ByteArray) : (Op.equalIn (d + 2) 26 (.agg #[.int .u8 k, .int .i64 n, .string s]) (.agg #[.int .u8 k', .int .i64 n', .string s'])).run Tryz.prog w = .ok (decide (k = k') && (decide (n = n') && decide (s = s'))) w := by
  obtain ⟨f1, f2, f3, hf, t1, o1, n1, t2, o2, n2, t3, o3, n3⟩ := fields33
  rw [run_equalIn_agg w (d + 1) _ _ _ (by kernel_rfl) (by kernel_rfl), hf]
  have p1 : ∀ x y z : Value, (part f1.type #[x, y, z] f1.offset).run Tryz.prog w = .ok x w := fun x y z => by rw [t1, o1]; exact run_part_plain w (by kernel_rfl) rfl
  have p2 : ∀ x y z : Value, (part f2.type #[x, y, z] f2.offset).run Tryz.prog w = .ok y w := fun x y z => by rw [t2, o2]; exact run_part_plain w (by kernel_rfl) rfl
  have p3 : ∀ x y z : Value, (part f3.type #[x, y, z] f3.offset).run Tryz.prog w = .ok z w := fun x y z => by rw [t3, o3]; exact run_part_plain w (by kernel_rfl) rfl
  have e1 : ∀ a b, (Op.equalIn (d + 1) f1.type (.int .u8 a) (.int .u8 b)).run Tryz.prog w = .ok (a == b) w := fun a b => by rw [t1]; exact run_equalIn_int w d _ .u8 .u8 a b (by kernel_rfl)
  have e2 : ∀ a b, (Op.equalIn (d + 1) f2.type (.int .i64 a) (.int .i64 b)).run Tryz.prog w = .ok (a == b) w := fun a b => by rw [t2]; exact run_equalIn_int w d _ .i64 .i64 a b (by kernel_rfl)
  have e3 : ∀ a b, (Op.equalIn (d + 1) f3.type (.string a) (.string b)).run Tryz.prog w = .ok (a.toList == b.toList) w := fun a b => by rw [t3]; exact run_equalIn_string w d _ a b (by kernel_rfl)
  simp only [Op.eqFields, if_pos n1, if_pos n2, if_pos n3, Sem.run_bind, p1, p2, p3, e1, e2, e3, Result.andThen_ok, Sem.run_ite, toList_beq]
  by_cases h1 : k = k' <;> by_cases h2 : n = n' <;> by_cases h3 : s = s' <;> simp [h1, h2, h3]
theorem eqT_of {P : Program} {t : TypeId} {xs ys : List AV} {r r' : Bool} (h : EqT P t xs ys r) (e : r = r') : EqT P t xs ys r' := e ▸ h
theorem eq33 (k k' n n' : Int) (s s' : ByteArray) : EqT Tryz.prog 26 [.int .u8 k, .int .i64 n, .str s] [.int .u8 k', .int .i64 n', .str s'] (decide (k = k') && (decide (n = n') && decide (s = s'))) := by
  intro w own vs us h1 h2
  obtain _ | ⟨a1, h1⟩ := h1; obtain _ | ⟨a2, h1⟩ := h1; obtain _ | ⟨a3, h1⟩ := h1; obtain _ | _ := h1
  obtain _ | ⟨b1, h2⟩ := h2; obtain _ | ⟨b2, h2⟩ := h2; obtain _ | ⟨b3, h2⟩ := h2; obtain _ | _ := h2
  cases a1; cases a2; cases a3; cases b1; cases b2; cases b3
  refine ⟨fun x y => run_eqGuard_agg w _ _ _ _ _ _ (by kernel_rfl), fun x y => run_eqGuard_agg w _ _ _ _ _ _ (by kernel_rfl), ?_⟩
  exact eqIn33 w 9998 k k' n n' s s'
theorem eq35 (k k' n n' e e' : Int) (s s' : ByteArray) : EqT Tryz.prog 42 [.int .u8 k, .int .i64 n, .str s, .int .i64 e] [.int .u8 k', .int .i64 n', .str s', .int .i64 e'] (decide (k = k') && (decide (n = n') && (decide (s = s') && decide (e = e')))) := by
  intro w own vs us h1 h2
  obtain _ | ⟨a1, h1⟩ := h1; obtain _ | ⟨a2, h1⟩ := h1; obtain _ | ⟨a3, h1⟩ := h1; obtain _ | ⟨a4, h1⟩ := h1; obtain _ | _ := h1
  obtain _ | ⟨b1, h2⟩ := h2; obtain _ | ⟨b2, h2⟩ := h2; obtain _ | ⟨b3, h2⟩ := h2; obtain _ | ⟨b4, h2⟩ := h2; obtain _ | _ := h2
  cases a1; cases a2; cases a3; cases a4; cases b1; cases b2; cases b3; cases b4
  refine ⟨fun x y => run_eqGuard_agg w _ _ _ _ _ _ (by kernel_rfl), fun x y => run_eqGuard_agg w _ _ _ _ _ _ (by kernel_rfl), ?_⟩
  show (Op.equalIn 10000 _ _ _).run Tryz.prog w = _
  obtain ⟨f1, f2, hf, t1, o1, n1, t2, o2, n2⟩ := fields35
  rw [run_equalIn_agg w 9999 _ _ _ (by kernel_rfl) (by kernel_rfl), hf]
  have hu : ∃ d, Tryz.prog.underlying 26 = some d ∧ aggD d = true := by
    obtain ⟨d, h3, h4⟩ := ti_und (P := Tryz.prog) (t := 26) (by rw [ti26]; simp)
    exact ⟨d, h3, by rw [← h4, ti26]⟩
  obtain ⟨d, hu, hag⟩ := hu
  obtain ⟨i, hi, hsz, _⟩ := ti_info (P := Tryz.prog) (t := 26) (by rw [ti26]; simp)
  rw [ti26] at hsz
  have p1 : ∀ x y z u : Value, (part f1.type #[x, y, z, u] f1.offset).run Tryz.prog w = .ok (.agg #[x, y, z]) w := fun x y z u => by
    rw [t1, o1]
    simp only [part, Sem.run_bind, run_isAgg hu, hag, Result.andThen_ok, if_true, Go.Ab.run_sizeOf hi, hsz]
    rfl
  have p2 : ∀ x y z u : Value, (part f2.type #[x, y, z, u] f2.offset).run Tryz.prog w = .ok u w := fun x y z u => by rw [t2, o2]; exact run_part_plain w (by kernel_rfl) rfl
  have e2 : ∀ a b, (Op.equalIn 9999 f2.type (.int .i64 a) (.int .i64 b)).run Tryz.prog w = .ok (a == b) w := fun a b => by rw [t2]; exact run_equalIn_int w 9998 _ .i64 .i64 a b (by kernel_rfl)
  have e1 := eqIn33 w 9997 k k' n n' s s'
  rw [← t1] at e1
  simp only [Op.eqFields, if_pos n1, if_pos n2, Sem.run_bind, p1, p2, e1, e2, Result.andThen_ok, Sem.run_ite]
  by_cases h1 : k = k' <;> by_cases h2 : n = n' <;> by_cases h3 : s = s' <;> by_cases h4 : e = e' <;> simp [h1, h2, h3, h4]
end Go.Proofs.YtleadljchhkiiaaGreatDoor
end

section
namespace Go.Proofs.YtleadljchhkiiaaGreatDoor
open Go Go.Ab
attribute [local go_sem ↓] parts_tt parts_ff parts_tf parts_ft
attribute [local go_sem] parts_eq learnT aops_nil aops_cons aopsD_nil aopsD_cons stepS stepD gval St.learn skipR St.after putτ applyUpd List.foldl_cons List.foldl_nil pureOp memOp callOf litA closeO closeK List.flatMap_cons List.flatMap_nil Option.map_none decide_false opnd ofConst leaf binA unA lenA indexA indexAddrA fieldAddrA fieldA sliceA convertA pickV fillA placeS cellsA setA partA loadM storeM appendM srcEls lookBox lookRow lookMap closeL closeV scalarB scalarL killed buildEls lookupA leafEq eqAll resA resL tupA retA thenA blockA isInt loA hiA foldA maxA minA okSize leafB closedB Res.foot List.getD_cons_zero List.getD_cons_succ List.set_cons_zero List.set_cons_succ List.map_cons List.map_nil List.append_nil List.nil_append List.cons_append List.length_cons List.length_nil List.take_succ_cons List.take_zero List.drop_succ_cons List.drop_zero List.take_nil List.drop_nil List.all_cons List.all_nil List.getElem?_toArray List.getElem?_cons_zero List.getElem?_cons_succ Option.bind_some Option.map_some true_and and_true true_implies ne_eq not_true_eq_false not_false_eq_true Bool.true_eq_false Bool.false_eq_true Bool.not_true Bool.not_false decide_eq_true_eq decide_eq_false_iff_not false_implies implies_true and_self ite_true ite_false cond_true cond_false Option.some.injEq List.reverse_cons List.reverse_nil Bool.and_self Bool.true_and Bool.and_true Bool.false_and Bool.and_false Bool.or_true Bool.true_or Bool.or_false Bool.false_or Bool.not_eq_eq_eq_not Bool.not_not Bool.or_self beq_self_eq_true and_false false_and or_true true_or or_false false_or not_true not_false_iff Decidable.not_not lookT lookR tabT tabR Int.toNat_natCast List.length_map List.map_append List.length_append decide_true decide_false tmod2 List.mem_singleton forall_eq elOk1 elOk3 elOk4 castn0 castn1 castn2 castn3 getD_mid getD_mid_map at_lt at_end mid_lt mid_lt' nat_ge List.size_toArray Array.size_empty Nat.add_zero Nat.zero_add
attribute [local irreducible] ASpec ACalls retA ti EqT
set_option linter.unusedSimpArgs false
set_option maxHeartbeats 4000000
set_option maxRecDepth 100000
set_option linter.unusedVariables false
attribute [local go_sem] ti2 ti3 ti4 ti5 ti9 ti21 ti22 ti24 ti26 ti34 ti42 ti55 ti71 ti72 ti81 ti103 ti134 ti146 ti153 ti161 ti165 ti176 ti205 ti221 ti222 ti247
@[reducible] def vA (k n : Int) (s : ByteArray) : AV := .agg [.int .u8 k, .int .i64 n, .str s]
@[reducible] def oA (k n : Int) (s : ByteArray) (e : Int) : AV := .agg [.int .u8 k, .int .i64 n, .str s, .int .i64 e]
@[reducible] def emp : ByteArray := ⟨#[]⟩
/-- Valid, as the program says it. -/
def vOkC (k n : Int) (s : ByteArray) : Bool :=
  if k = 0 then decide (n = 0) && decide (s = emp) else if k = 1 then decide (s = emp) else if k = 2 then decide (n = 0) && decide ((s.size : Int) ≤ 100)
  else if k = 3 then decide (s = emp) && decide (IntKind.wrap .u64 n ≤ 1) else false
def vOk (k n : Int) (s : ByteArray) : Bool :=
  if k = 0 then decide (n = 0) && decide (s = emp) else if k = 1 then decide (s = emp) else if k = 2 then decide (n = 0) && decide ((s.size : Int) ≤ 100)
  else if k = 3 then (decide (n = 0) || decide (n = 1)) && decide (s = emp) else false
theorem value_Valid (k n : Int) (s : ByteArray) : ACalls Tryz.prog 95 [vA k n s] (.bool (vOkC k n s)) := by
  refine acalls_k Tryz.func95 rfl (by kernel_rfl) (congrArg Array.toList Tryz.results95) Tryz.ntmps95 ?_
  intro R hR
  simp only [st0, List.length_cons, List.length_nil, Nat.reduceAdd, Nat.reduceSub, List.replicate_succ, List.replicate_zero, List.cons_append, List.nil_append]
  repeat' (first
      | (with_reducible refine a_seq_k ?_; intro K hK)
      | ((first | with_reducible refine a_region (by kernel_rfl) ?_ | (with_reducible refine a_draw mixed (by kernel_rfl) ?_; intro C hC) | (with_reducible refine a_cond_k ?_; intro X Y hX hY) | with_reducible refine RetOk.mk ?_); simp (maxSteps := 10000000) (implicitDefEqProofs := false) only [go_sem,  ↓reduceIte, reduceCtorEq, Nat.reduceAdd, Nat.reduceSub, Nat.reduceLeDiff, Nat.reduceEqDiff, Nat.reduceMul, Nat.reduceLT, Nat.reducePow, Int.reduceEq, Int.reduceLT, Int.reduceLE, Int.reduceGT, Int.reduceGE, Int.reduceAdd, Int.reduceSub, Int.reduceNeg, Int.reduceToNat])
      | with_reducible refine a_block ?_
      | with_reducible refine a_ret ?_
      | with_reducible refine a_exit ?_
      | with_reducible refine a_skip ?_
      | with_reducible exact ConfOk.mk (by kernel_rfl)
      | (with_reducible refine eqT_of (eq33 _ _ _ _ _ _) ?_; simp)
      | (with_reducible refine eqT_of (eq35 _ _ _ _ _ _ _ _) ?_; simp)
      | ((fail_if_success with_reducible show False); with_reducible apply_assumption (exfalso := false) (symm := false) only [*, rfl, trivial, congrArg])
      | with_reducible refine And.intro ?_ ?_
      | (intro h; contradiction)
      | (intro h; subst h)
      | intro h
      | simp (maxSteps := 10000000) (implicitDefEqProofs := false) only [go_sem,  ↓reduceIte, reduceCtorEq, Nat.reduceAdd, Nat.reduceSub, Nat.reduceLeDiff, Nat.reduceEqDiff, Nat.reduceMul, Nat.reduceLT, Nat.reducePow, Int.reduceEq, Int.reduceLT, Int.reduceLE, Int.reduceGT, Int.reduceGE, Int.reduceAdd, Int.reduceSub, Int.reduceNeg, Int.reduceToNat])
  all_goals simp [vOkC, *]
theorem ref_vValid (k n : Int) (s : ByteArray) : ACalls Tryz.prog 54 [vA k n s] (.bool (vOk k n s)) := by
  refine acalls_k Tryz.func54 rfl (by kernel_rfl) (congrArg Array.toList Tryz.results54) Tryz.ntmps54 ?_
  intro R hR
  simp only [st0, List.length_cons, List.length_nil, Nat.reduceAdd, Nat.reduceSub, List.replicate_succ, List.replicate_zero, List.cons_append, List.nil_append]
  repeat' (first
      | (with_reducible refine a_seq_k ?_; intro K hK)
      | ((first | with_reducible refine a_region (by kernel_rfl) ?_ | (with_reducible refine a_draw mixed (by kernel_rfl) ?_; intro C hC) | (with_reducible refine a_cond_k ?_; intro X Y hX hY) | with_reducible refine RetOk.mk ?_); simp (maxSteps := 10000000) (implicitDefEqProofs := false) only [go_sem,  ↓reduceIte, reduceCtorEq, Nat.reduceAdd, Nat.reduceSub, Nat.reduceLeDiff, Nat.reduceEqDiff, Nat.reduceMul, Nat.reduceLT, Nat.reducePow, Int.reduceEq, Int.reduceLT, Int.reduceLE, Int.reduceGT, Int.reduceGE, Int.reduceAdd, Int.reduceSub, Int.reduceNeg, Int.reduceToNat])
      | with_reducible refine a_block ?_
      | with_reducible refine a_ret ?_
      | with_reducible refine a_exit ?_
      | with_reducible refine a_skip ?_
      | with_reducible exact ConfOk.mk (by kernel_rfl)
      | (with_reducible refine eqT_of (eq33 _ _ _ _ _ _) ?_; simp)
      | (with_reducible refine eqT_of (eq35 _ _ _ _ _ _ _ _) ?_; simp)
      | ((fail_if_success with_reducible show False); with_reducible apply_assumption (exfalso := false) (symm := false) only [*, rfl, trivial, congrArg])
      | with_reducible refine And.intro ?_ ?_
      | (intro h; contradiction)
      | (intro h; subst h)
      | intro h
      | simp (maxSteps := 10000000) (implicitDefEqProofs := false) only [go_sem,  ↓reduceIte, reduceCtorEq, Nat.reduceAdd, Nat.reduceSub, Nat.reduceLeDiff, Nat.reduceEqDiff, Nat.reduceMul, Nat.reduceLT, Nat.reducePow, Int.reduceEq, Int.reduceLT, Int.reduceLE, Int.reduceGT, Int.reduceGE, Int.reduceAdd, Int.reduceSub, Int.reduceNeg, Int.reduceToNat])
  all_goals simp [vOk, *]
theorem ref_vSame (k n : Int) (s : ByteArray) (k' n' : Int) (s' : ByteArray) : ACalls Tryz.prog 56 [vA k n s, vA k' n' s'] (.bool (decide (k = k') && (decide (n = n') && decide (s = s')))) := by
  refine acalls_k Tryz.func56 rfl (by kernel_rfl) (congrArg Array.toList Tryz.results56) Tryz.ntmps56 ?_
  intro R hR
  simp only [st0, List.length_cons, List.length_nil, Nat.reduceAdd, Nat.reduceSub, List.replicate_succ, List.replicate_zero, List.cons_append, List.nil_append]
  repeat' (first
      | (with_reducible refine a_seq_k ?_; intro K hK)
      | ((first | with_reducible refine a_region (by kernel_rfl) ?_ | (with_reducible refine a_draw mixed (by kernel_rfl) ?_; intro C hC) | (with_reducible refine a_cond_k ?_; intro X Y hX hY) | with_reducible refine RetOk.mk ?_); simp (maxSteps := 10000000) (implicitDefEqProofs := false) only [go_sem,  ↓reduceIte, reduceCtorEq, Nat.reduceAdd, Nat.reduceSub, Nat.reduceLeDiff, Nat.reduceEqDiff, Nat.reduceMul, Nat.reduceLT, Nat.reducePow, Int.reduceEq, Int.reduceLT, Int.reduceLE, Int.reduceGT, Int.reduceGE, Int.reduceAdd, Int.reduceSub, Int.reduceNeg, Int.reduceToNat])
      | with_reducible refine a_block ?_
      | with_reducible refine a_ret ?_
      | with_reducible refine a_exit ?_
      | with_reducible refine a_skip ?_
      | with_reducible exact ConfOk.mk (by kernel_rfl)
      | (with_reducible refine eqT_of (eq33 _ _ _ _ _ _) ?_; simp)
      | (with_reducible refine eqT_of (eq35 _ _ _ _ _ _ _ _) ?_; simp)
      | ((fail_if_success with_reducible show False); with_reducible apply_assumption (exfalso := false) (symm := false) only [*, rfl, trivial, congrArg])
      | with_reducible refine And.intro ?_ ?_
      | (intro h; contradiction)
      | (intro h; subst h)
      | intro h
      | simp (maxSteps := 10000000) (implicitDefEqProofs := false) only [go_sem,  ↓reduceIte, reduceCtorEq, Nat.reduceAdd, Nat.reduceSub, Nat.reduceLeDiff, Nat.reduceEqDiff, Nat.reduceMul, Nat.reduceLT, Nat.reducePow, Int.reduceEq, Int.reduceLT, Int.reduceLE, Int.reduceGT, Int.reduceGE, Int.reduceAdd, Int.reduceSub, Int.reduceNeg, Int.reduceToNat])
  all_goals simp [*]
def isErr (e : Int) : Bool := decide (e = 3) || decide (e = 4) || decide (e = 5) || decide (e = 6)
theorem calc_isError (e : Int) : ACalls Tryz.prog 111 [.int .i64 e] (.bool (isErr e)) := by
  refine acalls_k Tryz.func111 rfl (by kernel_rfl) (congrArg Array.toList Tryz.results111) Tryz.ntmps111 ?_
  intro R hR
  simp only [st0, List.length_cons, List.length_nil, Nat.reduceAdd, Nat.reduceSub, List.replicate_succ, List.replicate_zero, List.cons_append, List.nil_append]
  repeat' (first
      | (with_reducible refine a_seq_k ?_; intro K hK)
      | ((first | with_reducible refine a_region (by kernel_rfl) ?_ | (with_reducible refine a_draw mixed (by kernel_rfl) ?_; intro C hC) | (with_reducible refine a_cond_k ?_; intro X Y hX hY) | with_reducible refine RetOk.mk ?_); simp (maxSteps := 10000000) (implicitDefEqProofs := false) only [go_sem,  ↓reduceIte, reduceCtorEq, Nat.reduceAdd, Nat.reduceSub, Nat.reduceLeDiff, Nat.reduceEqDiff, Nat.reduceMul, Nat.reduceLT, Nat.reducePow, Int.reduceEq, Int.reduceLT, Int.reduceLE, Int.reduceGT, Int.reduceGE, Int.reduceAdd, Int.reduceSub, Int.reduceNeg, Int.reduceToNat])
      | with_reducible refine a_block ?_
      | with_reducible refine a_ret ?_
      | with_reducible refine a_exit ?_
      | with_reducible refine a_skip ?_
      | with_reducible exact ConfOk.mk (by kernel_rfl)
      | (with_reducible refine eqT_of (eq33 _ _ _ _ _ _) ?_; simp)
      | (with_reducible refine eqT_of (eq35 _ _ _ _ _ _ _ _) ?_; simp)
      | ((fail_if_success with_reducible show False); with_reducible apply_assumption (exfalso := false) (symm := false) only [*, rfl, trivial, congrArg])
      | with_reducible refine And.intro ?_ ?_
      | (intro h; contradiction)
      | (intro h; subst h)
      | intro h
      | simp (maxSteps := 10000000) (implicitDefEqProofs := false) only [go_sem,  ↓reduceIte, reduceCtorEq, Nat.reduceAdd, Nat.reduceSub, Nat.reduceLeDiff, Nat.reduceEqDiff, Nat.reduceMul, Nat.reduceLT, Nat.reducePow, Int.reduceEq, Int.reduceLT, Int.reduceLE, Int.reduceGT, Int.reduceGE, Int.reduceAdd, Int.reduceSub, Int.reduceNeg, Int.reduceToNat])
  all_goals (unfold isErr; rw [Bool.eq_iff_iff]; simp; omega)
theorem ref_IsError (e : Int) : ACalls Tryz.prog 55 [.int .i64 e] (.bool (isErr e)) := by
  refine acalls_k Tryz.func55 rfl (by kernel_rfl) (congrArg Array.toList Tryz.results55) Tryz.ntmps55 ?_
  intro R hR
  simp only [st0, List.length_cons, List.length_nil, Nat.reduceAdd, Nat.reduceSub, List.replicate_succ, List.replicate_zero, List.cons_append, List.nil_append]
  repeat' (first
      | (with_reducible refine a_seq_k ?_; intro K hK)
      | ((first | with_reducible refine a_region (by kernel_rfl) ?_ | (with_reducible refine a_draw mixed (by kernel_rfl) ?_; intro C hC) | (with_reducible refine a_cond_k ?_; intro X Y hX hY) | with_reducible refine RetOk.mk ?_); simp (maxSteps := 10000000) (implicitDefEqProofs := false) only [go_sem,  ↓reduceIte, reduceCtorEq, Nat.reduceAdd, Nat.reduceSub, Nat.reduceLeDiff, Nat.reduceEqDiff, Nat.reduceMul, Nat.reduceLT, Nat.reducePow, Int.reduceEq, Int.reduceLT, Int.reduceLE, Int.reduceGT, Int.reduceGE, Int.reduceAdd, Int.reduceSub, Int.reduceNeg, Int.reduceToNat])
      | with_reducible refine a_block ?_
      | with_reducible refine a_ret ?_
      | with_reducible refine a_exit ?_
      | with_reducible refine a_skip ?_
      | with_reducible exact ConfOk.mk (by kernel_rfl)
      | (with_reducible refine eqT_of (eq33 _ _ _ _ _ _) ?_; simp)
      | (with_reducible refine eqT_of (eq35 _ _ _ _ _ _ _ _) ?_; simp)
      | ((fail_if_success with_reducible show False); with_reducible apply_assumption (exfalso := false) (symm := false) only [*, rfl, trivial, congrArg])
      | with_reducible refine And.intro ?_ ?_
      | (intro h; contradiction)
      | (intro h; subst h)
      | intro h
      | simp (maxSteps := 10000000) (implicitDefEqProofs := false) only [go_sem,  ↓reduceIte, reduceCtorEq, Nat.reduceAdd, Nat.reduceSub, Nat.reduceLeDiff, Nat.reduceEqDiff, Nat.reduceMul, Nat.reduceLT, Nat.reducePow, Int.reduceEq, Int.reduceLT, Int.reduceLE, Int.reduceGT, Int.reduceGE, Int.reduceAdd, Int.reduceSub, Int.reduceNeg, Int.reduceToNat])
  all_goals (unfold isErr; simp [*])
def zeroV (k n : Int) (s : ByteArray) : Bool := decide (k = 0) && (decide (n = 0) && decide (s = emp))
def oOkC (k n : Int) (s : ByteArray) (e : Int) : Bool := (decide (e = 0) && vOkC k n s) || (isErr e && zeroV k n s)
def oOk (k n : Int) (s : ByteArray) (e : Int) : Bool := if e = 0 then vOk k n s else isErr e && zeroV k n s
theorem calc_validOut (k n : Int) (s : ByteArray) (e : Int) : ACalls Tryz.prog 57 [oA k n s e] (.bool (oOkC k n s e)) := by
  refine acalls_k Tryz.func57 rfl (by kernel_rfl) (congrArg Array.toList Tryz.results57) Tryz.ntmps57 ?_
  intro R hR
  simp only [st0, List.length_cons, List.length_nil, Nat.reduceAdd, Nat.reduceSub, List.replicate_succ, List.replicate_zero, List.cons_append, List.nil_append]
  repeat' (first
      | (with_reducible refine a_seq_k ?_; intro K hK)
      | ((first | with_reducible refine a_region (by kernel_rfl) ?_ | (with_reducible refine a_draw mixed (by kernel_rfl) ?_; intro C hC) | (with_reducible refine a_cond_k ?_; intro X Y hX hY) | with_reducible refine RetOk.mk ?_ | with_reducible refine CallS.intro (value_Valid _ _ _) ?_ | with_reducible refine CallD.intro (value_Valid _ _ _) ?_ | with_reducible refine CallS.intro (calc_isError _) ?_ | with_reducible refine CallD.intro (calc_isError _) ?_); simp (maxSteps := 10000000) (implicitDefEqProofs := false) only [go_sem,  ↓reduceIte, reduceCtorEq, Nat.reduceAdd, Nat.reduceSub, Nat.reduceLeDiff, Nat.reduceEqDiff, Nat.reduceMul, Nat.reduceLT, Nat.reducePow, Int.reduceEq, Int.reduceLT, Int.reduceLE, Int.reduceGT, Int.reduceGE, Int.reduceAdd, Int.reduceSub, Int.reduceNeg, Int.reduceToNat])
      | with_reducible refine a_block ?_
      | with_reducible refine a_ret ?_
      | with_reducible refine a_exit ?_
      | with_reducible refine a_skip ?_
      | with_reducible exact ConfOk.mk (by kernel_rfl)
      | (with_reducible refine eqT_of (eq33 _ _ _ _ _ _) ?_; simp)
      | (with_reducible refine eqT_of (eq35 _ _ _ _ _ _ _ _) ?_; simp)
      | ((fail_if_success with_reducible show False); with_reducible apply_assumption (exfalso := false) (symm := false) only [*, rfl, trivial, congrArg])
      | with_reducible refine And.intro ?_ ?_
      | (intro h; contradiction)
      | (intro h; subst h)
      | intro h
      | simp (maxSteps := 10000000) (implicitDefEqProofs := false) only [go_sem,  ↓reduceIte, reduceCtorEq, Nat.reduceAdd, Nat.reduceSub, Nat.reduceLeDiff, Nat.reduceEqDiff, Nat.reduceMul, Nat.reduceLT, Nat.reducePow, Int.reduceEq, Int.reduceLT, Int.reduceLE, Int.reduceGT, Int.reduceGE, Int.reduceAdd, Int.reduceSub, Int.reduceNeg, Int.reduceToNat])
  all_goals simp [oOkC, zeroV, *]
theorem ref_oValid (k n : Int) (s : ByteArray) (e : Int) : ACalls Tryz.prog 24 [oA k n s e] (.bool (oOk k n s e)) := by
  refine acalls_k Tryz.func24 rfl (by kernel_rfl) (congrArg Array.toList Tryz.results24) Tryz.ntmps24 ?_
  intro R hR
  simp only [st0, List.length_cons, List.length_nil, Nat.reduceAdd, Nat.reduceSub, List.replicate_succ, List.replicate_zero, List.cons_append, List.nil_append]
  repeat' (first
      | (with_reducible refine a_seq_k ?_; intro K hK)
      | ((first | with_reducible refine a_region (by kernel_rfl) ?_ | (with_reducible refine a_draw mixed (by kernel_rfl) ?_; intro C hC) | (with_reducible refine a_cond_k ?_; intro X Y hX hY) | with_reducible refine RetOk.mk ?_ | with_reducible refine CallS.intro (ref_vValid _ _ _) ?_ | with_reducible refine CallD.intro (ref_vValid _ _ _) ?_ | with_reducible refine CallS.intro (ref_IsError _) ?_ | with_reducible refine CallD.intro (ref_IsError _) ?_ | with_reducible refine CallS.intro (ref_vSame _ _ _ _ _ _) ?_ | with_reducible refine CallD.intro (ref_vSame _ _ _ _ _ _) ?_); simp (maxSteps := 10000000) (implicitDefEqProofs := false) only [go_sem,  ↓reduceIte, reduceCtorEq, Nat.reduceAdd, Nat.reduceSub, Nat.reduceLeDiff, Nat.reduceEqDiff, Nat.reduceMul, Nat.reduceLT, Nat.reducePow, Int.reduceEq, Int.reduceLT, Int.reduceLE, Int.reduceGT, Int.reduceGE, Int.reduceAdd, Int.reduceSub, Int.reduceNeg, Int.reduceToNat])
      | with_reducible refine a_block ?_
      | with_reducible refine a_ret ?_
      | with_reducible refine a_exit ?_
      | with_reducible refine a_skip ?_
      | with_reducible exact ConfOk.mk (by kernel_rfl)
      | (with_reducible refine eqT_of (eq33 _ _ _ _ _ _) ?_; simp)
      | (with_reducible refine eqT_of (eq35 _ _ _ _ _ _ _ _) ?_; simp)
      | ((fail_if_success with_reducible show False); with_reducible apply_assumption (exfalso := false) (symm := false) only [*, rfl, trivial, congrArg])
      | with_reducible refine And.intro ?_ ?_
      | (intro h; contradiction)
      | (intro h; subst h)
      | intro h
      | simp (maxSteps := 10000000) (implicitDefEqProofs := false) only [go_sem,  ↓reduceIte, reduceCtorEq, Nat.reduceAdd, Nat.reduceSub, Nat.reduceLeDiff, Nat.reduceEqDiff, Nat.reduceMul, Nat.reduceLT, Nat.reducePow, Int.reduceEq, Int.reduceLT, Int.reduceLE, Int.reduceGT, Int.reduceGE, Int.reduceAdd, Int.reduceSub, Int.reduceNeg, Int.reduceToNat])
  all_goals simp [oOk, zeroV, *]
theorem calc_truth (b : Bool) : ACalls Tryz.prog 120 [.bool b] (oA 3 (if b then 1 else 0) emp 0) := by
  refine acalls_k Tryz.func120 rfl (by kernel_rfl) (congrArg Array.toList Tryz.results120) Tryz.ntmps120 ?_
  intro R hR
  simp only [st0, List.length_cons, List.length_nil, Nat.reduceAdd, Nat.reduceSub, List.replicate_succ, List.replicate_zero, List.cons_append, List.nil_append]
  repeat' (first
      | (with_reducible refine a_seq_k ?_; intro K hK)
      | ((first | with_reducible refine a_region (by kernel_rfl) ?_ | (with_reducible refine a_draw mixed (by kernel_rfl) ?_; intro C hC) | (with_reducible refine a_cond_k ?_; intro X Y hX hY) | with_reducible refine RetOk.mk ?_ | with_reducible refine CallS.intro (value_Bool _) ?_ | with_reducible refine CallD.intro (value_Bool _) ?_); simp (maxSteps := 10000000) (implicitDefEqProofs := false) only [go_sem, boolV, Val.enc,  ↓reduceIte, reduceCtorEq, Nat.reduceAdd, Nat.reduceSub, Nat.reduceLeDiff, Nat.reduceEqDiff, Nat.reduceMul, Nat.reduceLT, Nat.reducePow, Int.reduceEq, Int.reduceLT, Int.reduceLE, Int.reduceGT, Int.reduceGE, Int.reduceAdd, Int.reduceSub, Int.reduceNeg, Int.reduceToNat])
      | with_reducible refine a_block ?_
      | with_reducible refine a_ret ?_
      | with_reducible refine a_exit ?_
      | with_reducible refine a_skip ?_
      | with_reducible exact ConfOk.mk (by kernel_rfl)
      | (with_reducible refine eqT_of (eq33 _ _ _ _ _ _) ?_; simp)
      | (with_reducible refine eqT_of (eq35 _ _ _ _ _ _ _ _) ?_; simp)
      | ((fail_if_success with_reducible show False); with_reducible apply_assumption (exfalso := false) (symm := false) only [*, rfl, trivial, congrArg])
      | with_reducible refine And.intro ?_ ?_
      | (intro h; contradiction)
      | (intro h; subst h)
      | intro h
      | simp (maxSteps := 10000000) (implicitDefEqProofs := false) only [go_sem, boolV, Val.enc,  ↓reduceIte, reduceCtorEq, Nat.reduceAdd, Nat.reduceSub, Nat.reduceLeDiff, Nat.reduceEqDiff, Nat.reduceMul, Nat.reduceLT, Nat.reducePow, Int.reduceEq, Int.reduceLT, Int.reduceLE, Int.reduceGT, Int.reduceGE, Int.reduceAdd, Int.reduceSub, Int.reduceNeg, Int.reduceToNat])
  all_goals simp [*]
def rk (k n e : Int) : Int := if e ≠ 0 then 2 else if k = 0 then 1 else if n = 0 then 0 else 3
theorem calc_rankOf' (k n : Int) (s : ByteArray) (e : Int) : ACalls Tryz.prog 118 [oA k n s e] (.int .i64 (rk k n e)) := calc_rankOf ⟨⟨k, n, s⟩, e⟩
def notN (k n e : Int) : Int := if rk k n e = 3 ∨ rk k n e = 0 then IntKind.wrap .i64 (1 - n) else n
theorem calc_not (k n : Int) (s : ByteArray) (e : Int) : ACalls Tryz.prog 119 [oA k n s e] (oA k (notN k n e) s e) := by
  by_cases hr : rk k n e = 3 ∨ rk k n e = 0
  · rw [show notN k n e = IntKind.wrap .i64 (1 - n) from if_pos hr]
    refine acalls_k Tryz.func119 rfl (by kernel_rfl) (congrArg Array.toList Tryz.results119) Tryz.ntmps119 ?_
    intro R hR
    simp only [st0, List.length_cons, List.length_nil, Nat.reduceAdd, Nat.reduceSub, List.replicate_succ, List.replicate_zero, List.cons_append, List.nil_append]
    repeat' (first
        | (with_reducible refine a_seq_k ?_; intro K hK)
        | ((first | with_reducible refine a_region (by kernel_rfl) ?_ | (with_reducible refine a_draw mixed (by kernel_rfl) ?_; intro C hC) | (with_reducible refine a_cond_k ?_; intro X Y hX hY) | with_reducible refine RetOk.mk ?_ | with_reducible refine CallS.intro (calc_rankOf' _ _ _ _) ?_ | with_reducible refine CallD.intro (calc_rankOf' _ _ _ _) ?_); simp (maxSteps := 10000000) (implicitDefEqProofs := false) only [go_sem,  ↓reduceIte, reduceCtorEq, Nat.reduceAdd, Nat.reduceSub, Nat.reduceLeDiff, Nat.reduceEqDiff, Nat.reduceMul, Nat.reduceLT, Nat.reducePow, Int.reduceEq, Int.reduceLT, Int.reduceLE, Int.reduceGT, Int.reduceGE, Int.reduceAdd, Int.reduceSub, Int.reduceNeg, Int.reduceToNat])
        | with_reducible refine a_block ?_
        | with_reducible refine a_ret ?_
        | with_reducible refine a_exit ?_
        | with_reducible refine a_skip ?_
        | with_reducible exact ConfOk.mk (by kernel_rfl)
        | (with_reducible refine eqT_of (eq33 _ _ _ _ _ _) ?_; simp)
        | (with_reducible refine eqT_of (eq35 _ _ _ _ _ _ _ _) ?_; simp)
        | ((fail_if_success with_reducible show False); with_reducible apply_assumption (exfalso := false) (symm := false) only [*, rfl, trivial, congrArg])
        | with_reducible refine And.intro ?_ ?_
        | (intro h; contradiction)
        | (intro h; subst h)
        | intro h
        | simp (maxSteps := 10000000) (implicitDefEqProofs := false) only [go_sem,  ↓reduceIte, reduceCtorEq, Nat.reduceAdd, Nat.reduceSub, Nat.reduceLeDiff, Nat.reduceEqDiff, Nat.reduceMul, Nat.reduceLT, Nat.reducePow, Int.reduceEq, Int.reduceLT, Int.reduceLE, Int.reduceGT, Int.reduceGE, Int.reduceAdd, Int.reduceSub, Int.reduceNeg, Int.reduceToNat])
    · exact absurd hr (by omega)
  · rw [show notN k n e = n from if_neg hr]
    refine acalls_k Tryz.func119 rfl (by kernel_rfl) (congrArg Array.toList Tryz.results119) Tryz.ntmps119 ?_
    intro R hR
    simp only [st0, List.length_cons, List.length_nil, Nat.reduceAdd, Nat.reduceSub, List.replicate_succ, List.replicate_zero, List.cons_append, List.nil_append]
    repeat' (first
        | (with_reducible refine a_seq_k ?_; intro K hK)
        | ((first | with_reducible refine a_region (by kernel_rfl) ?_ | (with_reducible refine a_draw mixed (by kernel_rfl) ?_; intro C hC) | (with_reducible refine a_cond_k ?_; intro X Y hX hY) | with_reducible refine RetOk.mk ?_ | with_reducible refine CallS.intro (calc_rankOf' _ _ _ _) ?_ | with_reducible refine CallD.intro (calc_rankOf' _ _ _ _) ?_); simp (maxSteps := 10000000) (implicitDefEqProofs := false) only [go_sem,  ↓reduceIte, reduceCtorEq, Nat.reduceAdd, Nat.reduceSub, Nat.reduceLeDiff, Nat.reduceEqDiff, Nat.reduceMul, Nat.reduceLT, Nat.reducePow, Int.reduceEq, Int.reduceLT, Int.reduceLE, Int.reduceGT, Int.reduceGE, Int.reduceAdd, Int.reduceSub, Int.reduceNeg, Int.reduceToNat])
        | with_reducible refine a_block ?_
        | with_reducible refine a_ret ?_
        | with_reducible refine a_exit ?_
        | with_reducible refine a_skip ?_
        | with_reducible exact ConfOk.mk (by kernel_rfl)
        | (with_reducible refine eqT_of (eq33 _ _ _ _ _ _) ?_; simp)
        | (with_reducible refine eqT_of (eq35 _ _ _ _ _ _ _ _) ?_; simp)
        | ((fail_if_success with_reducible show False); with_reducible apply_assumption (exfalso := false) (symm := false) only [*, rfl, trivial, congrArg])
        | with_reducible refine And.intro ?_ ?_
        | (intro h; contradiction)
        | (intro h; subst h)
        | intro h
        | simp (maxSteps := 10000000) (implicitDefEqProofs := false) only [go_sem,  ↓reduceIte, reduceCtorEq, Nat.reduceAdd, Nat.reduceSub, Nat.reduceLeDiff, Nat.reduceEqDiff, Nat.reduceMul, Nat.reduceLT, Nat.reducePow, Int.reduceEq, Int.reduceLT, Int.reduceLE, Int.reduceGT, Int.reduceGE, Int.reduceAdd, Int.reduceSub, Int.reduceNeg, Int.reduceToNat])
    all_goals exact absurd (by omega) hr
end Go.Proofs.YtleadljchhkiiaaGreatDoor
end
end
