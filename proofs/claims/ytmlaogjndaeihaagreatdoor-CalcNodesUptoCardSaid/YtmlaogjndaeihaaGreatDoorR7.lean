/- The document's Node and Conds. -/
import Derived.Test.YtmlaogjndaeihaaGreatDoorR5
namespace Go.Proofs.YtmlaogjndaeihaaGreatDoor
open Go Go.Ab
attribute [local go_sem ↓] parts_tt parts_ff parts_tf parts_ft
attribute [local go_sem] parts_eq learnT aops_nil aops_cons aopsD_nil aopsD_cons stepS stepD gval St.learn skipR St.after putτ applyUpd List.foldl_cons List.foldl_nil pureOp memOp callOf litA closeO closeK List.flatMap_cons List.flatMap_nil Option.map_none decide_false opnd ofConst leaf binA unA lenA indexA indexAddrA fieldAddrA fieldA sliceA convertA pickV fillA placeS cellsA setA partA loadM storeM appendM srcEls lookBox lookRow lookMap closeL closeV scalarB scalarL killed buildEls lookupA leafEq eqAll resA resL tupA retA thenA blockA isInt loA hiA foldA maxA minA okSize leafB closedB Res.foot List.getD_cons_zero List.getD_cons_succ List.set_cons_zero List.set_cons_succ List.map_cons List.map_nil List.append_nil List.nil_append List.cons_append List.length_cons List.length_nil List.take_succ_cons List.take_zero List.drop_succ_cons List.drop_zero List.take_nil List.drop_nil List.all_cons List.all_nil List.getElem?_toArray List.getElem?_cons_zero List.getElem?_cons_succ Option.bind_some Option.map_some true_and and_true true_implies ne_eq not_true_eq_false not_false_eq_true Bool.true_eq_false Bool.false_eq_true Bool.not_true Bool.not_false decide_eq_true_eq decide_eq_false_iff_not false_implies implies_true and_self ite_true ite_false cond_true cond_false Option.some.injEq List.reverse_cons List.reverse_nil Bool.and_self Bool.true_and Bool.and_true Bool.false_and Bool.and_false Bool.or_true Bool.true_or Bool.or_false Bool.false_or Bool.not_eq_eq_eq_not Bool.not_not Bool.or_self beq_self_eq_true and_false false_and or_true true_or or_false false_or not_true not_false_iff Decidable.not_not lookT lookR tabT tabR Int.toNat_natCast List.length_map List.map_append List.length_append decide_true decide_false tmod2 List.mem_singleton forall_eq elOk1 elOk3 elOk4 castn0 castn1 castn2 castn3 getD_mid getD_mid_map at_lt at_end mid_lt mid_lt' nat_ge List.size_toArray Array.size_empty Nat.add_zero Nat.zero_add
attribute [local irreducible] ASpec ACalls retA ti EqT
set_option linter.unusedSimpArgs false
set_option maxHeartbeats 4000000
set_option maxRecDepth 100000
set_option linter.unusedVariables false
attribute [local go_sem] ti2 ti3 ti4 ti5 ti9 ti21 ti22 ti23 ti24 ti26 ti27 ti29 ti41 ti47 ti49 ti56 ti59 ti63 ti67 ti71 ti75 ti78 ti79 ti80 ti86 ti90 ti110
theorem ok_size {k n : Int} {s : ByteArray} (h : vOk k n s = true) : s.size ≤ 100 := by
  unfold vOk at h
  by_cases h0 : k = 0
  · rw [if_pos h0, Bool.and_eq_true, decide_eq_true_eq, decide_eq_true_eq] at h
    rw [h.2]; decide
  · rw [if_neg h0] at h
    by_cases h1 : k = 1
    · rw [if_pos h1, decide_eq_true_eq] at h
      rw [h]; decide
    · rw [if_neg h1] at h
      by_cases h2 : k = 2
      · rw [if_pos h2, Bool.and_eq_true, decide_eq_true_eq, decide_eq_true_eq] at h
        omega
      · rw [if_neg h2] at h
        by_cases h3 : k = 3
        · rw [if_pos h3, Bool.and_eq_true, decide_eq_true_eq (p := s = emp)] at h
          rw [h.2]; decide
        · rw [if_neg h3] at h; cases h
theorem failR_snoc (pre : List Outv) (x : Outv) : failR (pre ++ [x]) = leastE (failR pre) x.err := by simp [failR]
theorem takes3 {op : Int} {x : Val} (hop : op = 21 ∨ op = 22) (hi : ∀ o ∈ ([⟨x, 0⟩] : List Outv), o.In) (hB : strictB op [⟨x, 0⟩]) : x.kind = 0 ∨ x.kind = 3 := by
  obtain ⟨hg, hc⟩ := kind_gives hB.2.2.2.2.1 hB.2.2.2.2.2.1 hB.2.1
  have h0 : 0 ≤ x.kind := (hi ⟨x, 0⟩ (by simp)).1.1
  have ht : (sigOf op).1.takes = 3 := by rcases hop with rfl | rfl <;> rfl
  rw [ht, commonC_pos 3 (by omega) _ (by intro z hz; simp only [ksOf, List.map_cons, List.map_nil, List.mem_singleton] at hz; omega)] at hc
  simp only [ksOf, List.map_cons, List.map_nil, List.all_cons, List.all_nil, Bool.and_true, agree_iff] at hc
  omega
theorem bool_of {x : Val} (h : vOk x.kind x.int x.text = true) (h3 : x.kind = 3) : (x.int = 0 ∨ x.int = 1) ∧ x.text = emp := by
  obtain ⟨k, n, s⟩ := x
  simp only at h h3 ⊢
  subst h3
  simpa [vOk] using h
theorem ref_NodeQ (op : Int) (os : List Outv) (hi : ∀ o ∈ os, o.In) (hl : os.length < 2 ^ 40) (h : fitsR op os = false ∨ op = 23 ∨ op = 24 ∨ op = 25 ∨ op = 26) : ACalls Tryz.prog 4 [.int .u8 op, outs os] (.agg (nodeS op os).enc) := by
  have hF := ref_fits op os hl
  have hl2 : os.length < 2 ^ 62 := by omega
  by_cases hf : fitsR op os = true
  · have hG := hf
    rw [hf] at hF
    have hop := h.resolve_left (by rw [hf]; simp)
    rcases hop with h | h | h | h <;> subst h
    · have h1 := ref_chain os false (by omega)
      rw [node23 hi hl2 hG]
      generalize chainGo false false 0 os = r at h1
      simp only [Outv.enc] at h1
      refine acalls_k Tryz.func4 rfl (by kernel_rfl) (congrArg Array.toList Tryz.results4) Tryz.ntmps4 ?_
      intro R hR
      simp only [st0, List.length_cons, List.length_nil, Nat.reduceAdd, Nat.reduceSub, List.replicate_succ, List.replicate_zero, List.cons_append, List.nil_append]
      repeat' (first
          | (with_reducible refine a_seq_k ?_; intro K hK)
          | ((first | with_reducible refine a_region (by kernel_rfl) ?_ | (with_reducible refine a_draw mixed (by kernel_rfl) ?_; intro C hC) | (with_reducible refine a_cond_k ?_; intro X Y hX hY) | with_reducible refine RetOk.mk ?_ | with_reducible refine CallS.intro (hF) ?_ | with_reducible refine CallD.intro (hF) ?_ | with_reducible refine CallS.intro (h1) ?_ | with_reducible refine CallD.intro (h1) ?_); simp (maxSteps := 10000000) (implicitDefEqProofs := false) only [go_sem, Outv.enc,  ↓reduceIte, reduceCtorEq, Nat.reduceAdd, Nat.reduceSub, Nat.reduceLeDiff, Nat.reduceEqDiff, Nat.reduceMul, Nat.reduceLT, Nat.reducePow, Int.reduceEq, Int.reduceLT, Int.reduceLE, Int.reduceGT, Int.reduceGE, Int.reduceAdd, Int.reduceSub, Int.reduceNeg, Int.reduceToNat])
          | with_reducible refine a_block ?_
          | with_reducible refine a_ret ?_
          | with_reducible refine a_exit ?_
          | with_reducible refine a_skip ?_
          | with_reducible exact ConfOk.mk (by kernel_rfl)
          | (with_reducible refine eqT_of (eq33 _ _ _ _ _ _) ?_; simp)
          | (with_reducible refine eqT_of (eq35 _ _ _ _ _ _ _ _) ?_; simp)
          | ((fail_if_success with_reducible show False); with_reducible apply_assumption (exfalso := false) (symm := false) only [*, rfl, trivial, congrArg])
          | with_reducible refine And.intro ?_ ?_
          | (intro h; contradiction)
          | (intro h; subst h)
          | intro h
          | simp (maxSteps := 10000000) (implicitDefEqProofs := false) only [go_sem, Outv.enc,  ↓reduceIte, reduceCtorEq, Nat.reduceAdd, Nat.reduceSub, Nat.reduceLeDiff, Nat.reduceEqDiff, Nat.reduceMul, Nat.reduceLT, Nat.reducePow, Int.reduceEq, Int.reduceLT, Int.reduceLE, Int.reduceGT, Int.reduceGE, Int.reduceAdd, Int.reduceSub, Int.reduceNeg, Int.reduceToNat])
    · have h1 := ref_chain os true (by omega)
      rw [node24 hi hl2 hG]
      generalize chainGo true false 0 os = r at h1
      simp only [Outv.enc] at h1
      refine acalls_k Tryz.func4 rfl (by kernel_rfl) (congrArg Array.toList Tryz.results4) Tryz.ntmps4 ?_
      intro R hR
      simp only [st0, List.length_cons, List.length_nil, Nat.reduceAdd, Nat.reduceSub, List.replicate_succ, List.replicate_zero, List.cons_append, List.nil_append]
      repeat' (first
          | (with_reducible refine a_seq_k ?_; intro K hK)
          | ((first | with_reducible refine a_region (by kernel_rfl) ?_ | (with_reducible refine a_draw mixed (by kernel_rfl) ?_; intro C hC) | (with_reducible refine a_cond_k ?_; intro X Y hX hY) | with_reducible refine RetOk.mk ?_ | with_reducible refine CallS.intro (hF) ?_ | with_reducible refine CallD.intro (hF) ?_ | with_reducible refine CallS.intro (h1) ?_ | with_reducible refine CallD.intro (h1) ?_); simp (maxSteps := 10000000) (implicitDefEqProofs := false) only [go_sem, Outv.enc,  ↓reduceIte, reduceCtorEq, Nat.reduceAdd, Nat.reduceSub, Nat.reduceLeDiff, Nat.reduceEqDiff, Nat.reduceMul, Nat.reduceLT, Nat.reducePow, Int.reduceEq, Int.reduceLT, Int.reduceLE, Int.reduceGT, Int.reduceGE, Int.reduceAdd, Int.reduceSub, Int.reduceNeg, Int.reduceToNat])
          | with_reducible refine a_block ?_
          | with_reducible refine a_ret ?_
          | with_reducible refine a_exit ?_
          | with_reducible refine a_skip ?_
          | with_reducible exact ConfOk.mk (by kernel_rfl)
          | (with_reducible refine eqT_of (eq33 _ _ _ _ _ _) ?_; simp)
          | (with_reducible refine eqT_of (eq35 _ _ _ _ _ _ _ _) ?_; simp)
          | ((fail_if_success with_reducible show False); with_reducible apply_assumption (exfalso := false) (symm := false) only [*, rfl, trivial, congrArg])
          | with_reducible refine And.intro ?_ ?_
          | (intro h; contradiction)
          | (intro h; subst h)
          | intro h
          | simp (maxSteps := 10000000) (implicitDefEqProofs := false) only [go_sem, Outv.enc,  ↓reduceIte, reduceCtorEq, Nat.reduceAdd, Nat.reduceSub, Nat.reduceLeDiff, Nat.reduceEqDiff, Nat.reduceMul, Nat.reduceLT, Nat.reducePow, Int.reduceEq, Int.reduceLT, Int.reduceLE, Int.reduceGT, Int.reduceGE, Int.reduceAdd, Int.reduceSub, Int.reduceNeg, Int.reduceToNat])
    · have h1 := ref_choose os (by omega)
      rw [node25 hi hl2 hG]
      generalize chooseR os = r at h1
      simp only [Outv.enc] at h1
      refine acalls_k Tryz.func4 rfl (by kernel_rfl) (congrArg Array.toList Tryz.results4) Tryz.ntmps4 ?_
      intro R hR
      simp only [st0, List.length_cons, List.length_nil, Nat.reduceAdd, Nat.reduceSub, List.replicate_succ, List.replicate_zero, List.cons_append, List.nil_append]
      repeat' (first
          | (with_reducible refine a_seq_k ?_; intro K hK)
          | ((first | with_reducible refine a_region (by kernel_rfl) ?_ | (with_reducible refine a_draw mixed (by kernel_rfl) ?_; intro C hC) | (with_reducible refine a_cond_k ?_; intro X Y hX hY) | with_reducible refine RetOk.mk ?_ | with_reducible refine CallS.intro (hF) ?_ | with_reducible refine CallD.intro (hF) ?_ | with_reducible refine CallS.intro (h1) ?_ | with_reducible refine CallD.intro (h1) ?_); simp (maxSteps := 10000000) (implicitDefEqProofs := false) only [go_sem, Outv.enc,  ↓reduceIte, reduceCtorEq, Nat.reduceAdd, Nat.reduceSub, Nat.reduceLeDiff, Nat.reduceEqDiff, Nat.reduceMul, Nat.reduceLT, Nat.reducePow, Int.reduceEq, Int.reduceLT, Int.reduceLE, Int.reduceGT, Int.reduceGE, Int.reduceAdd, Int.reduceSub, Int.reduceNeg, Int.reduceToNat])
          | with_reducible refine a_block ?_
          | with_reducible refine a_ret ?_
          | with_reducible refine a_exit ?_
          | with_reducible refine a_skip ?_
          | with_reducible exact ConfOk.mk (by kernel_rfl)
          | (with_reducible refine eqT_of (eq33 _ _ _ _ _ _) ?_; simp)
          | (with_reducible refine eqT_of (eq35 _ _ _ _ _ _ _ _) ?_; simp)
          | ((fail_if_success with_reducible show False); with_reducible apply_assumption (exfalso := false) (symm := false) only [*, rfl, trivial, congrArg])
          | with_reducible refine And.intro ?_ ?_
          | (intro h; contradiction)
          | (intro h; subst h)
          | intro h
          | simp (maxSteps := 10000000) (implicitDefEqProofs := false) only [go_sem, Outv.enc,  ↓reduceIte, reduceCtorEq, Nat.reduceAdd, Nat.reduceSub, Nat.reduceLeDiff, Nat.reduceEqDiff, Nat.reduceMul, Nat.reduceLT, Nat.reducePow, Int.reduceEq, Int.reduceLT, Int.reduceLE, Int.reduceGT, Int.reduceGE, Int.reduceAdd, Int.reduceSub, Int.reduceNeg, Int.reduceToNat])
    · have h1 := ref_first os (by omega)
      rw [node26 hi hl2 hG]
      generalize firstR os = r at h1
      simp only [Outv.enc] at h1
      refine acalls_k Tryz.func4 rfl (by kernel_rfl) (congrArg Array.toList Tryz.results4) Tryz.ntmps4 ?_
      intro R hR
      simp only [st0, List.length_cons, List.length_nil, Nat.reduceAdd, Nat.reduceSub, List.replicate_succ, List.replicate_zero, List.cons_append, List.nil_append]
      repeat' (first
          | (with_reducible refine a_seq_k ?_; intro K hK)
          | ((first | with_reducible refine a_region (by kernel_rfl) ?_ | (with_reducible refine a_draw mixed (by kernel_rfl) ?_; intro C hC) | (with_reducible refine a_cond_k ?_; intro X Y hX hY) | with_reducible refine RetOk.mk ?_ | with_reducible refine CallS.intro (hF) ?_ | with_reducible refine CallD.intro (hF) ?_ | with_reducible refine CallS.intro (h1) ?_ | with_reducible refine CallD.intro (h1) ?_); simp (maxSteps := 10000000) (implicitDefEqProofs := false) only [go_sem, Outv.enc,  ↓reduceIte, reduceCtorEq, Nat.reduceAdd, Nat.reduceSub, Nat.reduceLeDiff, Nat.reduceEqDiff, Nat.reduceMul, Nat.reduceLT, Nat.reducePow, Int.reduceEq, Int.reduceLT, Int.reduceLE, Int.reduceGT, Int.reduceGE, Int.reduceAdd, Int.reduceSub, Int.reduceNeg, Int.reduceToNat])
          | with_reducible refine a_block ?_
          | with_reducible refine a_ret ?_
          | with_reducible refine a_exit ?_
          | with_reducible refine a_skip ?_
          | with_reducible exact ConfOk.mk (by kernel_rfl)
          | (with_reducible refine eqT_of (eq33 _ _ _ _ _ _) ?_; simp)
          | (with_reducible refine eqT_of (eq35 _ _ _ _ _ _ _ _) ?_; simp)
          | ((fail_if_success with_reducible show False); with_reducible apply_assumption (exfalso := false) (symm := false) only [*, rfl, trivial, congrArg])
          | with_reducible refine And.intro ?_ ?_
          | (intro h; contradiction)
          | (intro h; subst h)
          | intro h
          | simp (maxSteps := 10000000) (implicitDefEqProofs := false) only [go_sem, Outv.enc,  ↓reduceIte, reduceCtorEq, Nat.reduceAdd, Nat.reduceSub, Nat.reduceLeDiff, Nat.reduceEqDiff, Nat.reduceMul, Nat.reduceLT, Nat.reducePow, Int.reduceEq, Int.reduceLT, Int.reduceLE, Int.reduceGT, Int.reduceGE, Int.reduceAdd, Int.reduceSub, Int.reduceNeg, Int.reduceToNat])
  · have hb : fitsR op os = false := by simpa using hf
    rw [node_bad hi hl2 hb]
    rw [hb] at hF
    refine acalls_k Tryz.func4 rfl (by kernel_rfl) (congrArg Array.toList Tryz.results4) Tryz.ntmps4 ?_
    intro R hR
    simp only [st0, List.length_cons, List.length_nil, Nat.reduceAdd, Nat.reduceSub, List.replicate_succ, List.replicate_zero, List.cons_append, List.nil_append]
    repeat' (first
        | (with_reducible refine a_seq_k ?_; intro K hK)
        | ((first | with_reducible refine a_region (by kernel_rfl) ?_ | (with_reducible refine a_draw mixed (by kernel_rfl) ?_; intro C hC) | (with_reducible refine a_cond_k ?_; intro X Y hX hY) | with_reducible refine RetOk.mk ?_ | with_reducible refine CallS.intro (hF) ?_ | with_reducible refine CallD.intro (hF) ?_ | with_reducible refine CallS.intro (ref_Fail _) ?_ | with_reducible refine CallD.intro (ref_Fail _) ?_); simp (maxSteps := 10000000) (implicitDefEqProofs := false) only [go_sem, Outv.enc,  ↓reduceIte, reduceCtorEq, Nat.reduceAdd, Nat.reduceSub, Nat.reduceLeDiff, Nat.reduceEqDiff, Nat.reduceMul, Nat.reduceLT, Nat.reducePow, Int.reduceEq, Int.reduceLT, Int.reduceLE, Int.reduceGT, Int.reduceGE, Int.reduceAdd, Int.reduceSub, Int.reduceNeg, Int.reduceToNat])
        | with_reducible refine a_block ?_
        | with_reducible refine a_ret ?_
        | with_reducible refine a_exit ?_
        | with_reducible refine a_skip ?_
        | with_reducible exact ConfOk.mk (by kernel_rfl)
        | (with_reducible refine eqT_of (eq33 _ _ _ _ _ _) ?_; simp)
        | (with_reducible refine eqT_of (eq35 _ _ _ _ _ _ _ _) ?_; simp)
        | ((fail_if_success with_reducible show False); with_reducible apply_assumption (exfalso := false) (symm := false) only [*, rfl, trivial, congrArg])
        | with_reducible refine And.intro ?_ ?_
        | (intro h; contradiction)
        | (intro h; subst h)
        | intro h
        | simp (maxSteps := 10000000) (implicitDefEqProofs := false) only [go_sem, Outv.enc,  ↓reduceIte, reduceCtorEq, Nat.reduceAdd, Nat.reduceSub, Nat.reduceLeDiff, Nat.reduceEqDiff, Nat.reduceMul, Nat.reduceLT, Nat.reducePow, Int.reduceEq, Int.reduceLT, Int.reduceLE, Int.reduceGT, Int.reduceGE, Int.reduceAdd, Int.reduceSub, Int.reduceNeg, Int.reduceToNat])
theorem ref_NodeS (op : Int) (os : List Outv) (hi : ∀ o ∈ os, o.In) (hl : os.length < 2 ^ 40) (hf : fitsR op os = true) (n23 : op ≠ 23) (n24 : op ≠ 24) (n25 : op ≠ 25) (n26 : op ≠ 26) : ACalls Tryz.prog 4 [.int .u8 op, outs os] (.agg (nodeS op os).enc) := by
  have hF := ref_fits op os hl
  have hl2 : os.length < 2 ^ 62 := by omega
  have w0 : IntKind.i64.wrap 0 = 0 := rfl
  have w1 : IntKind.i64.wrap 1 = 1 := rfl
  rw [hf] at hF
  refine acalls_k Tryz.func4 rfl (by kernel_rfl) (congrArg Array.toList Tryz.results4) Tryz.ntmps4 ?_
  intro R hR
  simp only [st0, List.length_cons, List.length_nil, Nat.reduceAdd, Nat.reduceSub, List.replicate_succ, List.replicate_zero, List.cons_append, List.nil_append]
  repeat' (first
      | (with_reducible refine a_seq_k ?_; intro K hK)
      | ((first | with_reducible refine a_region (by kernel_rfl) ?_ | (with_reducible refine a_draw mixed (by kernel_rfl) ?_; intro C hC) | (with_reducible refine a_cond_k ?_; intro X Y hX hY) | with_reducible refine RetOk.mk ?_ | with_reducible refine CallS.intro (hF) ?_ | with_reducible refine CallD.intro (hF) ?_); simp (maxSteps := 10000000) (implicitDefEqProofs := false) only [go_sem, n23, n24, n25, n26,  ↓reduceIte, reduceCtorEq, Nat.reduceAdd, Nat.reduceSub, Nat.reduceLeDiff, Nat.reduceEqDiff, Nat.reduceMul, Nat.reduceLT, Nat.reducePow, Int.reduceEq, Int.reduceLT, Int.reduceLE, Int.reduceGT, Int.reduceGE, Int.reduceAdd, Int.reduceSub, Int.reduceNeg, Int.reduceToNat])
      | with_reducible refine a_block ?_
      | with_reducible refine a_ret ?_
      | with_reducible refine a_exit ?_
      | with_reducible refine a_skip ?_
      | with_reducible exact ConfOk.mk (by kernel_rfl)
      | (with_reducible refine eqT_of (eq33 _ _ _ _ _ _) ?_; simp)
      | (with_reducible refine eqT_of (eq35 _ _ _ _ _ _ _ _) ?_; simp)
      | ((fail_if_success with_reducible show False); with_reducible apply_assumption (exfalso := false) (symm := false) only [*, rfl, trivial, congrArg])
      | with_reducible refine And.intro ?_ ?_
      | (intro h; contradiction)
      | (intro h; subst h)
      | intro h
      | simp (maxSteps := 10000000) (implicitDefEqProofs := false) only [go_sem, n23, n24, n25, n26,  ↓reduceIte, reduceCtorEq, Nat.reduceAdd, Nat.reduceSub, Nat.reduceLeDiff, Nat.reduceEqDiff, Nat.reduceMul, Nat.reduceLT, Nat.reducePow, Int.reduceEq, Int.reduceLT, Int.reduceLE, Int.reduceGT, Int.reduceGE, Int.reduceAdd, Int.reduceSub, Int.reduceNeg, Int.reduceToNat])
  refine a_loop_k (fun n st => ∃ (g : Nat) (pre rest : List _) (p : Bool × Int), os = pre ++ rest ∧ n = rest.length ∧ (p.1 = pre.any nullB ∧ p.2 = failR pre) ∧ Has st 84 [(0, .int .u8 op), (1, .slice (os.map Outv.enc)), (4, .ptr 4 0 0), (5, .int .i64 p.2), (6, .bool p.1), (7, .int .i64 pre.length)] [(4, .box 0 [.int .u8 0, .int .i64 0, .str ⟨#[]⟩, .int .i64 0])]) (os).length ⟨0, [], os, (false, 0), rfl, rfl, ⟨rfl, rfl⟩, ⟨rfl, rfl, by simp [kd, Outv.enc, Val.enc], by simp [kd, Outv.enc, Val.enc]⟩⟩ ?_
  rintro n st ⟨g, pre, rest, p, he, rfl, hp, hs⟩ K hK
  have hw := wrap_nat pre.length (by have := congrArg List.length he; simp at this; omega)
  subst he
  refine a_has hs fun τ σ γ => ?_
  rcases rest with _ | ⟨x, rest⟩
  · obtain ⟨nul, e⟩ := p
    obtain ⟨p1, p2⟩ := hp
    simp only at p1 p2
    simp only [List.append_nil] at hi hl hl2 hf hF hR hs ⊢
    by_cases hz : failR pre = 0
    · obtain ⟨hB, hN⟩ := node_strict hi hl2 hf n23 n24 n25 n26 hz
      have hok := ok_all hi hB.1
      rw [hz] at p2
      subst p2
      rcases strict_shape hB with ⟨x, rfl, ho⟩ | ⟨x, y, rfl, ho⟩
      · have hn : nul = decide (x.kind = 0) := by rw [p1]; simp [nullB]
        have hk : ((ksOf [(⟨x, 0⟩ : Outv)]).any fun z => decide (0 = z)) = decide (x.kind = 0) := by simp [ksOf, eq_comm]
        rw [hk, ← hn] at hN
        change nodeS op [⟨x, 0⟩] = strictO op x x nul at hN
        have vx : vOk x.kind x.int x.text = true := ok_val (hok ⟨x, 0⟩ (by simp))
        have sx := ok_size vx
        have ix : In64 x.int := (hi ⟨x, 0⟩ (by simp)).1.2.1
        rcases ho with h | h | h | h | h <;> subst h
        · cases nul
          · have h1 := ref_strict4 x ix
            generalize strictO 4 x x false = r at hN h1
            simp only [outs, Outv.enc, List.map_cons, List.map_nil] at h1
            repeat' (first
                | (with_reducible refine a_seq_k ?_; intro K hK)
                | ((first | with_reducible refine a_region (by kernel_rfl) ?_ | (with_reducible refine a_draw mixed (by kernel_rfl) ?_; intro C hC) | (with_reducible refine a_cond_k ?_; intro X Y hX hY) | with_reducible refine RetOk.mk ?_ | with_reducible refine CallS.intro (h1) ?_ | with_reducible refine CallD.intro (h1) ?_); simp (maxSteps := 10000000) (implicitDefEqProofs := false) only [go_sem, Outv.enc, hN, hw, w0, w1,  ↓reduceIte, reduceCtorEq, Nat.reduceAdd, Nat.reduceSub, Nat.reduceLeDiff, Nat.reduceEqDiff, Nat.reduceMul, Nat.reduceLT, Nat.reducePow, Int.reduceEq, Int.reduceLT, Int.reduceLE, Int.reduceGT, Int.reduceGE, Int.reduceAdd, Int.reduceSub, Int.reduceNeg, Int.reduceToNat])
                | with_reducible refine a_block ?_
                | with_reducible refine a_ret ?_
                | with_reducible refine a_exit ?_
                | with_reducible refine a_skip ?_
                | with_reducible exact ConfOk.mk (by kernel_rfl)
                | (with_reducible refine eqT_of (eq33 _ _ _ _ _ _) ?_; simp)
                | (with_reducible refine eqT_of (eq35 _ _ _ _ _ _ _ _) ?_; simp)
                | ((fail_if_success with_reducible show False); with_reducible apply_assumption (exfalso := false) (symm := false) only [*, rfl, trivial, congrArg])
                | with_reducible refine And.intro ?_ ?_
                | (intro h; contradiction)
                | (intro h; subst h)
                | intro h
                | simp (maxSteps := 10000000) (implicitDefEqProofs := false) only [go_sem, Outv.enc, hN, hw, w0, w1,  ↓reduceIte, reduceCtorEq, Nat.reduceAdd, Nat.reduceSub, Nat.reduceLeDiff, Nat.reduceEqDiff, Nat.reduceMul, Nat.reduceLT, Nat.reducePow, Int.reduceEq, Int.reduceLT, Int.reduceLE, Int.reduceGT, Int.reduceGE, Int.reduceAdd, Int.reduceSub, Int.reduceNeg, Int.reduceToNat])
          · rw [show strictO 4 x x true = nullO from rfl] at hN
            repeat' (first
                | (with_reducible refine a_seq_k ?_; intro K hK)
                | ((first | with_reducible refine a_region (by kernel_rfl) ?_ | (with_reducible refine a_draw mixed (by kernel_rfl) ?_; intro C hC) | (with_reducible refine a_cond_k ?_; intro X Y hX hY) | with_reducible refine RetOk.mk ?_); simp (maxSteps := 10000000) (implicitDefEqProofs := false) only [go_sem, Outv.enc, hN, hw, w0, w1,  ↓reduceIte, reduceCtorEq, Nat.reduceAdd, Nat.reduceSub, Nat.reduceLeDiff, Nat.reduceEqDiff, Nat.reduceMul, Nat.reduceLT, Nat.reducePow, Int.reduceEq, Int.reduceLT, Int.reduceLE, Int.reduceGT, Int.reduceGE, Int.reduceAdd, Int.reduceSub, Int.reduceNeg, Int.reduceToNat])
                | with_reducible refine a_block ?_
                | with_reducible refine a_ret ?_
                | with_reducible refine a_exit ?_
                | with_reducible refine a_skip ?_
                | with_reducible exact ConfOk.mk (by kernel_rfl)
                | (with_reducible refine eqT_of (eq33 _ _ _ _ _ _) ?_; simp)
                | (with_reducible refine eqT_of (eq35 _ _ _ _ _ _ _ _) ?_; simp)
                | ((fail_if_success with_reducible show False); with_reducible apply_assumption (exfalso := false) (symm := false) only [*, rfl, trivial, congrArg])
                | with_reducible refine And.intro ?_ ?_
                | (intro h; contradiction)
                | (intro h; subst h)
                | intro h
                | simp (maxSteps := 10000000) (implicitDefEqProofs := false) only [go_sem, Outv.enc, hN, hw, w0, w1,  ↓reduceIte, reduceCtorEq, Nat.reduceAdd, Nat.reduceSub, Nat.reduceLeDiff, Nat.reduceEqDiff, Nat.reduceMul, Nat.reduceLT, Nat.reducePow, Int.reduceEq, Int.reduceLT, Int.reduceLE, Int.reduceGT, Int.reduceGE, Int.reduceAdd, Int.reduceSub, Int.reduceNeg, Int.reduceToNat])
        · cases nul
          · have h1 := ref_strict11 x (by omega)
            generalize strictO 11 x x false = r at hN h1
            simp only [outs, Outv.enc, List.map_cons, List.map_nil] at h1
            repeat' (first
                | (with_reducible refine a_seq_k ?_; intro K hK)
                | ((first | with_reducible refine a_region (by kernel_rfl) ?_ | (with_reducible refine a_draw mixed (by kernel_rfl) ?_; intro C hC) | (with_reducible refine a_cond_k ?_; intro X Y hX hY) | with_reducible refine RetOk.mk ?_ | with_reducible refine CallS.intro (h1) ?_ | with_reducible refine CallD.intro (h1) ?_); simp (maxSteps := 10000000) (implicitDefEqProofs := false) only [go_sem, Outv.enc, hN, hw, w0, w1,  ↓reduceIte, reduceCtorEq, Nat.reduceAdd, Nat.reduceSub, Nat.reduceLeDiff, Nat.reduceEqDiff, Nat.reduceMul, Nat.reduceLT, Nat.reducePow, Int.reduceEq, Int.reduceLT, Int.reduceLE, Int.reduceGT, Int.reduceGE, Int.reduceAdd, Int.reduceSub, Int.reduceNeg, Int.reduceToNat])
                | with_reducible refine a_block ?_
                | with_reducible refine a_ret ?_
                | with_reducible refine a_exit ?_
                | with_reducible refine a_skip ?_
                | with_reducible exact ConfOk.mk (by kernel_rfl)
                | (with_reducible refine eqT_of (eq33 _ _ _ _ _ _) ?_; simp)
                | (with_reducible refine eqT_of (eq35 _ _ _ _ _ _ _ _) ?_; simp)
                | ((fail_if_success with_reducible show False); with_reducible apply_assumption (exfalso := false) (symm := false) only [*, rfl, trivial, congrArg])
                | with_reducible refine And.intro ?_ ?_
                | (intro h; contradiction)
                | (intro h; subst h)
                | intro h
                | simp (maxSteps := 10000000) (implicitDefEqProofs := false) only [go_sem, Outv.enc, hN, hw, w0, w1,  ↓reduceIte, reduceCtorEq, Nat.reduceAdd, Nat.reduceSub, Nat.reduceLeDiff, Nat.reduceEqDiff, Nat.reduceMul, Nat.reduceLT, Nat.reducePow, Int.reduceEq, Int.reduceLT, Int.reduceLE, Int.reduceGT, Int.reduceGE, Int.reduceAdd, Int.reduceSub, Int.reduceNeg, Int.reduceToNat])
          · rw [show strictO 11 x x true = nullO from rfl] at hN
            repeat' (first
                | (with_reducible refine a_seq_k ?_; intro K hK)
                | ((first | with_reducible refine a_region (by kernel_rfl) ?_ | (with_reducible refine a_draw mixed (by kernel_rfl) ?_; intro C hC) | (with_reducible refine a_cond_k ?_; intro X Y hX hY) | with_reducible refine RetOk.mk ?_); simp (maxSteps := 10000000) (implicitDefEqProofs := false) only [go_sem, Outv.enc, hN, hw, w0, w1,  ↓reduceIte, reduceCtorEq, Nat.reduceAdd, Nat.reduceSub, Nat.reduceLeDiff, Nat.reduceEqDiff, Nat.reduceMul, Nat.reduceLT, Nat.reducePow, Int.reduceEq, Int.reduceLT, Int.reduceLE, Int.reduceGT, Int.reduceGE, Int.reduceAdd, Int.reduceSub, Int.reduceNeg, Int.reduceToNat])
                | with_reducible refine a_block ?_
                | with_reducible refine a_ret ?_
                | with_reducible refine a_exit ?_
                | with_reducible refine a_skip ?_
                | with_reducible exact ConfOk.mk (by kernel_rfl)
                | (with_reducible refine eqT_of (eq33 _ _ _ _ _ _) ?_; simp)
                | (with_reducible refine eqT_of (eq35 _ _ _ _ _ _ _ _) ?_; simp)
                | ((fail_if_success with_reducible show False); with_reducible apply_assumption (exfalso := false) (symm := false) only [*, rfl, trivial, congrArg])
                | with_reducible refine And.intro ?_ ?_
                | (intro h; contradiction)
                | (intro h; subst h)
                | intro h
                | simp (maxSteps := 10000000) (implicitDefEqProofs := false) only [go_sem, Outv.enc, hN, hw, w0, w1,  ↓reduceIte, reduceCtorEq, Nat.reduceAdd, Nat.reduceSub, Nat.reduceLeDiff, Nat.reduceEqDiff, Nat.reduceMul, Nat.reduceLT, Nat.reducePow, Int.reduceEq, Int.reduceLT, Int.reduceLE, Int.reduceGT, Int.reduceGE, Int.reduceAdd, Int.reduceSub, Int.reduceNeg, Int.reduceToNat])
        · rw [show strictO 20 x x nul = boolO nul from rfl] at hN
          repeat' (first
              | (with_reducible refine a_seq_k ?_; intro K hK)
              | ((first | with_reducible refine a_region (by kernel_rfl) ?_ | (with_reducible refine a_draw mixed (by kernel_rfl) ?_; intro C hC) | (with_reducible refine a_cond_k ?_; intro X Y hX hY) | with_reducible refine RetOk.mk ?_ | with_reducible refine CallS.intro (ref_oBool _) ?_ | with_reducible refine CallD.intro (ref_oBool _) ?_); simp (maxSteps := 10000000) (implicitDefEqProofs := false) only [go_sem, Outv.enc, hN, hw, w0, w1,  ↓reduceIte, reduceCtorEq, Nat.reduceAdd, Nat.reduceSub, Nat.reduceLeDiff, Nat.reduceEqDiff, Nat.reduceMul, Nat.reduceLT, Nat.reducePow, Int.reduceEq, Int.reduceLT, Int.reduceLE, Int.reduceGT, Int.reduceGE, Int.reduceAdd, Int.reduceSub, Int.reduceNeg, Int.reduceToNat])
              | with_reducible refine a_block ?_
              | with_reducible refine a_ret ?_
              | with_reducible refine a_exit ?_
              | with_reducible refine a_skip ?_
              | with_reducible exact ConfOk.mk (by kernel_rfl)
              | (with_reducible refine eqT_of (eq33 _ _ _ _ _ _) ?_; simp)
              | (with_reducible refine eqT_of (eq35 _ _ _ _ _ _ _ _) ?_; simp)
              | ((fail_if_success with_reducible show False); with_reducible apply_assumption (exfalso := false) (symm := false) only [*, rfl, trivial, congrArg])
              | with_reducible refine And.intro ?_ ?_
              | (intro h; contradiction)
              | (intro h; subst h)
              | intro h
              | simp (maxSteps := 10000000) (implicitDefEqProofs := false) only [go_sem, Outv.enc, hN, hw, w0, w1,  ↓reduceIte, reduceCtorEq, Nat.reduceAdd, Nat.reduceSub, Nat.reduceLeDiff, Nat.reduceEqDiff, Nat.reduceMul, Nat.reduceLT, Nat.reducePow, Int.reduceEq, Int.reduceLT, Int.reduceLE, Int.reduceGT, Int.reduceGE, Int.reduceAdd, Int.reduceSub, Int.reduceNeg, Int.reduceToNat])
        · have h3 := takes3 (.inl rfl) hi hB
          have ht := true_rk (hok ⟨x, 0⟩ (by simp)) h3
          rw [show strictO 21 x x nul = boolO (decide (Outv.rk ⟨x, 0⟩ = 3)) from rfl, ← ht] at hN
          unfold trueB at hN
          repeat' (first
              | (with_reducible refine a_seq_k ?_; intro K hK)
              | ((first | with_reducible refine a_region (by kernel_rfl) ?_ | (with_reducible refine a_draw mixed (by kernel_rfl) ?_; intro C hC) | (with_reducible refine a_cond_k ?_; intro X Y hX hY) | with_reducible refine RetOk.mk ?_ | with_reducible refine CallS.intro (ref_isTrue _ _ _ _) ?_ | with_reducible refine CallD.intro (ref_isTrue _ _ _ _) ?_ | with_reducible refine CallS.intro (ref_oBool _) ?_ | with_reducible refine CallD.intro (ref_oBool _) ?_); simp (maxSteps := 10000000) (implicitDefEqProofs := false) only [go_sem, Outv.enc, hN, hw, w0, w1,  ↓reduceIte, reduceCtorEq, Nat.reduceAdd, Nat.reduceSub, Nat.reduceLeDiff, Nat.reduceEqDiff, Nat.reduceMul, Nat.reduceLT, Nat.reducePow, Int.reduceEq, Int.reduceLT, Int.reduceLE, Int.reduceGT, Int.reduceGE, Int.reduceAdd, Int.reduceSub, Int.reduceNeg, Int.reduceToNat])
              | with_reducible refine a_block ?_
              | with_reducible refine a_ret ?_
              | with_reducible refine a_exit ?_
              | with_reducible refine a_skip ?_
              | with_reducible exact ConfOk.mk (by kernel_rfl)
              | (with_reducible refine eqT_of (eq33 _ _ _ _ _ _) ?_; simp)
              | (with_reducible refine eqT_of (eq35 _ _ _ _ _ _ _ _) ?_; simp)
              | ((fail_if_success with_reducible show False); with_reducible apply_assumption (exfalso := false) (symm := false) only [*, rfl, trivial, congrArg])
              | with_reducible refine And.intro ?_ ?_
              | (intro h; contradiction)
              | (intro h; subst h)
              | intro h
              | simp (maxSteps := 10000000) (implicitDefEqProofs := false) only [go_sem, Outv.enc, hN, hw, w0, w1,  ↓reduceIte, reduceCtorEq, Nat.reduceAdd, Nat.reduceSub, Nat.reduceLeDiff, Nat.reduceEqDiff, Nat.reduceMul, Nat.reduceLT, Nat.reducePow, Int.reduceEq, Int.reduceLT, Int.reduceLE, Int.reduceGT, Int.reduceGE, Int.reduceAdd, Int.reduceSub, Int.reduceNeg, Int.reduceToNat])
        · have h3 := takes3 (.inr rfl) hi hB
          cases nul
          · have h3 : x.kind = 3 := by
              have : ¬ x.kind = 0 := by simpa using hn.symm
              omega
            have hb := bool_of vx h3
            have h1 := ref_strict22 x h3 hb.1 hb.2
            generalize strictO 22 x x false = r at hN h1
            simp only [outs, Outv.enc, List.map_cons, List.map_nil] at h1
            repeat' (first
                | (with_reducible refine a_seq_k ?_; intro K hK)
                | ((first | with_reducible refine a_region (by kernel_rfl) ?_ | (with_reducible refine a_draw mixed (by kernel_rfl) ?_; intro C hC) | (with_reducible refine a_cond_k ?_; intro X Y hX hY) | with_reducible refine RetOk.mk ?_ | with_reducible refine CallS.intro (h1) ?_ | with_reducible refine CallD.intro (h1) ?_); simp (maxSteps := 10000000) (implicitDefEqProofs := false) only [go_sem, Outv.enc, hN, hw, w0, w1,  ↓reduceIte, reduceCtorEq, Nat.reduceAdd, Nat.reduceSub, Nat.reduceLeDiff, Nat.reduceEqDiff, Nat.reduceMul, Nat.reduceLT, Nat.reducePow, Int.reduceEq, Int.reduceLT, Int.reduceLE, Int.reduceGT, Int.reduceGE, Int.reduceAdd, Int.reduceSub, Int.reduceNeg, Int.reduceToNat])
                | with_reducible refine a_block ?_
                | with_reducible refine a_ret ?_
                | with_reducible refine a_exit ?_
                | with_reducible refine a_skip ?_
                | with_reducible exact ConfOk.mk (by kernel_rfl)
                | (with_reducible refine eqT_of (eq33 _ _ _ _ _ _) ?_; simp)
                | (with_reducible refine eqT_of (eq35 _ _ _ _ _ _ _ _) ?_; simp)
                | ((fail_if_success with_reducible show False); with_reducible apply_assumption (exfalso := false) (symm := false) only [*, rfl, trivial, congrArg])
                | with_reducible refine And.intro ?_ ?_
                | (intro h; contradiction)
                | (intro h; subst h)
                | intro h
                | simp (maxSteps := 10000000) (implicitDefEqProofs := false) only [go_sem, Outv.enc, hN, hw, w0, w1,  ↓reduceIte, reduceCtorEq, Nat.reduceAdd, Nat.reduceSub, Nat.reduceLeDiff, Nat.reduceEqDiff, Nat.reduceMul, Nat.reduceLT, Nat.reducePow, Int.reduceEq, Int.reduceLT, Int.reduceLE, Int.reduceGT, Int.reduceGE, Int.reduceAdd, Int.reduceSub, Int.reduceNeg, Int.reduceToNat])
          · rw [show strictO 22 x x true = nullO from rfl] at hN
            repeat' (first
                | (with_reducible refine a_seq_k ?_; intro K hK)
                | ((first | with_reducible refine a_region (by kernel_rfl) ?_ | (with_reducible refine a_draw mixed (by kernel_rfl) ?_; intro C hC) | (with_reducible refine a_cond_k ?_; intro X Y hX hY) | with_reducible refine RetOk.mk ?_); simp (maxSteps := 10000000) (implicitDefEqProofs := false) only [go_sem, Outv.enc, hN, hw, w0, w1,  ↓reduceIte, reduceCtorEq, Nat.reduceAdd, Nat.reduceSub, Nat.reduceLeDiff, Nat.reduceEqDiff, Nat.reduceMul, Nat.reduceLT, Nat.reducePow, Int.reduceEq, Int.reduceLT, Int.reduceLE, Int.reduceGT, Int.reduceGE, Int.reduceAdd, Int.reduceSub, Int.reduceNeg, Int.reduceToNat])
                | with_reducible refine a_block ?_
                | with_reducible refine a_ret ?_
                | with_reducible refine a_exit ?_
                | with_reducible refine a_skip ?_
                | with_reducible exact ConfOk.mk (by kernel_rfl)
                | (with_reducible refine eqT_of (eq33 _ _ _ _ _ _) ?_; simp)
                | (with_reducible refine eqT_of (eq35 _ _ _ _ _ _ _ _) ?_; simp)
                | ((fail_if_success with_reducible show False); with_reducible apply_assumption (exfalso := false) (symm := false) only [*, rfl, trivial, congrArg])
                | with_reducible refine And.intro ?_ ?_
                | (intro h; contradiction)
                | (intro h; subst h)
                | intro h
                | simp (maxSteps := 10000000) (implicitDefEqProofs := false) only [go_sem, Outv.enc, hN, hw, w0, w1,  ↓reduceIte, reduceCtorEq, Nat.reduceAdd, Nat.reduceSub, Nat.reduceLeDiff, Nat.reduceEqDiff, Nat.reduceMul, Nat.reduceLT, Nat.reducePow, Int.reduceEq, Int.reduceLT, Int.reduceLE, Int.reduceGT, Int.reduceGE, Int.reduceAdd, Int.reduceSub, Int.reduceNeg, Int.reduceToNat])
      · have hn : nul = (decide (x.kind = 0) || decide (y.kind = 0)) := by rw [p1]; simp [nullB]
        have hk : ((ksOf [(⟨x, 0⟩ : Outv), ⟨y, 0⟩]).any fun z => decide (0 = z)) = (decide (x.kind = 0) || decide (y.kind = 0)) := by simp [ksOf, eq_comm]
        rw [hk, ← hn] at hN
        change nodeS op [⟨x, 0⟩, ⟨y, 0⟩] = strictO op x y nul at hN
        have vx : vOk x.kind x.int x.text = true := ok_val (hok ⟨x, 0⟩ (by simp))
        have vy : vOk y.kind y.int y.text = true := ok_val (hok ⟨y, 0⟩ (by simp))
        have sx := ok_size vx
        have sy := ok_size vy
        have kx := vOk_kind vx
        have ky := vOk_kind vy
        have ix : In64 x.int := (hi ⟨x, 0⟩ (by simp)).1.2.1
        have iy : In64 y.int := (hi ⟨y, 0⟩ (by simp)).1.2.1
        rcases ho with h | h | h | h | h | h | h | h | h | h | h | h | h | h <;> subst h
        · cases nul
          · have h1 := ref_strict5 x y ix iy
            generalize strictO 5 x y false = r at hN h1
            simp only [outs, Outv.enc, List.map_cons, List.map_nil] at h1
            repeat' (first
                | (with_reducible refine a_seq_k ?_; intro K hK)
                | ((first | with_reducible refine a_region (by kernel_rfl) ?_ | (with_reducible refine a_draw mixed (by kernel_rfl) ?_; intro C hC) | (with_reducible refine a_cond_k ?_; intro X Y hX hY) | with_reducible refine RetOk.mk ?_ | with_reducible refine CallS.intro (h1) ?_ | with_reducible refine CallD.intro (h1) ?_); simp (maxSteps := 10000000) (implicitDefEqProofs := false) only [go_sem, Outv.enc, hN, hw, w0, w1,  ↓reduceIte, reduceCtorEq, Nat.reduceAdd, Nat.reduceSub, Nat.reduceLeDiff, Nat.reduceEqDiff, Nat.reduceMul, Nat.reduceLT, Nat.reducePow, Int.reduceEq, Int.reduceLT, Int.reduceLE, Int.reduceGT, Int.reduceGE, Int.reduceAdd, Int.reduceSub, Int.reduceNeg, Int.reduceToNat])
                | with_reducible refine a_block ?_
                | with_reducible refine a_ret ?_
                | with_reducible refine a_exit ?_
                | with_reducible refine a_skip ?_
                | with_reducible exact ConfOk.mk (by kernel_rfl)
                | (with_reducible refine eqT_of (eq33 _ _ _ _ _ _) ?_; simp)
                | (with_reducible refine eqT_of (eq35 _ _ _ _ _ _ _ _) ?_; simp)
                | ((fail_if_success with_reducible show False); with_reducible apply_assumption (exfalso := false) (symm := false) only [*, rfl, trivial, congrArg])
                | with_reducible refine And.intro ?_ ?_
                | (intro h; contradiction)
                | (intro h; subst h)
                | intro h
                | simp (maxSteps := 10000000) (implicitDefEqProofs := false) only [go_sem, Outv.enc, hN, hw, w0, w1,  ↓reduceIte, reduceCtorEq, Nat.reduceAdd, Nat.reduceSub, Nat.reduceLeDiff, Nat.reduceEqDiff, Nat.reduceMul, Nat.reduceLT, Nat.reducePow, Int.reduceEq, Int.reduceLT, Int.reduceLE, Int.reduceGT, Int.reduceGE, Int.reduceAdd, Int.reduceSub, Int.reduceNeg, Int.reduceToNat])
          · rw [show strictO 5 x y true = nullO from rfl] at hN
            repeat' (first
                | (with_reducible refine a_seq_k ?_; intro K hK)
                | ((first | with_reducible refine a_region (by kernel_rfl) ?_ | (with_reducible refine a_draw mixed (by kernel_rfl) ?_; intro C hC) | (with_reducible refine a_cond_k ?_; intro X Y hX hY) | with_reducible refine RetOk.mk ?_); simp (maxSteps := 10000000) (implicitDefEqProofs := false) only [go_sem, Outv.enc, hN, hw, w0, w1,  ↓reduceIte, reduceCtorEq, Nat.reduceAdd, Nat.reduceSub, Nat.reduceLeDiff, Nat.reduceEqDiff, Nat.reduceMul, Nat.reduceLT, Nat.reducePow, Int.reduceEq, Int.reduceLT, Int.reduceLE, Int.reduceGT, Int.reduceGE, Int.reduceAdd, Int.reduceSub, Int.reduceNeg, Int.reduceToNat])
                | with_reducible refine a_block ?_
                | with_reducible refine a_ret ?_
                | with_reducible refine a_exit ?_
                | with_reducible refine a_skip ?_
                | with_reducible exact ConfOk.mk (by kernel_rfl)
                | (with_reducible refine eqT_of (eq33 _ _ _ _ _ _) ?_; simp)
                | (with_reducible refine eqT_of (eq35 _ _ _ _ _ _ _ _) ?_; simp)
                | ((fail_if_success with_reducible show False); with_reducible apply_assumption (exfalso := false) (symm := false) only [*, rfl, trivial, congrArg])
                | with_reducible refine And.intro ?_ ?_
                | (intro h; contradiction)
                | (intro h; subst h)
                | intro h
                | simp (maxSteps := 10000000) (implicitDefEqProofs := false) only [go_sem, Outv.enc, hN, hw, w0, w1,  ↓reduceIte, reduceCtorEq, Nat.reduceAdd, Nat.reduceSub, Nat.reduceLeDiff, Nat.reduceEqDiff, Nat.reduceMul, Nat.reduceLT, Nat.reducePow, Int.reduceEq, Int.reduceLT, Int.reduceLE, Int.reduceGT, Int.reduceGE, Int.reduceAdd, Int.reduceSub, Int.reduceNeg, Int.reduceToNat])
        · cases nul
          · have h1 := ref_strict6 x y ix iy
            generalize strictO 6 x y false = r at hN h1
            simp only [outs, Outv.enc, List.map_cons, List.map_nil] at h1
            repeat' (first
                | (with_reducible refine a_seq_k ?_; intro K hK)
                | ((first | with_reducible refine a_region (by kernel_rfl) ?_ | (with_reducible refine a_draw mixed (by kernel_rfl) ?_; intro C hC) | (with_reducible refine a_cond_k ?_; intro X Y hX hY) | with_reducible refine RetOk.mk ?_ | with_reducible refine CallS.intro (h1) ?_ | with_reducible refine CallD.intro (h1) ?_); simp (maxSteps := 10000000) (implicitDefEqProofs := false) only [go_sem, Outv.enc, hN, hw, w0, w1,  ↓reduceIte, reduceCtorEq, Nat.reduceAdd, Nat.reduceSub, Nat.reduceLeDiff, Nat.reduceEqDiff, Nat.reduceMul, Nat.reduceLT, Nat.reducePow, Int.reduceEq, Int.reduceLT, Int.reduceLE, Int.reduceGT, Int.reduceGE, Int.reduceAdd, Int.reduceSub, Int.reduceNeg, Int.reduceToNat])
                | with_reducible refine a_block ?_
                | with_reducible refine a_ret ?_
                | with_reducible refine a_exit ?_
                | with_reducible refine a_skip ?_
                | with_reducible exact ConfOk.mk (by kernel_rfl)
                | (with_reducible refine eqT_of (eq33 _ _ _ _ _ _) ?_; simp)
                | (with_reducible refine eqT_of (eq35 _ _ _ _ _ _ _ _) ?_; simp)
                | ((fail_if_success with_reducible show False); with_reducible apply_assumption (exfalso := false) (symm := false) only [*, rfl, trivial, congrArg])
                | with_reducible refine And.intro ?_ ?_
                | (intro h; contradiction)
                | (intro h; subst h)
                | intro h
                | simp (maxSteps := 10000000) (implicitDefEqProofs := false) only [go_sem, Outv.enc, hN, hw, w0, w1,  ↓reduceIte, reduceCtorEq, Nat.reduceAdd, Nat.reduceSub, Nat.reduceLeDiff, Nat.reduceEqDiff, Nat.reduceMul, Nat.reduceLT, Nat.reducePow, Int.reduceEq, Int.reduceLT, Int.reduceLE, Int.reduceGT, Int.reduceGE, Int.reduceAdd, Int.reduceSub, Int.reduceNeg, Int.reduceToNat])
          · rw [show strictO 6 x y true = nullO from rfl] at hN
            repeat' (first
                | (with_reducible refine a_seq_k ?_; intro K hK)
                | ((first | with_reducible refine a_region (by kernel_rfl) ?_ | (with_reducible refine a_draw mixed (by kernel_rfl) ?_; intro C hC) | (with_reducible refine a_cond_k ?_; intro X Y hX hY) | with_reducible refine RetOk.mk ?_); simp (maxSteps := 10000000) (implicitDefEqProofs := false) only [go_sem, Outv.enc, hN, hw, w0, w1,  ↓reduceIte, reduceCtorEq, Nat.reduceAdd, Nat.reduceSub, Nat.reduceLeDiff, Nat.reduceEqDiff, Nat.reduceMul, Nat.reduceLT, Nat.reducePow, Int.reduceEq, Int.reduceLT, Int.reduceLE, Int.reduceGT, Int.reduceGE, Int.reduceAdd, Int.reduceSub, Int.reduceNeg, Int.reduceToNat])
                | with_reducible refine a_block ?_
                | with_reducible refine a_ret ?_
                | with_reducible refine a_exit ?_
                | with_reducible refine a_skip ?_
                | with_reducible exact ConfOk.mk (by kernel_rfl)
                | (with_reducible refine eqT_of (eq33 _ _ _ _ _ _) ?_; simp)
                | (with_reducible refine eqT_of (eq35 _ _ _ _ _ _ _ _) ?_; simp)
                | ((fail_if_success with_reducible show False); with_reducible apply_assumption (exfalso := false) (symm := false) only [*, rfl, trivial, congrArg])
                | with_reducible refine And.intro ?_ ?_
                | (intro h; contradiction)
                | (intro h; subst h)
                | intro h
                | simp (maxSteps := 10000000) (implicitDefEqProofs := false) only [go_sem, Outv.enc, hN, hw, w0, w1,  ↓reduceIte, reduceCtorEq, Nat.reduceAdd, Nat.reduceSub, Nat.reduceLeDiff, Nat.reduceEqDiff, Nat.reduceMul, Nat.reduceLT, Nat.reducePow, Int.reduceEq, Int.reduceLT, Int.reduceLE, Int.reduceGT, Int.reduceGE, Int.reduceAdd, Int.reduceSub, Int.reduceNeg, Int.reduceToNat])
        · cases nul
          · have h1 := ref_strict7 x y ix iy
            generalize strictO 7 x y false = r at hN h1
            simp only [outs, Outv.enc, List.map_cons, List.map_nil] at h1
            repeat' (first
                | (with_reducible refine a_seq_k ?_; intro K hK)
                | ((first | with_reducible refine a_region (by kernel_rfl) ?_ | (with_reducible refine a_draw mixed (by kernel_rfl) ?_; intro C hC) | (with_reducible refine a_cond_k ?_; intro X Y hX hY) | with_reducible refine RetOk.mk ?_ | with_reducible refine CallS.intro (h1) ?_ | with_reducible refine CallD.intro (h1) ?_); simp (maxSteps := 10000000) (implicitDefEqProofs := false) only [go_sem, Outv.enc, hN, hw, w0, w1,  ↓reduceIte, reduceCtorEq, Nat.reduceAdd, Nat.reduceSub, Nat.reduceLeDiff, Nat.reduceEqDiff, Nat.reduceMul, Nat.reduceLT, Nat.reducePow, Int.reduceEq, Int.reduceLT, Int.reduceLE, Int.reduceGT, Int.reduceGE, Int.reduceAdd, Int.reduceSub, Int.reduceNeg, Int.reduceToNat])
                | with_reducible refine a_block ?_
                | with_reducible refine a_ret ?_
                | with_reducible refine a_exit ?_
                | with_reducible refine a_skip ?_
                | with_reducible exact ConfOk.mk (by kernel_rfl)
                | (with_reducible refine eqT_of (eq33 _ _ _ _ _ _) ?_; simp)
                | (with_reducible refine eqT_of (eq35 _ _ _ _ _ _ _ _) ?_; simp)
                | ((fail_if_success with_reducible show False); with_reducible apply_assumption (exfalso := false) (symm := false) only [*, rfl, trivial, congrArg])
                | with_reducible refine And.intro ?_ ?_
                | (intro h; contradiction)
                | (intro h; subst h)
                | intro h
                | simp (maxSteps := 10000000) (implicitDefEqProofs := false) only [go_sem, Outv.enc, hN, hw, w0, w1,  ↓reduceIte, reduceCtorEq, Nat.reduceAdd, Nat.reduceSub, Nat.reduceLeDiff, Nat.reduceEqDiff, Nat.reduceMul, Nat.reduceLT, Nat.reducePow, Int.reduceEq, Int.reduceLT, Int.reduceLE, Int.reduceGT, Int.reduceGE, Int.reduceAdd, Int.reduceSub, Int.reduceNeg, Int.reduceToNat])
          · rw [show strictO 7 x y true = nullO from rfl] at hN
            repeat' (first
                | (with_reducible refine a_seq_k ?_; intro K hK)
                | ((first | with_reducible refine a_region (by kernel_rfl) ?_ | (with_reducible refine a_draw mixed (by kernel_rfl) ?_; intro C hC) | (with_reducible refine a_cond_k ?_; intro X Y hX hY) | with_reducible refine RetOk.mk ?_); simp (maxSteps := 10000000) (implicitDefEqProofs := false) only [go_sem, Outv.enc, hN, hw, w0, w1,  ↓reduceIte, reduceCtorEq, Nat.reduceAdd, Nat.reduceSub, Nat.reduceLeDiff, Nat.reduceEqDiff, Nat.reduceMul, Nat.reduceLT, Nat.reducePow, Int.reduceEq, Int.reduceLT, Int.reduceLE, Int.reduceGT, Int.reduceGE, Int.reduceAdd, Int.reduceSub, Int.reduceNeg, Int.reduceToNat])
                | with_reducible refine a_block ?_
                | with_reducible refine a_ret ?_
                | with_reducible refine a_exit ?_
                | with_reducible refine a_skip ?_
                | with_reducible exact ConfOk.mk (by kernel_rfl)
                | (with_reducible refine eqT_of (eq33 _ _ _ _ _ _) ?_; simp)
                | (with_reducible refine eqT_of (eq35 _ _ _ _ _ _ _ _) ?_; simp)
                | ((fail_if_success with_reducible show False); with_reducible apply_assumption (exfalso := false) (symm := false) only [*, rfl, trivial, congrArg])
                | with_reducible refine And.intro ?_ ?_
                | (intro h; contradiction)
                | (intro h; subst h)
                | intro h
                | simp (maxSteps := 10000000) (implicitDefEqProofs := false) only [go_sem, Outv.enc, hN, hw, w0, w1,  ↓reduceIte, reduceCtorEq, Nat.reduceAdd, Nat.reduceSub, Nat.reduceLeDiff, Nat.reduceEqDiff, Nat.reduceMul, Nat.reduceLT, Nat.reducePow, Int.reduceEq, Int.reduceLT, Int.reduceLE, Int.reduceGT, Int.reduceGE, Int.reduceAdd, Int.reduceSub, Int.reduceNeg, Int.reduceToNat])
        · cases nul
          · have h1 := ref_strict8 x y ix iy
            generalize strictO 8 x y false = r at hN h1
            simp only [outs, Outv.enc, List.map_cons, List.map_nil] at h1
            repeat' (first
                | (with_reducible refine a_seq_k ?_; intro K hK)
                | ((first | with_reducible refine a_region (by kernel_rfl) ?_ | (with_reducible refine a_draw mixed (by kernel_rfl) ?_; intro C hC) | (with_reducible refine a_cond_k ?_; intro X Y hX hY) | with_reducible refine RetOk.mk ?_ | with_reducible refine CallS.intro (h1) ?_ | with_reducible refine CallD.intro (h1) ?_); simp (maxSteps := 10000000) (implicitDefEqProofs := false) only [go_sem, Outv.enc, hN, hw, w0, w1,  ↓reduceIte, reduceCtorEq, Nat.reduceAdd, Nat.reduceSub, Nat.reduceLeDiff, Nat.reduceEqDiff, Nat.reduceMul, Nat.reduceLT, Nat.reducePow, Int.reduceEq, Int.reduceLT, Int.reduceLE, Int.reduceGT, Int.reduceGE, Int.reduceAdd, Int.reduceSub, Int.reduceNeg, Int.reduceToNat])
                | with_reducible refine a_block ?_
                | with_reducible refine a_ret ?_
                | with_reducible refine a_exit ?_
                | with_reducible refine a_skip ?_
                | with_reducible exact ConfOk.mk (by kernel_rfl)
                | (with_reducible refine eqT_of (eq33 _ _ _ _ _ _) ?_; simp)
                | (with_reducible refine eqT_of (eq35 _ _ _ _ _ _ _ _) ?_; simp)
                | ((fail_if_success with_reducible show False); with_reducible apply_assumption (exfalso := false) (symm := false) only [*, rfl, trivial, congrArg])
                | with_reducible refine And.intro ?_ ?_
                | (intro h; contradiction)
                | (intro h; subst h)
                | intro h
                | simp (maxSteps := 10000000) (implicitDefEqProofs := false) only [go_sem, Outv.enc, hN, hw, w0, w1,  ↓reduceIte, reduceCtorEq, Nat.reduceAdd, Nat.reduceSub, Nat.reduceLeDiff, Nat.reduceEqDiff, Nat.reduceMul, Nat.reduceLT, Nat.reducePow, Int.reduceEq, Int.reduceLT, Int.reduceLE, Int.reduceGT, Int.reduceGE, Int.reduceAdd, Int.reduceSub, Int.reduceNeg, Int.reduceToNat])
          · rw [show strictO 8 x y true = nullO from rfl] at hN
            repeat' (first
                | (with_reducible refine a_seq_k ?_; intro K hK)
                | ((first | with_reducible refine a_region (by kernel_rfl) ?_ | (with_reducible refine a_draw mixed (by kernel_rfl) ?_; intro C hC) | (with_reducible refine a_cond_k ?_; intro X Y hX hY) | with_reducible refine RetOk.mk ?_); simp (maxSteps := 10000000) (implicitDefEqProofs := false) only [go_sem, Outv.enc, hN, hw, w0, w1,  ↓reduceIte, reduceCtorEq, Nat.reduceAdd, Nat.reduceSub, Nat.reduceLeDiff, Nat.reduceEqDiff, Nat.reduceMul, Nat.reduceLT, Nat.reducePow, Int.reduceEq, Int.reduceLT, Int.reduceLE, Int.reduceGT, Int.reduceGE, Int.reduceAdd, Int.reduceSub, Int.reduceNeg, Int.reduceToNat])
                | with_reducible refine a_block ?_
                | with_reducible refine a_ret ?_
                | with_reducible refine a_exit ?_
                | with_reducible refine a_skip ?_
                | with_reducible exact ConfOk.mk (by kernel_rfl)
                | (with_reducible refine eqT_of (eq33 _ _ _ _ _ _) ?_; simp)
                | (with_reducible refine eqT_of (eq35 _ _ _ _ _ _ _ _) ?_; simp)
                | ((fail_if_success with_reducible show False); with_reducible apply_assumption (exfalso := false) (symm := false) only [*, rfl, trivial, congrArg])
                | with_reducible refine And.intro ?_ ?_
                | (intro h; contradiction)
                | (intro h; subst h)
                | intro h
                | simp (maxSteps := 10000000) (implicitDefEqProofs := false) only [go_sem, Outv.enc, hN, hw, w0, w1,  ↓reduceIte, reduceCtorEq, Nat.reduceAdd, Nat.reduceSub, Nat.reduceLeDiff, Nat.reduceEqDiff, Nat.reduceMul, Nat.reduceLT, Nat.reducePow, Int.reduceEq, Int.reduceLT, Int.reduceLE, Int.reduceGT, Int.reduceGE, Int.reduceAdd, Int.reduceSub, Int.reduceNeg, Int.reduceToNat])
        · cases nul
          · have h1 := ref_strict9 x y ix iy
            generalize strictO 9 x y false = r at hN h1
            simp only [outs, Outv.enc, List.map_cons, List.map_nil] at h1
            repeat' (first
                | (with_reducible refine a_seq_k ?_; intro K hK)
                | ((first | with_reducible refine a_region (by kernel_rfl) ?_ | (with_reducible refine a_draw mixed (by kernel_rfl) ?_; intro C hC) | (with_reducible refine a_cond_k ?_; intro X Y hX hY) | with_reducible refine RetOk.mk ?_ | with_reducible refine CallS.intro (h1) ?_ | with_reducible refine CallD.intro (h1) ?_); simp (maxSteps := 10000000) (implicitDefEqProofs := false) only [go_sem, Outv.enc, hN, hw, w0, w1,  ↓reduceIte, reduceCtorEq, Nat.reduceAdd, Nat.reduceSub, Nat.reduceLeDiff, Nat.reduceEqDiff, Nat.reduceMul, Nat.reduceLT, Nat.reducePow, Int.reduceEq, Int.reduceLT, Int.reduceLE, Int.reduceGT, Int.reduceGE, Int.reduceAdd, Int.reduceSub, Int.reduceNeg, Int.reduceToNat])
                | with_reducible refine a_block ?_
                | with_reducible refine a_ret ?_
                | with_reducible refine a_exit ?_
                | with_reducible refine a_skip ?_
                | with_reducible exact ConfOk.mk (by kernel_rfl)
                | (with_reducible refine eqT_of (eq33 _ _ _ _ _ _) ?_; simp)
                | (with_reducible refine eqT_of (eq35 _ _ _ _ _ _ _ _) ?_; simp)
                | ((fail_if_success with_reducible show False); with_reducible apply_assumption (exfalso := false) (symm := false) only [*, rfl, trivial, congrArg])
                | with_reducible refine And.intro ?_ ?_
                | (intro h; contradiction)
                | (intro h; subst h)
                | intro h
                | simp (maxSteps := 10000000) (implicitDefEqProofs := false) only [go_sem, Outv.enc, hN, hw, w0, w1,  ↓reduceIte, reduceCtorEq, Nat.reduceAdd, Nat.reduceSub, Nat.reduceLeDiff, Nat.reduceEqDiff, Nat.reduceMul, Nat.reduceLT, Nat.reducePow, Int.reduceEq, Int.reduceLT, Int.reduceLE, Int.reduceGT, Int.reduceGE, Int.reduceAdd, Int.reduceSub, Int.reduceNeg, Int.reduceToNat])
          · rw [show strictO 9 x y true = nullO from rfl] at hN
            repeat' (first
                | (with_reducible refine a_seq_k ?_; intro K hK)
                | ((first | with_reducible refine a_region (by kernel_rfl) ?_ | (with_reducible refine a_draw mixed (by kernel_rfl) ?_; intro C hC) | (with_reducible refine a_cond_k ?_; intro X Y hX hY) | with_reducible refine RetOk.mk ?_); simp (maxSteps := 10000000) (implicitDefEqProofs := false) only [go_sem, Outv.enc, hN, hw, w0, w1,  ↓reduceIte, reduceCtorEq, Nat.reduceAdd, Nat.reduceSub, Nat.reduceLeDiff, Nat.reduceEqDiff, Nat.reduceMul, Nat.reduceLT, Nat.reducePow, Int.reduceEq, Int.reduceLT, Int.reduceLE, Int.reduceGT, Int.reduceGE, Int.reduceAdd, Int.reduceSub, Int.reduceNeg, Int.reduceToNat])
                | with_reducible refine a_block ?_
                | with_reducible refine a_ret ?_
                | with_reducible refine a_exit ?_
                | with_reducible refine a_skip ?_
                | with_reducible exact ConfOk.mk (by kernel_rfl)
                | (with_reducible refine eqT_of (eq33 _ _ _ _ _ _) ?_; simp)
                | (with_reducible refine eqT_of (eq35 _ _ _ _ _ _ _ _) ?_; simp)
                | ((fail_if_success with_reducible show False); with_reducible apply_assumption (exfalso := false) (symm := false) only [*, rfl, trivial, congrArg])
                | with_reducible refine And.intro ?_ ?_
                | (intro h; contradiction)
                | (intro h; subst h)
                | intro h
                | simp (maxSteps := 10000000) (implicitDefEqProofs := false) only [go_sem, Outv.enc, hN, hw, w0, w1,  ↓reduceIte, reduceCtorEq, Nat.reduceAdd, Nat.reduceSub, Nat.reduceLeDiff, Nat.reduceEqDiff, Nat.reduceMul, Nat.reduceLT, Nat.reducePow, Int.reduceEq, Int.reduceLT, Int.reduceLE, Int.reduceGT, Int.reduceGE, Int.reduceAdd, Int.reduceSub, Int.reduceNeg, Int.reduceToNat])
        · cases nul
          · have h1 := ref_strict10 x y (by omega)
            generalize strictO 10 x y false = r at hN h1
            simp only [outs, Outv.enc, List.map_cons, List.map_nil] at h1
            repeat' (first
                | (with_reducible refine a_seq_k ?_; intro K hK)
                | ((first | with_reducible refine a_region (by kernel_rfl) ?_ | (with_reducible refine a_draw mixed (by kernel_rfl) ?_; intro C hC) | (with_reducible refine a_cond_k ?_; intro X Y hX hY) | with_reducible refine RetOk.mk ?_ | with_reducible refine CallS.intro (h1) ?_ | with_reducible refine CallD.intro (h1) ?_); simp (maxSteps := 10000000) (implicitDefEqProofs := false) only [go_sem, Outv.enc, hN, hw, w0, w1,  ↓reduceIte, reduceCtorEq, Nat.reduceAdd, Nat.reduceSub, Nat.reduceLeDiff, Nat.reduceEqDiff, Nat.reduceMul, Nat.reduceLT, Nat.reducePow, Int.reduceEq, Int.reduceLT, Int.reduceLE, Int.reduceGT, Int.reduceGE, Int.reduceAdd, Int.reduceSub, Int.reduceNeg, Int.reduceToNat])
                | with_reducible refine a_block ?_
                | with_reducible refine a_ret ?_
                | with_reducible refine a_exit ?_
                | with_reducible refine a_skip ?_
                | with_reducible exact ConfOk.mk (by kernel_rfl)
                | (with_reducible refine eqT_of (eq33 _ _ _ _ _ _) ?_; simp)
                | (with_reducible refine eqT_of (eq35 _ _ _ _ _ _ _ _) ?_; simp)
                | ((fail_if_success with_reducible show False); with_reducible apply_assumption (exfalso := false) (symm := false) only [*, rfl, trivial, congrArg])
                | with_reducible refine And.intro ?_ ?_
                | (intro h; contradiction)
                | (intro h; subst h)
                | intro h
                | simp (maxSteps := 10000000) (implicitDefEqProofs := false) only [go_sem, Outv.enc, hN, hw, w0, w1,  ↓reduceIte, reduceCtorEq, Nat.reduceAdd, Nat.reduceSub, Nat.reduceLeDiff, Nat.reduceEqDiff, Nat.reduceMul, Nat.reduceLT, Nat.reducePow, Int.reduceEq, Int.reduceLT, Int.reduceLE, Int.reduceGT, Int.reduceGE, Int.reduceAdd, Int.reduceSub, Int.reduceNeg, Int.reduceToNat])
          · rw [show strictO 10 x y true = nullO from rfl] at hN
            repeat' (first
                | (with_reducible refine a_seq_k ?_; intro K hK)
                | ((first | with_reducible refine a_region (by kernel_rfl) ?_ | (with_reducible refine a_draw mixed (by kernel_rfl) ?_; intro C hC) | (with_reducible refine a_cond_k ?_; intro X Y hX hY) | with_reducible refine RetOk.mk ?_); simp (maxSteps := 10000000) (implicitDefEqProofs := false) only [go_sem, Outv.enc, hN, hw, w0, w1,  ↓reduceIte, reduceCtorEq, Nat.reduceAdd, Nat.reduceSub, Nat.reduceLeDiff, Nat.reduceEqDiff, Nat.reduceMul, Nat.reduceLT, Nat.reducePow, Int.reduceEq, Int.reduceLT, Int.reduceLE, Int.reduceGT, Int.reduceGE, Int.reduceAdd, Int.reduceSub, Int.reduceNeg, Int.reduceToNat])
                | with_reducible refine a_block ?_
                | with_reducible refine a_ret ?_
                | with_reducible refine a_exit ?_
                | with_reducible refine a_skip ?_
                | with_reducible exact ConfOk.mk (by kernel_rfl)
                | (with_reducible refine eqT_of (eq33 _ _ _ _ _ _) ?_; simp)
                | (with_reducible refine eqT_of (eq35 _ _ _ _ _ _ _ _) ?_; simp)
                | ((fail_if_success with_reducible show False); with_reducible apply_assumption (exfalso := false) (symm := false) only [*, rfl, trivial, congrArg])
                | with_reducible refine And.intro ?_ ?_
                | (intro h; contradiction)
                | (intro h; subst h)
                | intro h
                | simp (maxSteps := 10000000) (implicitDefEqProofs := false) only [go_sem, Outv.enc, hN, hw, w0, w1,  ↓reduceIte, reduceCtorEq, Nat.reduceAdd, Nat.reduceSub, Nat.reduceLeDiff, Nat.reduceEqDiff, Nat.reduceMul, Nat.reduceLT, Nat.reducePow, Int.reduceEq, Int.reduceLT, Int.reduceLE, Int.reduceGT, Int.reduceGE, Int.reduceAdd, Int.reduceSub, Int.reduceNeg, Int.reduceToNat])
        · cases nul
          · have h1 := ref_strict12 x y (by omega) (by omega) (by omega) (by omega)
            generalize strictO 12 x y false = r at hN h1
            simp only [outs, Outv.enc, List.map_cons, List.map_nil] at h1
            repeat' (first
                | (with_reducible refine a_seq_k ?_; intro K hK)
                | ((first | with_reducible refine a_region (by kernel_rfl) ?_ | (with_reducible refine a_draw mixed (by kernel_rfl) ?_; intro C hC) | (with_reducible refine a_cond_k ?_; intro X Y hX hY) | with_reducible refine RetOk.mk ?_ | with_reducible refine CallS.intro (h1) ?_ | with_reducible refine CallD.intro (h1) ?_); simp (maxSteps := 10000000) (implicitDefEqProofs := false) only [go_sem, Outv.enc, hN, hw, w0, w1,  ↓reduceIte, reduceCtorEq, Nat.reduceAdd, Nat.reduceSub, Nat.reduceLeDiff, Nat.reduceEqDiff, Nat.reduceMul, Nat.reduceLT, Nat.reducePow, Int.reduceEq, Int.reduceLT, Int.reduceLE, Int.reduceGT, Int.reduceGE, Int.reduceAdd, Int.reduceSub, Int.reduceNeg, Int.reduceToNat])
                | with_reducible refine a_block ?_
                | with_reducible refine a_ret ?_
                | with_reducible refine a_exit ?_
                | with_reducible refine a_skip ?_
                | with_reducible exact ConfOk.mk (by kernel_rfl)
                | (with_reducible refine eqT_of (eq33 _ _ _ _ _ _) ?_; simp)
                | (with_reducible refine eqT_of (eq35 _ _ _ _ _ _ _ _) ?_; simp)
                | ((fail_if_success with_reducible show False); with_reducible apply_assumption (exfalso := false) (symm := false) only [*, rfl, trivial, congrArg])
                | with_reducible refine And.intro ?_ ?_
                | (intro h; contradiction)
                | (intro h; subst h)
                | intro h
                | simp (maxSteps := 10000000) (implicitDefEqProofs := false) only [go_sem, Outv.enc, hN, hw, w0, w1,  ↓reduceIte, reduceCtorEq, Nat.reduceAdd, Nat.reduceSub, Nat.reduceLeDiff, Nat.reduceEqDiff, Nat.reduceMul, Nat.reduceLT, Nat.reducePow, Int.reduceEq, Int.reduceLT, Int.reduceLE, Int.reduceGT, Int.reduceGE, Int.reduceAdd, Int.reduceSub, Int.reduceNeg, Int.reduceToNat])
          · rw [show strictO 12 x y true = nullO from rfl] at hN
            repeat' (first
                | (with_reducible refine a_seq_k ?_; intro K hK)
                | ((first | with_reducible refine a_region (by kernel_rfl) ?_ | (with_reducible refine a_draw mixed (by kernel_rfl) ?_; intro C hC) | (with_reducible refine a_cond_k ?_; intro X Y hX hY) | with_reducible refine RetOk.mk ?_); simp (maxSteps := 10000000) (implicitDefEqProofs := false) only [go_sem, Outv.enc, hN, hw, w0, w1,  ↓reduceIte, reduceCtorEq, Nat.reduceAdd, Nat.reduceSub, Nat.reduceLeDiff, Nat.reduceEqDiff, Nat.reduceMul, Nat.reduceLT, Nat.reducePow, Int.reduceEq, Int.reduceLT, Int.reduceLE, Int.reduceGT, Int.reduceGE, Int.reduceAdd, Int.reduceSub, Int.reduceNeg, Int.reduceToNat])
                | with_reducible refine a_block ?_
                | with_reducible refine a_ret ?_
                | with_reducible refine a_exit ?_
                | with_reducible refine a_skip ?_
                | with_reducible exact ConfOk.mk (by kernel_rfl)
                | (with_reducible refine eqT_of (eq33 _ _ _ _ _ _) ?_; simp)
                | (with_reducible refine eqT_of (eq35 _ _ _ _ _ _ _ _) ?_; simp)
                | ((fail_if_success with_reducible show False); with_reducible apply_assumption (exfalso := false) (symm := false) only [*, rfl, trivial, congrArg])
                | with_reducible refine And.intro ?_ ?_
                | (intro h; contradiction)
                | (intro h; subst h)
                | intro h
                | simp (maxSteps := 10000000) (implicitDefEqProofs := false) only [go_sem, Outv.enc, hN, hw, w0, w1,  ↓reduceIte, reduceCtorEq, Nat.reduceAdd, Nat.reduceSub, Nat.reduceLeDiff, Nat.reduceEqDiff, Nat.reduceMul, Nat.reduceLT, Nat.reducePow, Int.reduceEq, Int.reduceLT, Int.reduceLE, Int.reduceGT, Int.reduceGE, Int.reduceAdd, Int.reduceSub, Int.reduceNeg, Int.reduceToNat])
        · cases nul
          · have h1 := ref_strict13 x y (by omega) (by omega) (by omega) (by omega)
            generalize strictO 13 x y false = r at hN h1
            simp only [outs, Outv.enc, List.map_cons, List.map_nil] at h1
            repeat' (first
                | (with_reducible refine a_seq_k ?_; intro K hK)
                | ((first | with_reducible refine a_region (by kernel_rfl) ?_ | (with_reducible refine a_draw mixed (by kernel_rfl) ?_; intro C hC) | (with_reducible refine a_cond_k ?_; intro X Y hX hY) | with_reducible refine RetOk.mk ?_ | with_reducible refine CallS.intro (h1) ?_ | with_reducible refine CallD.intro (h1) ?_); simp (maxSteps := 10000000) (implicitDefEqProofs := false) only [go_sem, Outv.enc, hN, hw, w0, w1,  ↓reduceIte, reduceCtorEq, Nat.reduceAdd, Nat.reduceSub, Nat.reduceLeDiff, Nat.reduceEqDiff, Nat.reduceMul, Nat.reduceLT, Nat.reducePow, Int.reduceEq, Int.reduceLT, Int.reduceLE, Int.reduceGT, Int.reduceGE, Int.reduceAdd, Int.reduceSub, Int.reduceNeg, Int.reduceToNat])
                | with_reducible refine a_block ?_
                | with_reducible refine a_ret ?_
                | with_reducible refine a_exit ?_
                | with_reducible refine a_skip ?_
                | with_reducible exact ConfOk.mk (by kernel_rfl)
                | (with_reducible refine eqT_of (eq33 _ _ _ _ _ _) ?_; simp)
                | (with_reducible refine eqT_of (eq35 _ _ _ _ _ _ _ _) ?_; simp)
                | ((fail_if_success with_reducible show False); with_reducible apply_assumption (exfalso := false) (symm := false) only [*, rfl, trivial, congrArg])
                | with_reducible refine And.intro ?_ ?_
                | (intro h; contradiction)
                | (intro h; subst h)
                | intro h
                | simp (maxSteps := 10000000) (implicitDefEqProofs := false) only [go_sem, Outv.enc, hN, hw, w0, w1,  ↓reduceIte, reduceCtorEq, Nat.reduceAdd, Nat.reduceSub, Nat.reduceLeDiff, Nat.reduceEqDiff, Nat.reduceMul, Nat.reduceLT, Nat.reducePow, Int.reduceEq, Int.reduceLT, Int.reduceLE, Int.reduceGT, Int.reduceGE, Int.reduceAdd, Int.reduceSub, Int.reduceNeg, Int.reduceToNat])
          · rw [show strictO 13 x y true = nullO from rfl] at hN
            repeat' (first
                | (with_reducible refine a_seq_k ?_; intro K hK)
                | ((first | with_reducible refine a_region (by kernel_rfl) ?_ | (with_reducible refine a_draw mixed (by kernel_rfl) ?_; intro C hC) | (with_reducible refine a_cond_k ?_; intro X Y hX hY) | with_reducible refine RetOk.mk ?_); simp (maxSteps := 10000000) (implicitDefEqProofs := false) only [go_sem, Outv.enc, hN, hw, w0, w1,  ↓reduceIte, reduceCtorEq, Nat.reduceAdd, Nat.reduceSub, Nat.reduceLeDiff, Nat.reduceEqDiff, Nat.reduceMul, Nat.reduceLT, Nat.reducePow, Int.reduceEq, Int.reduceLT, Int.reduceLE, Int.reduceGT, Int.reduceGE, Int.reduceAdd, Int.reduceSub, Int.reduceNeg, Int.reduceToNat])
                | with_reducible refine a_block ?_
                | with_reducible refine a_ret ?_
                | with_reducible refine a_exit ?_
                | with_reducible refine a_skip ?_
                | with_reducible exact ConfOk.mk (by kernel_rfl)
                | (with_reducible refine eqT_of (eq33 _ _ _ _ _ _) ?_; simp)
                | (with_reducible refine eqT_of (eq35 _ _ _ _ _ _ _ _) ?_; simp)
                | ((fail_if_success with_reducible show False); with_reducible apply_assumption (exfalso := false) (symm := false) only [*, rfl, trivial, congrArg])
                | with_reducible refine And.intro ?_ ?_
                | (intro h; contradiction)
                | (intro h; subst h)
                | intro h
                | simp (maxSteps := 10000000) (implicitDefEqProofs := false) only [go_sem, Outv.enc, hN, hw, w0, w1,  ↓reduceIte, reduceCtorEq, Nat.reduceAdd, Nat.reduceSub, Nat.reduceLeDiff, Nat.reduceEqDiff, Nat.reduceMul, Nat.reduceLT, Nat.reducePow, Int.reduceEq, Int.reduceLT, Int.reduceLE, Int.reduceGT, Int.reduceGE, Int.reduceAdd, Int.reduceSub, Int.reduceNeg, Int.reduceToNat])
        · cases nul
          · have h1 := ref_strict14 x y (by omega) (by omega) (by omega) (by omega)
            generalize strictO 14 x y false = r at hN h1
            simp only [outs, Outv.enc, List.map_cons, List.map_nil] at h1
            repeat' (first
                | (with_reducible refine a_seq_k ?_; intro K hK)
                | ((first | with_reducible refine a_region (by kernel_rfl) ?_ | (with_reducible refine a_draw mixed (by kernel_rfl) ?_; intro C hC) | (with_reducible refine a_cond_k ?_; intro X Y hX hY) | with_reducible refine RetOk.mk ?_ | with_reducible refine CallS.intro (h1) ?_ | with_reducible refine CallD.intro (h1) ?_); simp (maxSteps := 10000000) (implicitDefEqProofs := false) only [go_sem, Outv.enc, hN, hw, w0, w1,  ↓reduceIte, reduceCtorEq, Nat.reduceAdd, Nat.reduceSub, Nat.reduceLeDiff, Nat.reduceEqDiff, Nat.reduceMul, Nat.reduceLT, Nat.reducePow, Int.reduceEq, Int.reduceLT, Int.reduceLE, Int.reduceGT, Int.reduceGE, Int.reduceAdd, Int.reduceSub, Int.reduceNeg, Int.reduceToNat])
                | with_reducible refine a_block ?_
                | with_reducible refine a_ret ?_
                | with_reducible refine a_exit ?_
                | with_reducible refine a_skip ?_
                | with_reducible exact ConfOk.mk (by kernel_rfl)
                | (with_reducible refine eqT_of (eq33 _ _ _ _ _ _) ?_; simp)
                | (with_reducible refine eqT_of (eq35 _ _ _ _ _ _ _ _) ?_; simp)
                | ((fail_if_success with_reducible show False); with_reducible apply_assumption (exfalso := false) (symm := false) only [*, rfl, trivial, congrArg])
                | with_reducible refine And.intro ?_ ?_
                | (intro h; contradiction)
                | (intro h; subst h)
                | intro h
                | simp (maxSteps := 10000000) (implicitDefEqProofs := false) only [go_sem, Outv.enc, hN, hw, w0, w1,  ↓reduceIte, reduceCtorEq, Nat.reduceAdd, Nat.reduceSub, Nat.reduceLeDiff, Nat.reduceEqDiff, Nat.reduceMul, Nat.reduceLT, Nat.reducePow, Int.reduceEq, Int.reduceLT, Int.reduceLE, Int.reduceGT, Int.reduceGE, Int.reduceAdd, Int.reduceSub, Int.reduceNeg, Int.reduceToNat])
          · rw [show strictO 14 x y true = nullO from rfl] at hN
            repeat' (first
                | (with_reducible refine a_seq_k ?_; intro K hK)
                | ((first | with_reducible refine a_region (by kernel_rfl) ?_ | (with_reducible refine a_draw mixed (by kernel_rfl) ?_; intro C hC) | (with_reducible refine a_cond_k ?_; intro X Y hX hY) | with_reducible refine RetOk.mk ?_); simp (maxSteps := 10000000) (implicitDefEqProofs := false) only [go_sem, Outv.enc, hN, hw, w0, w1,  ↓reduceIte, reduceCtorEq, Nat.reduceAdd, Nat.reduceSub, Nat.reduceLeDiff, Nat.reduceEqDiff, Nat.reduceMul, Nat.reduceLT, Nat.reducePow, Int.reduceEq, Int.reduceLT, Int.reduceLE, Int.reduceGT, Int.reduceGE, Int.reduceAdd, Int.reduceSub, Int.reduceNeg, Int.reduceToNat])
                | with_reducible refine a_block ?_
                | with_reducible refine a_ret ?_
                | with_reducible refine a_exit ?_
                | with_reducible refine a_skip ?_
                | with_reducible exact ConfOk.mk (by kernel_rfl)
                | (with_reducible refine eqT_of (eq33 _ _ _ _ _ _) ?_; simp)
                | (with_reducible refine eqT_of (eq35 _ _ _ _ _ _ _ _) ?_; simp)
                | ((fail_if_success with_reducible show False); with_reducible apply_assumption (exfalso := false) (symm := false) only [*, rfl, trivial, congrArg])
                | with_reducible refine And.intro ?_ ?_
                | (intro h; contradiction)
                | (intro h; subst h)
                | intro h
                | simp (maxSteps := 10000000) (implicitDefEqProofs := false) only [go_sem, Outv.enc, hN, hw, w0, w1,  ↓reduceIte, reduceCtorEq, Nat.reduceAdd, Nat.reduceSub, Nat.reduceLeDiff, Nat.reduceEqDiff, Nat.reduceMul, Nat.reduceLT, Nat.reducePow, Int.reduceEq, Int.reduceLT, Int.reduceLE, Int.reduceGT, Int.reduceGE, Int.reduceAdd, Int.reduceSub, Int.reduceNeg, Int.reduceToNat])
        · cases nul
          · have h1 := ref_strict15 x y (by omega) (by omega) (by omega) (by omega)
            generalize strictO 15 x y false = r at hN h1
            simp only [outs, Outv.enc, List.map_cons, List.map_nil] at h1
            repeat' (first
                | (with_reducible refine a_seq_k ?_; intro K hK)
                | ((first | with_reducible refine a_region (by kernel_rfl) ?_ | (with_reducible refine a_draw mixed (by kernel_rfl) ?_; intro C hC) | (with_reducible refine a_cond_k ?_; intro X Y hX hY) | with_reducible refine RetOk.mk ?_ | with_reducible refine CallS.intro (h1) ?_ | with_reducible refine CallD.intro (h1) ?_); simp (maxSteps := 10000000) (implicitDefEqProofs := false) only [go_sem, Outv.enc, hN, hw, w0, w1,  ↓reduceIte, reduceCtorEq, Nat.reduceAdd, Nat.reduceSub, Nat.reduceLeDiff, Nat.reduceEqDiff, Nat.reduceMul, Nat.reduceLT, Nat.reducePow, Int.reduceEq, Int.reduceLT, Int.reduceLE, Int.reduceGT, Int.reduceGE, Int.reduceAdd, Int.reduceSub, Int.reduceNeg, Int.reduceToNat])
                | with_reducible refine a_block ?_
                | with_reducible refine a_ret ?_
                | with_reducible refine a_exit ?_
                | with_reducible refine a_skip ?_
                | with_reducible exact ConfOk.mk (by kernel_rfl)
                | (with_reducible refine eqT_of (eq33 _ _ _ _ _ _) ?_; simp)
                | (with_reducible refine eqT_of (eq35 _ _ _ _ _ _ _ _) ?_; simp)
                | ((fail_if_success with_reducible show False); with_reducible apply_assumption (exfalso := false) (symm := false) only [*, rfl, trivial, congrArg])
                | with_reducible refine And.intro ?_ ?_
                | (intro h; contradiction)
                | (intro h; subst h)
                | intro h
                | simp (maxSteps := 10000000) (implicitDefEqProofs := false) only [go_sem, Outv.enc, hN, hw, w0, w1,  ↓reduceIte, reduceCtorEq, Nat.reduceAdd, Nat.reduceSub, Nat.reduceLeDiff, Nat.reduceEqDiff, Nat.reduceMul, Nat.reduceLT, Nat.reducePow, Int.reduceEq, Int.reduceLT, Int.reduceLE, Int.reduceGT, Int.reduceGE, Int.reduceAdd, Int.reduceSub, Int.reduceNeg, Int.reduceToNat])
          · rw [show strictO 15 x y true = nullO from rfl] at hN
            repeat' (first
                | (with_reducible refine a_seq_k ?_; intro K hK)
                | ((first | with_reducible refine a_region (by kernel_rfl) ?_ | (with_reducible refine a_draw mixed (by kernel_rfl) ?_; intro C hC) | (with_reducible refine a_cond_k ?_; intro X Y hX hY) | with_reducible refine RetOk.mk ?_); simp (maxSteps := 10000000) (implicitDefEqProofs := false) only [go_sem, Outv.enc, hN, hw, w0, w1,  ↓reduceIte, reduceCtorEq, Nat.reduceAdd, Nat.reduceSub, Nat.reduceLeDiff, Nat.reduceEqDiff, Nat.reduceMul, Nat.reduceLT, Nat.reducePow, Int.reduceEq, Int.reduceLT, Int.reduceLE, Int.reduceGT, Int.reduceGE, Int.reduceAdd, Int.reduceSub, Int.reduceNeg, Int.reduceToNat])
                | with_reducible refine a_block ?_
                | with_reducible refine a_ret ?_
                | with_reducible refine a_exit ?_
                | with_reducible refine a_skip ?_
                | with_reducible exact ConfOk.mk (by kernel_rfl)
                | (with_reducible refine eqT_of (eq33 _ _ _ _ _ _) ?_; simp)
                | (with_reducible refine eqT_of (eq35 _ _ _ _ _ _ _ _) ?_; simp)
                | ((fail_if_success with_reducible show False); with_reducible apply_assumption (exfalso := false) (symm := false) only [*, rfl, trivial, congrArg])
                | with_reducible refine And.intro ?_ ?_
                | (intro h; contradiction)
                | (intro h; subst h)
                | intro h
                | simp (maxSteps := 10000000) (implicitDefEqProofs := false) only [go_sem, Outv.enc, hN, hw, w0, w1,  ↓reduceIte, reduceCtorEq, Nat.reduceAdd, Nat.reduceSub, Nat.reduceLeDiff, Nat.reduceEqDiff, Nat.reduceMul, Nat.reduceLT, Nat.reducePow, Int.reduceEq, Int.reduceLT, Int.reduceLE, Int.reduceGT, Int.reduceGE, Int.reduceAdd, Int.reduceSub, Int.reduceNeg, Int.reduceToNat])
        · cases nul
          · have h1 := ref_strict16 x y (by omega) (by omega) (by omega) (by omega)
            generalize strictO 16 x y false = r at hN h1
            simp only [outs, Outv.enc, List.map_cons, List.map_nil] at h1
            repeat' (first
                | (with_reducible refine a_seq_k ?_; intro K hK)
                | ((first | with_reducible refine a_region (by kernel_rfl) ?_ | (with_reducible refine a_draw mixed (by kernel_rfl) ?_; intro C hC) | (with_reducible refine a_cond_k ?_; intro X Y hX hY) | with_reducible refine RetOk.mk ?_ | with_reducible refine CallS.intro (h1) ?_ | with_reducible refine CallD.intro (h1) ?_); simp (maxSteps := 10000000) (implicitDefEqProofs := false) only [go_sem, Outv.enc, hN, hw, w0, w1,  ↓reduceIte, reduceCtorEq, Nat.reduceAdd, Nat.reduceSub, Nat.reduceLeDiff, Nat.reduceEqDiff, Nat.reduceMul, Nat.reduceLT, Nat.reducePow, Int.reduceEq, Int.reduceLT, Int.reduceLE, Int.reduceGT, Int.reduceGE, Int.reduceAdd, Int.reduceSub, Int.reduceNeg, Int.reduceToNat])
                | with_reducible refine a_block ?_
                | with_reducible refine a_ret ?_
                | with_reducible refine a_exit ?_
                | with_reducible refine a_skip ?_
                | with_reducible exact ConfOk.mk (by kernel_rfl)
                | (with_reducible refine eqT_of (eq33 _ _ _ _ _ _) ?_; simp)
                | (with_reducible refine eqT_of (eq35 _ _ _ _ _ _ _ _) ?_; simp)
                | ((fail_if_success with_reducible show False); with_reducible apply_assumption (exfalso := false) (symm := false) only [*, rfl, trivial, congrArg])
                | with_reducible refine And.intro ?_ ?_
                | (intro h; contradiction)
                | (intro h; subst h)
                | intro h
                | simp (maxSteps := 10000000) (implicitDefEqProofs := false) only [go_sem, Outv.enc, hN, hw, w0, w1,  ↓reduceIte, reduceCtorEq, Nat.reduceAdd, Nat.reduceSub, Nat.reduceLeDiff, Nat.reduceEqDiff, Nat.reduceMul, Nat.reduceLT, Nat.reducePow, Int.reduceEq, Int.reduceLT, Int.reduceLE, Int.reduceGT, Int.reduceGE, Int.reduceAdd, Int.reduceSub, Int.reduceNeg, Int.reduceToNat])
          · rw [show strictO 16 x y true = nullO from rfl] at hN
            repeat' (first
                | (with_reducible refine a_seq_k ?_; intro K hK)
                | ((first | with_reducible refine a_region (by kernel_rfl) ?_ | (with_reducible refine a_draw mixed (by kernel_rfl) ?_; intro C hC) | (with_reducible refine a_cond_k ?_; intro X Y hX hY) | with_reducible refine RetOk.mk ?_); simp (maxSteps := 10000000) (implicitDefEqProofs := false) only [go_sem, Outv.enc, hN, hw, w0, w1,  ↓reduceIte, reduceCtorEq, Nat.reduceAdd, Nat.reduceSub, Nat.reduceLeDiff, Nat.reduceEqDiff, Nat.reduceMul, Nat.reduceLT, Nat.reducePow, Int.reduceEq, Int.reduceLT, Int.reduceLE, Int.reduceGT, Int.reduceGE, Int.reduceAdd, Int.reduceSub, Int.reduceNeg, Int.reduceToNat])
                | with_reducible refine a_block ?_
                | with_reducible refine a_ret ?_
                | with_reducible refine a_exit ?_
                | with_reducible refine a_skip ?_
                | with_reducible exact ConfOk.mk (by kernel_rfl)
                | (with_reducible refine eqT_of (eq33 _ _ _ _ _ _) ?_; simp)
                | (with_reducible refine eqT_of (eq35 _ _ _ _ _ _ _ _) ?_; simp)
                | ((fail_if_success with_reducible show False); with_reducible apply_assumption (exfalso := false) (symm := false) only [*, rfl, trivial, congrArg])
                | with_reducible refine And.intro ?_ ?_
                | (intro h; contradiction)
                | (intro h; subst h)
                | intro h
                | simp (maxSteps := 10000000) (implicitDefEqProofs := false) only [go_sem, Outv.enc, hN, hw, w0, w1,  ↓reduceIte, reduceCtorEq, Nat.reduceAdd, Nat.reduceSub, Nat.reduceLeDiff, Nat.reduceEqDiff, Nat.reduceMul, Nat.reduceLT, Nat.reducePow, Int.reduceEq, Int.reduceLT, Int.reduceLE, Int.reduceGT, Int.reduceGE, Int.reduceAdd, Int.reduceSub, Int.reduceNeg, Int.reduceToNat])
        · cases nul
          · have h1 := ref_strict17 x y (by omega) (by omega) (by omega) (by omega)
            generalize strictO 17 x y false = r at hN h1
            simp only [outs, Outv.enc, List.map_cons, List.map_nil] at h1
            repeat' (first
                | (with_reducible refine a_seq_k ?_; intro K hK)
                | ((first | with_reducible refine a_region (by kernel_rfl) ?_ | (with_reducible refine a_draw mixed (by kernel_rfl) ?_; intro C hC) | (with_reducible refine a_cond_k ?_; intro X Y hX hY) | with_reducible refine RetOk.mk ?_ | with_reducible refine CallS.intro (h1) ?_ | with_reducible refine CallD.intro (h1) ?_); simp (maxSteps := 10000000) (implicitDefEqProofs := false) only [go_sem, Outv.enc, hN, hw, w0, w1,  ↓reduceIte, reduceCtorEq, Nat.reduceAdd, Nat.reduceSub, Nat.reduceLeDiff, Nat.reduceEqDiff, Nat.reduceMul, Nat.reduceLT, Nat.reducePow, Int.reduceEq, Int.reduceLT, Int.reduceLE, Int.reduceGT, Int.reduceGE, Int.reduceAdd, Int.reduceSub, Int.reduceNeg, Int.reduceToNat])
                | with_reducible refine a_block ?_
                | with_reducible refine a_ret ?_
                | with_reducible refine a_exit ?_
                | with_reducible refine a_skip ?_
                | with_reducible exact ConfOk.mk (by kernel_rfl)
                | (with_reducible refine eqT_of (eq33 _ _ _ _ _ _) ?_; simp)
                | (with_reducible refine eqT_of (eq35 _ _ _ _ _ _ _ _) ?_; simp)
                | ((fail_if_success with_reducible show False); with_reducible apply_assumption (exfalso := false) (symm := false) only [*, rfl, trivial, congrArg])
                | with_reducible refine And.intro ?_ ?_
                | (intro h; contradiction)
                | (intro h; subst h)
                | intro h
                | simp (maxSteps := 10000000) (implicitDefEqProofs := false) only [go_sem, Outv.enc, hN, hw, w0, w1,  ↓reduceIte, reduceCtorEq, Nat.reduceAdd, Nat.reduceSub, Nat.reduceLeDiff, Nat.reduceEqDiff, Nat.reduceMul, Nat.reduceLT, Nat.reducePow, Int.reduceEq, Int.reduceLT, Int.reduceLE, Int.reduceGT, Int.reduceGE, Int.reduceAdd, Int.reduceSub, Int.reduceNeg, Int.reduceToNat])
          · rw [show strictO 17 x y true = nullO from rfl] at hN
            repeat' (first
                | (with_reducible refine a_seq_k ?_; intro K hK)
                | ((first | with_reducible refine a_region (by kernel_rfl) ?_ | (with_reducible refine a_draw mixed (by kernel_rfl) ?_; intro C hC) | (with_reducible refine a_cond_k ?_; intro X Y hX hY) | with_reducible refine RetOk.mk ?_); simp (maxSteps := 10000000) (implicitDefEqProofs := false) only [go_sem, Outv.enc, hN, hw, w0, w1,  ↓reduceIte, reduceCtorEq, Nat.reduceAdd, Nat.reduceSub, Nat.reduceLeDiff, Nat.reduceEqDiff, Nat.reduceMul, Nat.reduceLT, Nat.reducePow, Int.reduceEq, Int.reduceLT, Int.reduceLE, Int.reduceGT, Int.reduceGE, Int.reduceAdd, Int.reduceSub, Int.reduceNeg, Int.reduceToNat])
                | with_reducible refine a_block ?_
                | with_reducible refine a_ret ?_
                | with_reducible refine a_exit ?_
                | with_reducible refine a_skip ?_
                | with_reducible exact ConfOk.mk (by kernel_rfl)
                | (with_reducible refine eqT_of (eq33 _ _ _ _ _ _) ?_; simp)
                | (with_reducible refine eqT_of (eq35 _ _ _ _ _ _ _ _) ?_; simp)
                | ((fail_if_success with_reducible show False); with_reducible apply_assumption (exfalso := false) (symm := false) only [*, rfl, trivial, congrArg])
                | with_reducible refine And.intro ?_ ?_
                | (intro h; contradiction)
                | (intro h; subst h)
                | intro h
                | simp (maxSteps := 10000000) (implicitDefEqProofs := false) only [go_sem, Outv.enc, hN, hw, w0, w1,  ↓reduceIte, reduceCtorEq, Nat.reduceAdd, Nat.reduceSub, Nat.reduceLeDiff, Nat.reduceEqDiff, Nat.reduceMul, Nat.reduceLT, Nat.reducePow, Int.reduceEq, Int.reduceLT, Int.reduceLE, Int.reduceGT, Int.reduceGE, Int.reduceAdd, Int.reduceSub, Int.reduceNeg, Int.reduceToNat])
        · rw [show strictO 18 x y nul = boolO (vEqC x y) from rfl] at hN
          unfold vEqC at hN
          repeat' (first
              | (with_reducible refine a_seq_k ?_; intro K hK)
              | ((first | with_reducible refine a_region (by kernel_rfl) ?_ | (with_reducible refine a_draw mixed (by kernel_rfl) ?_; intro C hC) | (with_reducible refine a_cond_k ?_; intro X Y hX hY) | with_reducible refine RetOk.mk ?_ | with_reducible refine CallS.intro (ref_vSame _ _ _ _ _ _) ?_ | with_reducible refine CallD.intro (ref_vSame _ _ _ _ _ _) ?_ | with_reducible refine CallS.intro (ref_oBool _) ?_ | with_reducible refine CallD.intro (ref_oBool _) ?_); simp (maxSteps := 10000000) (implicitDefEqProofs := false) only [go_sem, Outv.enc, hN, hw, w0, w1,  ↓reduceIte, reduceCtorEq, Nat.reduceAdd, Nat.reduceSub, Nat.reduceLeDiff, Nat.reduceEqDiff, Nat.reduceMul, Nat.reduceLT, Nat.reducePow, Int.reduceEq, Int.reduceLT, Int.reduceLE, Int.reduceGT, Int.reduceGE, Int.reduceAdd, Int.reduceSub, Int.reduceNeg, Int.reduceToNat])
              | with_reducible refine a_block ?_
              | with_reducible refine a_ret ?_
              | with_reducible refine a_exit ?_
              | with_reducible refine a_skip ?_
              | with_reducible exact ConfOk.mk (by kernel_rfl)
              | (with_reducible refine eqT_of (eq33 _ _ _ _ _ _) ?_; simp)
              | (with_reducible refine eqT_of (eq35 _ _ _ _ _ _ _ _) ?_; simp)
              | ((fail_if_success with_reducible show False); with_reducible apply_assumption (exfalso := false) (symm := false) only [*, rfl, trivial, congrArg])
              | with_reducible refine And.intro ?_ ?_
              | (intro h; contradiction)
              | (intro h; subst h)
              | intro h
              | simp (maxSteps := 10000000) (implicitDefEqProofs := false) only [go_sem, Outv.enc, hN, hw, w0, w1,  ↓reduceIte, reduceCtorEq, Nat.reduceAdd, Nat.reduceSub, Nat.reduceLeDiff, Nat.reduceEqDiff, Nat.reduceMul, Nat.reduceLT, Nat.reducePow, Int.reduceEq, Int.reduceLT, Int.reduceLE, Int.reduceGT, Int.reduceGE, Int.reduceAdd, Int.reduceSub, Int.reduceNeg, Int.reduceToNat])
        · cases nul
          · have h1 := ref_strict19 x y (by omega) (by omega)
            generalize strictO 19 x y false = r at hN h1
            simp only [outs, Outv.enc, List.map_cons, List.map_nil] at h1
            repeat' (first
                | (with_reducible refine a_seq_k ?_; intro K hK)
                | ((first | with_reducible refine a_region (by kernel_rfl) ?_ | (with_reducible refine a_draw mixed (by kernel_rfl) ?_; intro C hC) | (with_reducible refine a_cond_k ?_; intro X Y hX hY) | with_reducible refine RetOk.mk ?_ | with_reducible refine CallS.intro (h1) ?_ | with_reducible refine CallD.intro (h1) ?_); simp (maxSteps := 10000000) (implicitDefEqProofs := false) only [go_sem, Outv.enc, hN, hw, w0, w1,  ↓reduceIte, reduceCtorEq, Nat.reduceAdd, Nat.reduceSub, Nat.reduceLeDiff, Nat.reduceEqDiff, Nat.reduceMul, Nat.reduceLT, Nat.reducePow, Int.reduceEq, Int.reduceLT, Int.reduceLE, Int.reduceGT, Int.reduceGE, Int.reduceAdd, Int.reduceSub, Int.reduceNeg, Int.reduceToNat])
                | with_reducible refine a_block ?_
                | with_reducible refine a_ret ?_
                | with_reducible refine a_exit ?_
                | with_reducible refine a_skip ?_
                | with_reducible exact ConfOk.mk (by kernel_rfl)
                | (with_reducible refine eqT_of (eq33 _ _ _ _ _ _) ?_; simp)
                | (with_reducible refine eqT_of (eq35 _ _ _ _ _ _ _ _) ?_; simp)
                | ((fail_if_success with_reducible show False); with_reducible apply_assumption (exfalso := false) (symm := false) only [*, rfl, trivial, congrArg])
                | with_reducible refine And.intro ?_ ?_
                | (intro h; contradiction)
                | (intro h; subst h)
                | intro h
                | simp (maxSteps := 10000000) (implicitDefEqProofs := false) only [go_sem, Outv.enc, hN, hw, w0, w1,  ↓reduceIte, reduceCtorEq, Nat.reduceAdd, Nat.reduceSub, Nat.reduceLeDiff, Nat.reduceEqDiff, Nat.reduceMul, Nat.reduceLT, Nat.reducePow, Int.reduceEq, Int.reduceLT, Int.reduceLE, Int.reduceGT, Int.reduceGE, Int.reduceAdd, Int.reduceSub, Int.reduceNeg, Int.reduceToNat])
          · rw [show strictO 19 x y true = nullO from rfl] at hN
            repeat' (first
                | (with_reducible refine a_seq_k ?_; intro K hK)
                | ((first | with_reducible refine a_region (by kernel_rfl) ?_ | (with_reducible refine a_draw mixed (by kernel_rfl) ?_; intro C hC) | (with_reducible refine a_cond_k ?_; intro X Y hX hY) | with_reducible refine RetOk.mk ?_); simp (maxSteps := 10000000) (implicitDefEqProofs := false) only [go_sem, Outv.enc, hN, hw, w0, w1,  ↓reduceIte, reduceCtorEq, Nat.reduceAdd, Nat.reduceSub, Nat.reduceLeDiff, Nat.reduceEqDiff, Nat.reduceMul, Nat.reduceLT, Nat.reducePow, Int.reduceEq, Int.reduceLT, Int.reduceLE, Int.reduceGT, Int.reduceGE, Int.reduceAdd, Int.reduceSub, Int.reduceNeg, Int.reduceToNat])
                | with_reducible refine a_block ?_
                | with_reducible refine a_ret ?_
                | with_reducible refine a_exit ?_
                | with_reducible refine a_skip ?_
                | with_reducible exact ConfOk.mk (by kernel_rfl)
                | (with_reducible refine eqT_of (eq33 _ _ _ _ _ _) ?_; simp)
                | (with_reducible refine eqT_of (eq35 _ _ _ _ _ _ _ _) ?_; simp)
                | ((fail_if_success with_reducible show False); with_reducible apply_assumption (exfalso := false) (symm := false) only [*, rfl, trivial, congrArg])
                | with_reducible refine And.intro ?_ ?_
                | (intro h; contradiction)
                | (intro h; subst h)
                | intro h
                | simp (maxSteps := 10000000) (implicitDefEqProofs := false) only [go_sem, Outv.enc, hN, hw, w0, w1,  ↓reduceIte, reduceCtorEq, Nat.reduceAdd, Nat.reduceSub, Nat.reduceLeDiff, Nat.reduceEqDiff, Nat.reduceMul, Nat.reduceLT, Nat.reducePow, Int.reduceEq, Int.reduceLT, Int.reduceLE, Int.reduceGT, Int.reduceGE, Int.reduceAdd, Int.reduceSub, Int.reduceNeg, Int.reduceToNat])
    · have hN := node_fails hi hl2 hf n23 n24 n25 n26 hz
      rw [← p2] at hN hz
      repeat' (first
          | (with_reducible refine a_seq_k ?_; intro K hK)
          | ((first | with_reducible refine a_region (by kernel_rfl) ?_ | (with_reducible refine a_draw mixed (by kernel_rfl) ?_; intro C hC) | (with_reducible refine a_cond_k ?_; intro X Y hX hY) | with_reducible refine RetOk.mk ?_ | with_reducible refine CallS.intro (ref_Fail _) ?_ | with_reducible refine CallD.intro (ref_Fail _) ?_); simp (maxSteps := 10000000) (implicitDefEqProofs := false) only [go_sem, Outv.enc, hN, hw, hz,  ↓reduceIte, reduceCtorEq, Nat.reduceAdd, Nat.reduceSub, Nat.reduceLeDiff, Nat.reduceEqDiff, Nat.reduceMul, Nat.reduceLT, Nat.reducePow, Int.reduceEq, Int.reduceLT, Int.reduceLE, Int.reduceGT, Int.reduceGE, Int.reduceAdd, Int.reduceSub, Int.reduceNeg, Int.reduceToNat])
          | with_reducible refine a_block ?_
          | with_reducible refine a_ret ?_
          | with_reducible refine a_exit ?_
          | with_reducible refine a_skip ?_
          | with_reducible exact ConfOk.mk (by kernel_rfl)
          | (with_reducible refine eqT_of (eq33 _ _ _ _ _ _) ?_; simp)
          | (with_reducible refine eqT_of (eq35 _ _ _ _ _ _ _ _) ?_; simp)
          | ((fail_if_success with_reducible show False); with_reducible apply_assumption (exfalso := false) (symm := false) only [*, rfl, trivial, congrArg])
          | with_reducible refine And.intro ?_ ?_
          | (intro h; contradiction)
          | (intro h; subst h)
          | intro h
          | simp (maxSteps := 10000000) (implicitDefEqProofs := false) only [go_sem, Outv.enc, hN, hw, hz,  ↓reduceIte, reduceCtorEq, Nat.reduceAdd, Nat.reduceSub, Nat.reduceLeDiff, Nat.reduceEqDiff, Nat.reduceMul, Nat.reduceLT, Nat.reducePow, Int.reduceEq, Int.reduceLT, Int.reduceLE, Int.reduceGT, Int.reduceGE, Int.reduceAdd, Int.reduceSub, Int.reduceNeg, Int.reduceToNat])
  · obtain ⟨nul, e⟩ := p
    obtain ⟨p1, p2⟩ := hp
    simp only at p1 p2
    repeat' (first
        | (with_reducible refine a_seq_k ?_; intro K hK)
        | ((first | with_reducible refine a_region (by kernel_rfl) ?_ | (with_reducible refine a_draw mixed (by kernel_rfl) ?_; intro C hC) | (with_reducible refine a_cond_k ?_; intro X Y hX hY) | with_reducible refine RetOk.mk ?_ | with_reducible refine CallS.intro (ref_Least _ _) ?_ | with_reducible refine CallD.intro (ref_Least _ _) ?_ | with_reducible refine CallS.intro (ref_isNull _ _ _ _) ?_ | with_reducible refine CallD.intro (ref_isNull _ _ _ _) ?_); simp (maxSteps := 10000000) (implicitDefEqProofs := false) only [go_sem, Outv.enc, hw,  ↓reduceIte, reduceCtorEq, Nat.reduceAdd, Nat.reduceSub, Nat.reduceLeDiff, Nat.reduceEqDiff, Nat.reduceMul, Nat.reduceLT, Nat.reducePow, Int.reduceEq, Int.reduceLT, Int.reduceLE, Int.reduceGT, Int.reduceGE, Int.reduceAdd, Int.reduceSub, Int.reduceNeg, Int.reduceToNat])
        | with_reducible refine a_block ?_
        | with_reducible refine a_ret ?_
        | with_reducible refine a_exit ?_
        | with_reducible refine a_skip ?_
        | with_reducible exact ConfOk.mk (by kernel_rfl)
        | (with_reducible refine eqT_of (eq33 _ _ _ _ _ _) ?_; simp)
        | (with_reducible refine eqT_of (eq35 _ _ _ _ _ _ _ _) ?_; simp)
        | ((fail_if_success with_reducible show False); with_reducible apply_assumption (exfalso := false) (symm := false) only [*, rfl, trivial, congrArg])
        | with_reducible refine And.intro ?_ ?_
        | (intro h; contradiction)
        | (intro h; subst h)
        | intro h
        | simp (maxSteps := 10000000) (implicitDefEqProofs := false) only [go_sem, Outv.enc, hw,  ↓reduceIte, reduceCtorEq, Nat.reduceAdd, Nat.reduceSub, Nat.reduceLeDiff, Nat.reduceEqDiff, Nat.reduceMul, Nat.reduceLT, Nat.reducePow, Int.reduceEq, Int.reduceLT, Int.reduceLE, Int.reduceGT, Int.reduceGE, Int.reduceAdd, Int.reduceSub, Int.reduceNeg, Int.reduceToNat])
    · exact ⟨⟨rest.length, by simp, 0, pre ++ [x], rest, (nullB x, leastE e x.err), by simp, rfl, ⟨by rw [List.any_append, ← p1]; simp, by rw [failR_snoc, ← p2]⟩, ⟨rfl, rfl, by simp [Outv.enc, nullB], by simp⟩⟩⟩
    · exact ⟨⟨rest.length, by simp, 0, pre ++ [x], rest, (true, leastE e x.err), by simp, rfl, ⟨by rw [List.any_append, ← p1]; simp, by rw [failR_snoc, ← p2]⟩, ⟨rfl, rfl, by simp [Outv.enc], by simp⟩⟩⟩
theorem ref_Node (op : Int) (os : List Outv) (hi : ∀ o ∈ os, o.In) (hl : os.length < 2 ^ 40) : ACalls Tryz.prog 4 [.int .u8 op, outs os] (.agg (nodeS op os).enc) := by
  by_cases hf : fitsR op os = true
  · by_cases hop : op = 23 ∨ op = 24 ∨ op = 25 ∨ op = 26
    · exact ref_NodeQ op os hi hl (.inr hop)
    · exact ref_NodeS op os hi hl hf (by omega) (by omega) (by omega) (by omega)
  · exact ref_NodeQ op os hi hl (.inl (by simpa using hf))
theorem ref_Conds (os : List Outv) (hi : ∀ o ∈ os, o.In) (hl : os.length < 2 ^ 40) : ACalls Tryz.prog 5 [outs os] (.agg (nodeS 23 os).enc) := by
  have h1 := ref_Node 23 os hi hl
  generalize nodeS 23 os = r at h1
  simp only [Outv.enc] at h1
  refine acalls_k Tryz.func5 rfl (by kernel_rfl) (congrArg Array.toList Tryz.results5) Tryz.ntmps5 ?_
  intro R hR
  simp only [st0, List.length_cons, List.length_nil, Nat.reduceAdd, Nat.reduceSub, List.replicate_succ, List.replicate_zero, List.cons_append, List.nil_append]
  repeat' (first
      | (with_reducible refine a_seq_k ?_; intro K hK)
      | ((first | with_reducible refine a_region (by kernel_rfl) ?_ | (with_reducible refine a_draw mixed (by kernel_rfl) ?_; intro C hC) | (with_reducible refine a_cond_k ?_; intro X Y hX hY) | with_reducible refine RetOk.mk ?_ | with_reducible refine CallS.intro (h1) ?_ | with_reducible refine CallD.intro (h1) ?_); simp (maxSteps := 10000000) (implicitDefEqProofs := false) only [go_sem, Outv.enc,  ↓reduceIte, reduceCtorEq, Nat.reduceAdd, Nat.reduceSub, Nat.reduceLeDiff, Nat.reduceEqDiff, Nat.reduceMul, Nat.reduceLT, Nat.reducePow, Int.reduceEq, Int.reduceLT, Int.reduceLE, Int.reduceGT, Int.reduceGE, Int.reduceAdd, Int.reduceSub, Int.reduceNeg, Int.reduceToNat])
      | with_reducible refine a_block ?_
      | with_reducible refine a_ret ?_
      | with_reducible refine a_exit ?_
      | with_reducible refine a_skip ?_
      | with_reducible exact ConfOk.mk (by kernel_rfl)
      | (with_reducible refine eqT_of (eq33 _ _ _ _ _ _) ?_; simp)
      | (with_reducible refine eqT_of (eq35 _ _ _ _ _ _ _ _) ?_; simp)
      | ((fail_if_success with_reducible show False); with_reducible apply_assumption (exfalso := false) (symm := false) only [*, rfl, trivial, congrArg])
      | with_reducible refine And.intro ?_ ?_
      | (intro h; contradiction)
      | (intro h; subst h)
      | intro h
      | simp (maxSteps := 10000000) (implicitDefEqProofs := false) only [go_sem, Outv.enc,  ↓reduceIte, reduceCtorEq, Nat.reduceAdd, Nat.reduceSub, Nat.reduceLeDiff, Nat.reduceEqDiff, Nat.reduceMul, Nat.reduceLT, Nat.reducePow, Int.reduceEq, Int.reduceLT, Int.reduceLE, Int.reduceGT, Int.reduceGE, Int.reduceAdd, Int.reduceSub, Int.reduceNeg, Int.reduceToNat])
end Go.Proofs.YtmlaogjndaeihaaGreatDoor
