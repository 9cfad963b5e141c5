/- Values and outs: comparing them whole. Small functions on values and outs. -/
import Derived.Test.YtmlaogjndaeihaaGreatDoorT6
import Derived.ChangeKeysEq
section
namespace Go.Proofs.YtmlaogjndaeihaaGreatDoor
open Go Go.Ab
def vEq (a b : Val) : Bool := decide (a.kind = b.kind) && (decide (a.int = b.int) && decide (a.text = b.text))
def oEq (a b : Outv) : Bool := decide (a.v.kind = b.v.kind) && (decide (a.v.int = b.v.int) && (decide (a.v.text = b.v.text) && decide (a.err = b.err)))
theorem fields33 : ∃ f1 f2 f3, (Tryz.prog.fieldsOf 26).toList = [f1, f2, f3] ∧ f1.type = 24 ∧ f1.offset = 0 ∧ f1.name ≠ "_" ∧ f2.type = 2 ∧ f2.offset = 1 ∧ f2.name ≠ "_" ∧ f3.type = 9 ∧ f3.offset = 2 ∧ f3.name ≠ "_" :=
  ⟨(Tryz.prog.fieldsOf 26).toList[0]!, (Tryz.prog.fieldsOf 26).toList[1]!, (Tryz.prog.fieldsOf 26).toList[2]!, by kernel_rfl, by kernel_rfl, by kernel_rfl, of_decide_eq_true (by kernel_rfl), by kernel_rfl, by kernel_rfl, of_decide_eq_true (by kernel_rfl), by kernel_rfl, by kernel_rfl, of_decide_eq_true (by kernel_rfl)⟩
theorem fields35 : ∃ f1 f2, (Tryz.prog.fieldsOf 29).toList = [f1, f2] ∧ f1.type = 26 ∧ f1.offset = 0 ∧ f1.name ≠ "_" ∧ f2.type = 27 ∧ f2.offset = 3 ∧ f2.name ≠ "_" :=
  ⟨(Tryz.prog.fieldsOf 29).toList[0]!, (Tryz.prog.fieldsOf 29).toList[1]!, by kernel_rfl, by kernel_rfl, by kernel_rfl, of_decide_eq_true (by kernel_rfl), by kernel_rfl, by kernel_rfl, of_decide_eq_true (by kernel_rfl)⟩
theorem toList_beq (a b : ByteArray) : (a.toList == b.toList) = decide (a = b) := by
  rw [Bool.eq_iff_iff]
  simp only [beq_iff_eq, decide_eq_true_eq]
  rw [ByteArray.toList_eq, ByteArray.toList_eq]
  constructor
  · intro h
    obtain ⟨⟨x⟩⟩ := a
    obtain ⟨⟨y⟩⟩ := b
    simpa using h
  · rintro rfl; rfl
theorem eqIn33 (w : World) (d : Nat) (k k' n n' : Int) (s s' : ByteArray) : (Op.equalIn (d + 2) 26 (.agg #[.int .u8 k, .int .i64 n, .string s]) (.agg #[.int .u8 k', .int .i64 n', .string s'])).run Tryz.prog w = .ok (decide (k = k') && (decide (n = n') && decide (s = s'))) w := by
  obtain ⟨f1, f2, f3, hf, t1, o1, n1, t2, o2, n2, t3, o3, n3⟩ := fields33
  rw [run_equalIn_agg w (d + 1) _ _ _ (by kernel_rfl) (by kernel_rfl), hf]
  have p1 : ∀ x y z : Value, (part f1.type #[x, y, z] f1.offset).run Tryz.prog w = .ok x w := fun x y z => by rw [t1, o1]; exact run_part_plain w (by kernel_rfl) rfl
  have p2 : ∀ x y z : Value, (part f2.type #[x, y, z] f2.offset).run Tryz.prog w = .ok y w := fun x y z => by rw [t2, o2]; exact run_part_plain w (by kernel_rfl) rfl
  have p3 : ∀ x y z : Value, (part f3.type #[x, y, z] f3.offset).run Tryz.prog w = .ok z w := fun x y z => by rw [t3, o3]; exact run_part_plain w (by kernel_rfl) rfl
  have e1 : ∀ a b, (Op.equalIn (d + 1) f1.type (.int .u8 a) (.int .u8 b)).run Tryz.prog w = .ok (a == b) w := fun a b => by rw [t1]; exact run_equalIn_int w d _ .u8 .u8 a b (by kernel_rfl)
  have e2 : ∀ a b, (Op.equalIn (d + 1) f2.type (.int .i64 a) (.int .i64 b)).run Tryz.prog w = .ok (a == b) w := fun a b => by rw [t2]; exact run_equalIn_int w d _ .i64 .i64 a b (by kernel_rfl)
  have e3 : ∀ a b, (Op.equalIn (d + 1) f3.type (.string a) (.string b)).run Tryz.prog w = .ok (a.toList == b.toList) w := fun a b => by rw [t3]; exact run_equalIn_string w d _ a b (by kernel_rfl)
  simp only [Op.eqFields, if_pos n1, if_pos n2, if_pos n3, Sem.run_bind, p1, p2, p3, e1, e2, e3, Result.andThen_ok, Sem.run_ite, toList_beq]
  by_cases h1 : k = k' <;> by_cases h2 : n = n' <;> by_cases h3 : s = s' <;> simp [h1, h2, h3]
theorem eqT_of {P : Program} {t : TypeId} {xs ys : List AV} {r r' : Bool} (h : EqT P t xs ys r) (e : r = r') : EqT P t xs ys r' := e ▸ h
theorem eq33 (k k' n n' : Int) (s s' : ByteArray) : EqT Tryz.prog 26 [.int .u8 k, .int .i64 n, .str s] [.int .u8 k', .int .i64 n', .str s'] (decide (k = k') && (decide (n = n') && decide (s = s'))) := by
  intro w own vs us h1 h2
  obtain _ | ⟨a1, h1⟩ := h1; obtain _ | ⟨a2, h1⟩ := h1; obtain _ | ⟨a3, h1⟩ := h1; obtain _ | _ := h1
  obtain _ | ⟨b1, h2⟩ := h2; obtain _ | ⟨b2, h2⟩ := h2; obtain _ | ⟨b3, h2⟩ := h2; obtain _ | _ := h2
  cases a1; cases a2; cases a3; cases b1; cases b2; cases b3
  refine ⟨fun x y => run_eqGuard_agg w _ _ _ _ _ _ (by kernel_rfl), fun x y => run_eqGuard_agg w _ _ _ _ _ _ (by kernel_rfl), ?_⟩
  exact eqIn33 w 9998 k k' n n' s s'
theorem eq35 (k k' n n' e e' : Int) (s s' : ByteArray) : EqT Tryz.prog 29 [.int .u8 k, .int .i64 n, .str s, .int .i64 e] [.int .u8 k', .int .i64 n', .str s', .int .i64 e'] (decide (k = k') && (decide (n = n') && (decide (s = s') && decide (e = e')))) := by
  intro w own vs us h1 h2
  obtain _ | ⟨a1, h1⟩ := h1; obtain _ | ⟨a2, h1⟩ := h1; obtain _ | ⟨a3, h1⟩ := h1; obtain _ | ⟨a4, h1⟩ := h1; obtain _ | _ := h1
  obtain _ | ⟨b1, h2⟩ := h2; obtain _ | ⟨b2, h2⟩ := h2; obtain _ | ⟨b3, h2⟩ := h2; obtain _ | ⟨b4, h2⟩ := h2; obtain _ | _ := h2
  cases a1; cases a2; cases a3; cases a4; cases b1; cases b2; cases b3; cases b4
  refine ⟨fun x y => run_eqGuard_agg w _ _ _ _ _ _ (by kernel_rfl), fun x y => run_eqGuard_agg w _ _ _ _ _ _ (by kernel_rfl), ?_⟩
  show (Op.equalIn 10000 _ _ _).run Tryz.prog w = _
  obtain ⟨f1, f2, hf, t1, o1, n1, t2, o2, n2⟩ := fields35
  rw [run_equalIn_agg w 9999 _ _ _ (by kernel_rfl) (by kernel_rfl), hf]
  have hu : ∃ d, Tryz.prog.underlying 26 = some d ∧ aggD d = true := by
    obtain ⟨d, h3, h4⟩ := ti_und (P := Tryz.prog) (t := 26) (by rw [ti26]; simp)
    exact ⟨d, h3, by rw [← h4, ti26]⟩
  obtain ⟨d, hu, hag⟩ := hu
  obtain ⟨i, hi, hsz, _⟩ := ti_info (P := Tryz.prog) (t := 26) (by rw [ti26]; simp)
  rw [ti26] at hsz
  have p1 : ∀ x y z u : Value, (part f1.type #[x, y, z, u] f1.offset).run Tryz.prog w = .ok (.agg #[x, y, z]) w := fun x y z u => by
    rw [t1, o1]
    simp only [part, Sem.run_bind, run_isAgg hu, hag, Result.andThen_ok, if_true, Go.Ab.run_sizeOf hi, hsz]
    rfl
  have p2 : ∀ x y z u : Value, (part f2.type #[x, y, z, u] f2.offset).run Tryz.prog w = .ok u w := fun x y z u => by rw [t2, o2]; exact run_part_plain w (by kernel_rfl) rfl
  have e2 : ∀ a b, (Op.equalIn 9999 f2.type (.int .i64 a) (.int .i64 b)).run Tryz.prog w = .ok (a == b) w := fun a b => by rw [t2]; exact run_equalIn_int w 9998 _ .i64 .i64 a b (by kernel_rfl)
  have e1 := eqIn33 w 9997 k k' n n' s s'
  rw [← t1] at e1
  simp only [Op.eqFields, if_pos n1, if_pos n2, Sem.run_bind, p1, p2, e1, e2, Result.andThen_ok, Sem.run_ite]
  by_cases h1 : k = k' <;> by_cases h2 : n = n' <;> by_cases h3 : s = s' <;> by_cases h4 : e = e' <;> simp [h1, h2, h3, h4]
end Go.Proofs.YtmlaogjndaeihaaGreatDoor
end

section
namespace Go.Proofs.YtmlaogjndaeihaaGreatDoor
open Go Go.Ab
attribute [local go_sem ↓] parts_tt parts_ff parts_tf parts_ft
attribute [local go_sem] parts_eq learnT aops_nil aops_cons aopsD_nil aopsD_cons stepS stepD gval St.learn skipR St.after putτ applyUpd List.foldl_cons List.foldl_nil pureOp memOp callOf litA closeO closeK List.flatMap_cons List.flatMap_nil Option.map_none decide_false opnd ofConst leaf binA unA lenA indexA indexAddrA fieldAddrA fieldA sliceA convertA pickV fillA placeS cellsA setA partA loadM storeM appendM srcEls lookBox lookRow lookMap closeL closeV scalarB scalarL killed buildEls lookupA leafEq eqAll resA resL tupA retA thenA blockA isInt loA hiA foldA maxA minA okSize leafB closedB Res.foot List.getD_cons_zero List.getD_cons_succ List.set_cons_zero List.set_cons_succ List.map_cons List.map_nil List.append_nil List.nil_append List.cons_append List.length_cons List.length_nil List.take_succ_cons List.take_zero List.drop_succ_cons List.drop_zero List.take_nil List.drop_nil List.all_cons List.all_nil List.getElem?_toArray List.getElem?_cons_zero List.getElem?_cons_succ Option.bind_some Option.map_some true_and and_true true_implies ne_eq not_true_eq_false not_false_eq_true Bool.true_eq_false Bool.false_eq_true Bool.not_true Bool.not_false decide_eq_true_eq decide_eq_false_iff_not false_implies implies_true and_self ite_true ite_false cond_true cond_false Option.some.injEq List.reverse_cons List.reverse_nil Bool.and_self Bool.true_and Bool.and_true Bool.false_and Bool.and_false Bool.or_true Bool.true_or Bool.or_false Bool.false_or Bool.not_eq_eq_eq_not Bool.not_not Bool.or_self beq_self_eq_true and_false false_and or_true true_or or_false false_or not_true not_false_iff Decidable.not_not lookT lookR tabT tabR Int.toNat_natCast List.length_map List.map_append List.length_append decide_true decide_false tmod2 List.mem_singleton forall_eq elOk1 elOk3 elOk4 castn0 castn1 castn2 castn3 getD_mid getD_mid_map at_lt at_end mid_lt mid_lt' nat_ge List.size_toArray Array.size_empty Nat.add_zero Nat.zero_add
attribute [local irreducible] ASpec ACalls retA ti EqT
set_option linter.unusedSimpArgs false
set_option maxHeartbeats 4000000
set_option maxRecDepth 100000
set_option linter.unusedVariables false
attribute [local go_sem] ti2 ti3 ti4 ti5 ti9 ti21 ti22 ti23 ti24 ti26 ti27 ti29 ti41 ti47 ti49 ti56 ti59 ti63 ti67 ti71 ti75 ti78 ti79 ti80 ti86 ti90 ti110
@[reducible] def vA (k n : Int) (s : ByteArray) : AV := .agg [.int .u8 k, .int .i64 n, .str s]
@[reducible] def oA (k n : Int) (s : ByteArray) (e : Int) : AV := .agg [.int .u8 k, .int .i64 n, .str s, .int .i64 e]
@[reducible] def emp : ByteArray := ⟨#[]⟩
/-- Valid, as the program says it. -/
def vOkC (k n : Int) (s : ByteArray) : Bool :=
  if k = 0 then decide (n = 0) && decide (s = emp) else if k = 1 then decide (s = emp) else if k = 2 then decide (n = 0) && decide ((s.size : Int) ≤ 100)
  else if k = 3 then decide (s = emp) && decide (IntKind.wrap .u64 n ≤ 1) else false
def vOk (k n : Int) (s : ByteArray) : Bool :=
  if k = 0 then decide (n = 0) && decide (s = emp) else if k = 1 then decide (s = emp) else if k = 2 then decide (n = 0) && decide ((s.size : Int) ≤ 100)
  else if k = 3 then (decide (n = 0) || decide (n = 1)) && decide (s = emp) else false
theorem value_Valid (k n : Int) (s : ByteArray) : ACalls Tryz.prog 37 [vA k n s] (.bool (vOkC k n s)) := by
  refine acalls_k Tryz.func37 rfl (by kernel_rfl) (congrArg Array.toList Tryz.results37) Tryz.ntmps37 ?_
  intro R hR
  simp only [st0, List.length_cons, List.length_nil, Nat.reduceAdd, Nat.reduceSub, List.replicate_succ, List.replicate_zero, List.cons_append, List.nil_append]
  repeat' (first
      | (with_reducible refine a_seq_k ?_; intro K hK)
      | ((first | with_reducible refine a_region (by kernel_rfl) ?_ | (with_reducible refine a_draw mixed (by kernel_rfl) ?_; intro C hC) | (with_reducible refine a_cond_k ?_; intro X Y hX hY) | with_reducible refine RetOk.mk ?_); simp (maxSteps := 10000000) (implicitDefEqProofs := false) only [go_sem,  ↓reduceIte, reduceCtorEq, Nat.reduceAdd, Nat.reduceSub, Nat.reduceLeDiff, Nat.reduceEqDiff, Nat.reduceMul, Nat.reduceLT, Nat.reducePow, Int.reduceEq, Int.reduceLT, Int.reduceLE, Int.reduceGT, Int.reduceGE, Int.reduceAdd, Int.reduceSub, Int.reduceNeg, Int.reduceToNat])
      | with_reducible refine a_block ?_
      | with_reducible refine a_ret ?_
      | with_reducible refine a_exit ?_
      | with_reducible refine a_skip ?_
      | with_reducible exact ConfOk.mk (by kernel_rfl)
      | (with_reducible refine eqT_of (eq33 _ _ _ _ _ _) ?_; simp)
      | (with_reducible refine eqT_of (eq35 _ _ _ _ _ _ _ _) ?_; simp)
      | ((fail_if_success with_reducible show False); with_reducible apply_assumption (exfalso := false) (symm := false) only [*, rfl, trivial, congrArg])
      | with_reducible refine And.intro ?_ ?_
      | (intro h; contradiction)
      | (intro h; subst h)
      | intro h
      | simp (maxSteps := 10000000) (implicitDefEqProofs := false) only [go_sem,  ↓reduceIte, reduceCtorEq, Nat.reduceAdd, Nat.reduceSub, Nat.reduceLeDiff, Nat.reduceEqDiff, Nat.reduceMul, Nat.reduceLT, Nat.reducePow, Int.reduceEq, Int.reduceLT, Int.reduceLE, Int.reduceGT, Int.reduceGE, Int.reduceAdd, Int.reduceSub, Int.reduceNeg, Int.reduceToNat])
  all_goals simp [vOkC, *]
theorem ref_vValid (k n : Int) (s : ByteArray) : ACalls Tryz.prog 57 [vA k n s] (.bool (vOk k n s)) := by
  refine acalls_k Tryz.func57 rfl (by kernel_rfl) (congrArg Array.toList Tryz.results57) Tryz.ntmps57 ?_
  intro R hR
  simp only [st0, List.length_cons, List.length_nil, Nat.reduceAdd, Nat.reduceSub, List.replicate_succ, List.replicate_zero, List.cons_append, List.nil_append]
  repeat' (first
      | (with_reducible refine a_seq_k ?_; intro K hK)
      | ((first | with_reducible refine a_region (by kernel_rfl) ?_ | (with_reducible refine a_draw mixed (by kernel_rfl) ?_; intro C hC) | (with_reducible refine a_cond_k ?_; intro X Y hX hY) | with_reducible refine RetOk.mk ?_); simp (maxSteps := 10000000) (implicitDefEqProofs := false) only [go_sem,  ↓reduceIte, reduceCtorEq, Nat.reduceAdd, Nat.reduceSub, Nat.reduceLeDiff, Nat.reduceEqDiff, Nat.reduceMul, Nat.reduceLT, Nat.reducePow, Int.reduceEq, Int.reduceLT, Int.reduceLE, Int.reduceGT, Int.reduceGE, Int.reduceAdd, Int.reduceSub, Int.reduceNeg, Int.reduceToNat])
      | with_reducible refine a_block ?_
      | with_reducible refine a_ret ?_
      | with_reducible refine a_exit ?_
      | with_reducible refine a_skip ?_
      | with_reducible exact ConfOk.mk (by kernel_rfl)
      | (with_reducible refine eqT_of (eq33 _ _ _ _ _ _) ?_; simp)
      | (with_reducible refine eqT_of (eq35 _ _ _ _ _ _ _ _) ?_; simp)
      | ((fail_if_success with_reducible show False); with_reducible apply_assumption (exfalso := false) (symm := false) only [*, rfl, trivial, congrArg])
      | with_reducible refine And.intro ?_ ?_
      | (intro h; contradiction)
      | (intro h; subst h)
      | intro h
      | simp (maxSteps := 10000000) (implicitDefEqProofs := false) only [go_sem,  ↓reduceIte, reduceCtorEq, Nat.reduceAdd, Nat.reduceSub, Nat.reduceLeDiff, Nat.reduceEqDiff, Nat.reduceMul, Nat.reduceLT, Nat.reducePow, Int.reduceEq, Int.reduceLT, Int.reduceLE, Int.reduceGT, Int.reduceGE, Int.reduceAdd, Int.reduceSub, Int.reduceNeg, Int.reduceToNat])
  all_goals simp [vOk, *]
theorem ref_vSame (k n : Int) (s : ByteArray) (k' n' : Int) (s' : ByteArray) : ACalls Tryz.prog 18 [vA k n s, vA k' n' s'] (.bool (decide (k = k') && (decide (n = n') && decide (s = s')))) := by
  refine acalls_k Tryz.func18 rfl (by kernel_rfl) (congrArg Array.toList Tryz.results18) Tryz.ntmps18 ?_
  intro R hR
  simp only [st0, List.length_cons, List.length_nil, Nat.reduceAdd, Nat.reduceSub, List.replicate_succ, List.replicate_zero, List.cons_append, List.nil_append]
  repeat' (first
      | (with_reducible refine a_seq_k ?_; intro K hK)
      | ((first | with_reducible refine a_region (by kernel_rfl) ?_ | (with_reducible refine a_draw mixed (by kernel_rfl) ?_; intro C hC) | (with_reducible refine a_cond_k ?_; intro X Y hX hY) | with_reducible refine RetOk.mk ?_); simp (maxSteps := 10000000) (implicitDefEqProofs := false) only [go_sem,  ↓reduceIte, reduceCtorEq, Nat.reduceAdd, Nat.reduceSub, Nat.reduceLeDiff, Nat.reduceEqDiff, Nat.reduceMul, Nat.reduceLT, Nat.reducePow, Int.reduceEq, Int.reduceLT, Int.reduceLE, Int.reduceGT, Int.reduceGE, Int.reduceAdd, Int.reduceSub, Int.reduceNeg, Int.reduceToNat])
      | with_reducible refine a_block ?_
      | with_reducible refine a_ret ?_
      | with_reducible refine a_exit ?_
      | with_reducible refine a_skip ?_
      | with_reducible exact ConfOk.mk (by kernel_rfl)
      | (with_reducible refine eqT_of (eq33 _ _ _ _ _ _) ?_; simp)
      | (with_reducible refine eqT_of (eq35 _ _ _ _ _ _ _ _) ?_; simp)
      | ((fail_if_success with_reducible show False); with_reducible apply_assumption (exfalso := false) (symm := false) only [*, rfl, trivial, congrArg])
      | with_reducible refine And.intro ?_ ?_
      | (intro h; contradiction)
      | (intro h; subst h)
      | intro h
      | simp (maxSteps := 10000000) (implicitDefEqProofs := false) only [go_sem,  ↓reduceIte, reduceCtorEq, Nat.reduceAdd, Nat.reduceSub, Nat.reduceLeDiff, Nat.reduceEqDiff, Nat.reduceMul, Nat.reduceLT, Nat.reducePow, Int.reduceEq, Int.reduceLT, Int.reduceLE, Int.reduceGT, Int.reduceGE, Int.reduceAdd, Int.reduceSub, Int.reduceNeg, Int.reduceToNat])
  all_goals simp [*]
theorem ref_vBool (b : Bool) : ACalls Tryz.prog 31 [.bool b] (.agg (boolV b).enc) := by
  refine acalls_k Tryz.func31 rfl (by kernel_rfl) (congrArg Array.toList Tryz.results31) Tryz.ntmps31 ?_
  intro R hR
  simp only [st0, List.length_cons, List.length_nil, Nat.reduceAdd, Nat.reduceSub, List.replicate_succ, List.replicate_zero, List.cons_append, List.nil_append]
  repeat' (first
      | (with_reducible refine a_seq_k ?_; intro K hK)
      | ((first | with_reducible refine a_region (by kernel_rfl) ?_ | (with_reducible refine a_draw mixed (by kernel_rfl) ?_; intro C hC) | (with_reducible refine a_cond_k ?_; intro X Y hX hY) | with_reducible refine RetOk.mk ?_); simp (maxSteps := 10000000) (implicitDefEqProofs := false) only [go_sem,  ↓reduceIte, reduceCtorEq, Nat.reduceAdd, Nat.reduceSub, Nat.reduceLeDiff, Nat.reduceEqDiff, Nat.reduceMul, Nat.reduceLT, Nat.reducePow, Int.reduceEq, Int.reduceLT, Int.reduceLE, Int.reduceGT, Int.reduceGE, Int.reduceAdd, Int.reduceSub, Int.reduceNeg, Int.reduceToNat])
      | with_reducible refine a_block ?_
      | with_reducible refine a_ret ?_
      | with_reducible refine a_exit ?_
      | with_reducible refine a_skip ?_
      | with_reducible exact ConfOk.mk (by kernel_rfl)
      | (with_reducible refine eqT_of (eq33 _ _ _ _ _ _) ?_; simp)
      | (with_reducible refine eqT_of (eq35 _ _ _ _ _ _ _ _) ?_; simp)
      | ((fail_if_success with_reducible show False); with_reducible apply_assumption (exfalso := false) (symm := false) only [*, rfl, trivial, congrArg])
      | with_reducible refine And.intro ?_ ?_
      | (intro h; contradiction)
      | (intro h; subst h)
      | intro h
      | simp (maxSteps := 10000000) (implicitDefEqProofs := false) only [go_sem,  ↓reduceIte, reduceCtorEq, Nat.reduceAdd, Nat.reduceSub, Nat.reduceLeDiff, Nat.reduceEqDiff, Nat.reduceMul, Nat.reduceLT, Nat.reducePow, Int.reduceEq, Int.reduceLT, Int.reduceLE, Int.reduceGT, Int.reduceGE, Int.reduceAdd, Int.reduceSub, Int.reduceNeg, Int.reduceToNat])
  all_goals simp [boolV, Val.enc, *]
def isErr (e : Int) : Bool := decide (e = 3) || decide (e = 4) || decide (e = 5) || decide (e = 6)
theorem calc_isError (e : Int) : ACalls Tryz.prog 38 [.int .i64 e] (.bool (isErr e)) := by
  refine acalls_k Tryz.func38 rfl (by kernel_rfl) (congrArg Array.toList Tryz.results38) Tryz.ntmps38 ?_
  intro R hR
  simp only [st0, List.length_cons, List.length_nil, Nat.reduceAdd, Nat.reduceSub, List.replicate_succ, List.replicate_zero, List.cons_append, List.nil_append]
  repeat' (first
      | (with_reducible refine a_seq_k ?_; intro K hK)
      | ((first | with_reducible refine a_region (by kernel_rfl) ?_ | (with_reducible refine a_draw mixed (by kernel_rfl) ?_; intro C hC) | (with_reducible refine a_cond_k ?_; intro X Y hX hY) | with_reducible refine RetOk.mk ?_); simp (maxSteps := 10000000) (implicitDefEqProofs := false) only [go_sem,  ↓reduceIte, reduceCtorEq, Nat.reduceAdd, Nat.reduceSub, Nat.reduceLeDiff, Nat.reduceEqDiff, Nat.reduceMul, Nat.reduceLT, Nat.reducePow, Int.reduceEq, Int.reduceLT, Int.reduceLE, Int.reduceGT, Int.reduceGE, Int.reduceAdd, Int.reduceSub, Int.reduceNeg, Int.reduceToNat])
      | with_reducible refine a_block ?_
      | with_reducible refine a_ret ?_
      | with_reducible refine a_exit ?_
      | with_reducible refine a_skip ?_
      | with_reducible exact ConfOk.mk (by kernel_rfl)
      | (with_reducible refine eqT_of (eq33 _ _ _ _ _ _) ?_; simp)
      | (with_reducible refine eqT_of (eq35 _ _ _ _ _ _ _ _) ?_; simp)
      | ((fail_if_success with_reducible show False); with_reducible apply_assumption (exfalso := false) (symm := false) only [*, rfl, trivial, congrArg])
      | with_reducible refine And.intro ?_ ?_
      | (intro h; contradiction)
      | (intro h; subst h)
      | intro h
      | simp (maxSteps := 10000000) (implicitDefEqProofs := false) only [go_sem,  ↓reduceIte, reduceCtorEq, Nat.reduceAdd, Nat.reduceSub, Nat.reduceLeDiff, Nat.reduceEqDiff, Nat.reduceMul, Nat.reduceLT, Nat.reducePow, Int.reduceEq, Int.reduceLT, Int.reduceLE, Int.reduceGT, Int.reduceGE, Int.reduceAdd, Int.reduceSub, Int.reduceNeg, Int.reduceToNat])
  all_goals (unfold isErr; rw [Bool.eq_iff_iff]; simp; omega)
theorem ref_IsError (e : Int) : ACalls Tryz.prog 58 [.int .i64 e] (.bool (isErr e)) := by
  refine acalls_k Tryz.func58 rfl (by kernel_rfl) (congrArg Array.toList Tryz.results58) Tryz.ntmps58 ?_
  intro R hR
  simp only [st0, List.length_cons, List.length_nil, Nat.reduceAdd, Nat.reduceSub, List.replicate_succ, List.replicate_zero, List.cons_append, List.nil_append]
  repeat' (first
      | (with_reducible refine a_seq_k ?_; intro K hK)
      | ((first | with_reducible refine a_region (by kernel_rfl) ?_ | (with_reducible refine a_draw mixed (by kernel_rfl) ?_; intro C hC) | (with_reducible refine a_cond_k ?_; intro X Y hX hY) | with_reducible refine RetOk.mk ?_); simp (maxSteps := 10000000) (implicitDefEqProofs := false) only [go_sem,  ↓reduceIte, reduceCtorEq, Nat.reduceAdd, Nat.reduceSub, Nat.reduceLeDiff, Nat.reduceEqDiff, Nat.reduceMul, Nat.reduceLT, Nat.reducePow, Int.reduceEq, Int.reduceLT, Int.reduceLE, Int.reduceGT, Int.reduceGE, Int.reduceAdd, Int.reduceSub, Int.reduceNeg, Int.reduceToNat])
      | with_reducible refine a_block ?_
      | with_reducible refine a_ret ?_
      | with_reducible refine a_exit ?_
      | with_reducible refine a_skip ?_
      | with_reducible exact ConfOk.mk (by kernel_rfl)
      | (with_reducible refine eqT_of (eq33 _ _ _ _ _ _) ?_; simp)
      | (with_reducible refine eqT_of (eq35 _ _ _ _ _ _ _ _) ?_; simp)
      | ((fail_if_success with_reducible show False); with_reducible apply_assumption (exfalso := false) (symm := false) only [*, rfl, trivial, congrArg])
      | with_reducible refine And.intro ?_ ?_
      | (intro h; contradiction)
      | (intro h; subst h)
      | intro h
      | simp (maxSteps := 10000000) (implicitDefEqProofs := false) only [go_sem,  ↓reduceIte, reduceCtorEq, Nat.reduceAdd, Nat.reduceSub, Nat.reduceLeDiff, Nat.reduceEqDiff, Nat.reduceMul, Nat.reduceLT, Nat.reducePow, Int.reduceEq, Int.reduceLT, Int.reduceLE, Int.reduceGT, Int.reduceGE, Int.reduceAdd, Int.reduceSub, Int.reduceNeg, Int.reduceToNat])
  all_goals (unfold isErr; simp [*])
def zeroV (k n : Int) (s : ByteArray) : Bool := decide (k = 0) && (decide (n = 0) && decide (s = emp))
def oOkC (k n : Int) (s : ByteArray) (e : Int) : Bool := (decide (e = 0) && vOkC k n s) || (isErr e && zeroV k n s)
def oOk (k n : Int) (s : ByteArray) (e : Int) : Bool := if e = 0 then vOk k n s else isErr e && zeroV k n s
theorem calc_validOut (k n : Int) (s : ByteArray) (e : Int) : ACalls Tryz.prog 21 [oA k n s e] (.bool (oOkC k n s e)) := by
  refine acalls_k Tryz.func21 rfl (by kernel_rfl) (congrArg Array.toList Tryz.results21) Tryz.ntmps21 ?_
  intro R hR
  simp only [st0, List.length_cons, List.length_nil, Nat.reduceAdd, Nat.reduceSub, List.replicate_succ, List.replicate_zero, List.cons_append, List.nil_append]
  repeat' (first
      | (with_reducible refine a_seq_k ?_; intro K hK)
      | ((first | with_reducible refine a_region (by kernel_rfl) ?_ | (with_reducible refine a_draw mixed (by kernel_rfl) ?_; intro C hC) | (with_reducible refine a_cond_k ?_; intro X Y hX hY) | with_reducible refine RetOk.mk ?_ | with_reducible refine CallS.intro (value_Valid _ _ _) ?_ | with_reducible refine CallD.intro (value_Valid _ _ _) ?_ | with_reducible refine CallS.intro (calc_isError _) ?_ | with_reducible refine CallD.intro (calc_isError _) ?_); simp (maxSteps := 10000000) (implicitDefEqProofs := false) only [go_sem,  ↓reduceIte, reduceCtorEq, Nat.reduceAdd, Nat.reduceSub, Nat.reduceLeDiff, Nat.reduceEqDiff, Nat.reduceMul, Nat.reduceLT, Nat.reducePow, Int.reduceEq, Int.reduceLT, Int.reduceLE, Int.reduceGT, Int.reduceGE, Int.reduceAdd, Int.reduceSub, Int.reduceNeg, Int.reduceToNat])
      | with_reducible refine a_block ?_
      | with_reducible refine a_ret ?_
      | with_reducible refine a_exit ?_
      | with_reducible refine a_skip ?_
      | with_reducible exact ConfOk.mk (by kernel_rfl)
      | (with_reducible refine eqT_of (eq33 _ _ _ _ _ _) ?_; simp)
      | (with_reducible refine eqT_of (eq35 _ _ _ _ _ _ _ _) ?_; simp)
      | ((fail_if_success with_reducible show False); with_reducible apply_assumption (exfalso := false) (symm := false) only [*, rfl, trivial, congrArg])
      | with_reducible refine And.intro ?_ ?_
      | (intro h; contradiction)
      | (intro h; subst h)
      | intro h
      | simp (maxSteps := 10000000) (implicitDefEqProofs := false) only [go_sem,  ↓reduceIte, reduceCtorEq, Nat.reduceAdd, Nat.reduceSub, Nat.reduceLeDiff, Nat.reduceEqDiff, Nat.reduceMul, Nat.reduceLT, Nat.reducePow, Int.reduceEq, Int.reduceLT, Int.reduceLE, Int.reduceGT, Int.reduceGE, Int.reduceAdd, Int.reduceSub, Int.reduceNeg, Int.reduceToNat])
  all_goals simp [oOkC, zeroV, *]
theorem ref_oValid (k n : Int) (s : ByteArray) (e : Int) : ACalls Tryz.prog 29 [oA k n s e] (.bool (oOk k n s e)) := by
  refine acalls_k Tryz.func29 rfl (by kernel_rfl) (congrArg Array.toList Tryz.results29) Tryz.ntmps29 ?_
  intro R hR
  simp only [st0, List.length_cons, List.length_nil, Nat.reduceAdd, Nat.reduceSub, List.replicate_succ, List.replicate_zero, List.cons_append, List.nil_append]
  repeat' (first
      | (with_reducible refine a_seq_k ?_; intro K hK)
      | ((first | with_reducible refine a_region (by kernel_rfl) ?_ | (with_reducible refine a_draw mixed (by kernel_rfl) ?_; intro C hC) | (with_reducible refine a_cond_k ?_; intro X Y hX hY) | with_reducible refine RetOk.mk ?_ | with_reducible refine CallS.intro (ref_vValid _ _ _) ?_ | with_reducible refine CallD.intro (ref_vValid _ _ _) ?_ | with_reducible refine CallS.intro (ref_IsError _) ?_ | with_reducible refine CallD.intro (ref_IsError _) ?_ | with_reducible refine CallS.intro (ref_vSame _ _ _ _ _ _) ?_ | with_reducible refine CallD.intro (ref_vSame _ _ _ _ _ _) ?_); simp (maxSteps := 10000000) (implicitDefEqProofs := false) only [go_sem,  ↓reduceIte, reduceCtorEq, Nat.reduceAdd, Nat.reduceSub, Nat.reduceLeDiff, Nat.reduceEqDiff, Nat.reduceMul, Nat.reduceLT, Nat.reducePow, Int.reduceEq, Int.reduceLT, Int.reduceLE, Int.reduceGT, Int.reduceGE, Int.reduceAdd, Int.reduceSub, Int.reduceNeg, Int.reduceToNat])
      | with_reducible refine a_block ?_
      | with_reducible refine a_ret ?_
      | with_reducible refine a_exit ?_
      | with_reducible refine a_skip ?_
      | with_reducible exact ConfOk.mk (by kernel_rfl)
      | (with_reducible refine eqT_of (eq33 _ _ _ _ _ _) ?_; simp)
      | (with_reducible refine eqT_of (eq35 _ _ _ _ _ _ _ _) ?_; simp)
      | ((fail_if_success with_reducible show False); with_reducible apply_assumption (exfalso := false) (symm := false) only [*, rfl, trivial, congrArg])
      | with_reducible refine And.intro ?_ ?_
      | (intro h; contradiction)
      | (intro h; subst h)
      | intro h
      | simp (maxSteps := 10000000) (implicitDefEqProofs := false) only [go_sem,  ↓reduceIte, reduceCtorEq, Nat.reduceAdd, Nat.reduceSub, Nat.reduceLeDiff, Nat.reduceEqDiff, Nat.reduceMul, Nat.reduceLT, Nat.reducePow, Int.reduceEq, Int.reduceLT, Int.reduceLE, Int.reduceGT, Int.reduceGE, Int.reduceAdd, Int.reduceSub, Int.reduceNeg, Int.reduceToNat])
  all_goals simp [oOk, zeroV, *]
theorem ref_oSame (k n : Int) (s : ByteArray) (e : Int) (k' n' : Int) (s' : ByteArray) (e' : Int) : ACalls Tryz.prog 8 [oA k n s e, oA k' n' s' e'] (.bool (decide (e = e') && (decide (k = k') && (decide (n = n') && decide (s = s'))))) := by
  refine acalls_k Tryz.func8 rfl (by kernel_rfl) (congrArg Array.toList Tryz.results8) Tryz.ntmps8 ?_
  intro R hR
  simp only [st0, List.length_cons, List.length_nil, Nat.reduceAdd, Nat.reduceSub, List.replicate_succ, List.replicate_zero, List.cons_append, List.nil_append]
  repeat' (first
      | (with_reducible refine a_seq_k ?_; intro K hK)
      | ((first | with_reducible refine a_region (by kernel_rfl) ?_ | (with_reducible refine a_draw mixed (by kernel_rfl) ?_; intro C hC) | (with_reducible refine a_cond_k ?_; intro X Y hX hY) | with_reducible refine RetOk.mk ?_ | with_reducible refine CallS.intro (ref_vSame _ _ _ _ _ _) ?_ | with_reducible refine CallD.intro (ref_vSame _ _ _ _ _ _) ?_); simp (maxSteps := 10000000) (implicitDefEqProofs := false) only [go_sem,  ↓reduceIte, reduceCtorEq, Nat.reduceAdd, Nat.reduceSub, Nat.reduceLeDiff, Nat.reduceEqDiff, Nat.reduceMul, Nat.reduceLT, Nat.reducePow, Int.reduceEq, Int.reduceLT, Int.reduceLE, Int.reduceGT, Int.reduceGE, Int.reduceAdd, Int.reduceSub, Int.reduceNeg, Int.reduceToNat])
      | with_reducible refine a_block ?_
      | with_reducible refine a_ret ?_
      | with_reducible refine a_exit ?_
      | with_reducible refine a_skip ?_
      | with_reducible exact ConfOk.mk (by kernel_rfl)
      | (with_reducible refine eqT_of (eq33 _ _ _ _ _ _) ?_; simp)
      | (with_reducible refine eqT_of (eq35 _ _ _ _ _ _ _ _) ?_; simp)
      | ((fail_if_success with_reducible show False); with_reducible apply_assumption (exfalso := false) (symm := false) only [*, rfl, trivial, congrArg])
      | with_reducible refine And.intro ?_ ?_
      | (intro h; contradiction)
      | (intro h; subst h)
      | intro h
      | simp (maxSteps := 10000000) (implicitDefEqProofs := false) only [go_sem,  ↓reduceIte, reduceCtorEq, Nat.reduceAdd, Nat.reduceSub, Nat.reduceLeDiff, Nat.reduceEqDiff, Nat.reduceMul, Nat.reduceLT, Nat.reducePow, Int.reduceEq, Int.reduceLT, Int.reduceLE, Int.reduceGT, Int.reduceGE, Int.reduceAdd, Int.reduceSub, Int.reduceNeg, Int.reduceToNat])
  all_goals simp [*]
theorem ref_oBool (b : Bool) : ACalls Tryz.prog 17 [.bool b] (oA 3 (if b then 1 else 0) emp 0) := by
  refine acalls_k Tryz.func17 rfl (by kernel_rfl) (congrArg Array.toList Tryz.results17) Tryz.ntmps17 ?_
  intro R hR
  simp only [st0, List.length_cons, List.length_nil, Nat.reduceAdd, Nat.reduceSub, List.replicate_succ, List.replicate_zero, List.cons_append, List.nil_append]
  repeat' (first
      | (with_reducible refine a_seq_k ?_; intro K hK)
      | ((first | with_reducible refine a_region (by kernel_rfl) ?_ | (with_reducible refine a_draw mixed (by kernel_rfl) ?_; intro C hC) | (with_reducible refine a_cond_k ?_; intro X Y hX hY) | with_reducible refine RetOk.mk ?_ | with_reducible refine CallS.intro (ref_vBool _) ?_ | with_reducible refine CallD.intro (ref_vBool _) ?_); simp (maxSteps := 10000000) (implicitDefEqProofs := false) only [go_sem, boolV, Val.enc,  ↓reduceIte, reduceCtorEq, Nat.reduceAdd, Nat.reduceSub, Nat.reduceLeDiff, Nat.reduceEqDiff, Nat.reduceMul, Nat.reduceLT, Nat.reducePow, Int.reduceEq, Int.reduceLT, Int.reduceLE, Int.reduceGT, Int.reduceGE, Int.reduceAdd, Int.reduceSub, Int.reduceNeg, Int.reduceToNat])
      | with_reducible refine a_block ?_
      | with_reducible refine a_ret ?_
      | with_reducible refine a_exit ?_
      | with_reducible refine a_skip ?_
      | with_reducible exact ConfOk.mk (by kernel_rfl)
      | (with_reducible refine eqT_of (eq33 _ _ _ _ _ _) ?_; simp)
      | (with_reducible refine eqT_of (eq35 _ _ _ _ _ _ _ _) ?_; simp)
      | ((fail_if_success with_reducible show False); with_reducible apply_assumption (exfalso := false) (symm := false) only [*, rfl, trivial, congrArg])
      | with_reducible refine And.intro ?_ ?_
      | (intro h; contradiction)
      | (intro h; subst h)
      | intro h
      | simp (maxSteps := 10000000) (implicitDefEqProofs := false) only [go_sem, boolV, Val.enc,  ↓reduceIte, reduceCtorEq, Nat.reduceAdd, Nat.reduceSub, Nat.reduceLeDiff, Nat.reduceEqDiff, Nat.reduceMul, Nat.reduceLT, Nat.reducePow, Int.reduceEq, Int.reduceLT, Int.reduceLE, Int.reduceGT, Int.reduceGE, Int.reduceAdd, Int.reduceSub, Int.reduceNeg, Int.reduceToNat])
  all_goals simp [*]
theorem calc_truth (b : Bool) : ACalls Tryz.prog 47 [.bool b] (oA 3 (if b then 1 else 0) emp 0) := by
  refine acalls_k Tryz.func47 rfl (by kernel_rfl) (congrArg Array.toList Tryz.results47) Tryz.ntmps47 ?_
  intro R hR
  simp only [st0, List.length_cons, List.length_nil, Nat.reduceAdd, Nat.reduceSub, List.replicate_succ, List.replicate_zero, List.cons_append, List.nil_append]
  repeat' (first
      | (with_reducible refine a_seq_k ?_; intro K hK)
      | ((first | with_reducible refine a_region (by kernel_rfl) ?_ | (with_reducible refine a_draw mixed (by kernel_rfl) ?_; intro C hC) | (with_reducible refine a_cond_k ?_; intro X Y hX hY) | with_reducible refine RetOk.mk ?_ | with_reducible refine CallS.intro (value_Bool _) ?_ | with_reducible refine CallD.intro (value_Bool _) ?_); simp (maxSteps := 10000000) (implicitDefEqProofs := false) only [go_sem, boolV, Val.enc,  ↓reduceIte, reduceCtorEq, Nat.reduceAdd, Nat.reduceSub, Nat.reduceLeDiff, Nat.reduceEqDiff, Nat.reduceMul, Nat.reduceLT, Nat.reducePow, Int.reduceEq, Int.reduceLT, Int.reduceLE, Int.reduceGT, Int.reduceGE, Int.reduceAdd, Int.reduceSub, Int.reduceNeg, Int.reduceToNat])
      | with_reducible refine a_block ?_
      | with_reducible refine a_ret ?_
      | with_reducible refine a_exit ?_
      | with_reducible refine a_skip ?_
      | with_reducible exact ConfOk.mk (by kernel_rfl)
      | (with_reducible refine eqT_of (eq33 _ _ _ _ _ _) ?_; simp)
      | (with_reducible refine eqT_of (eq35 _ _ _ _ _ _ _ _) ?_; simp)
      | ((fail_if_success with_reducible show False); with_reducible apply_assumption (exfalso := false) (symm := false) only [*, rfl, trivial, congrArg])
      | with_reducible refine And.intro ?_ ?_
      | (intro h; contradiction)
      | (intro h; subst h)
      | intro h
      | simp (maxSteps := 10000000) (implicitDefEqProofs := false) only [go_sem, boolV, Val.enc,  ↓reduceIte, reduceCtorEq, Nat.reduceAdd, Nat.reduceSub, Nat.reduceLeDiff, Nat.reduceEqDiff, Nat.reduceMul, Nat.reduceLT, Nat.reducePow, Int.reduceEq, Int.reduceLT, Int.reduceLE, Int.reduceGT, Int.reduceGE, Int.reduceAdd, Int.reduceSub, Int.reduceNeg, Int.reduceToNat])
  all_goals simp [*]
def rk (k n e : Int) : Int := if e ≠ 0 then 2 else if k = 0 then 1 else if n = 0 then 0 else 3
theorem calc_rankOf' (k n : Int) (s : ByteArray) (e : Int) : ACalls Tryz.prog 45 [oA k n s e] (.int .i64 (rk k n e)) := calc_rankOf ⟨⟨k, n, s⟩, e⟩
def notN (k n e : Int) : Int := if rk k n e = 3 ∨ rk k n e = 0 then IntKind.wrap .i64 (1 - n) else n
theorem calc_not (k n : Int) (s : ByteArray) (e : Int) : ACalls Tryz.prog 46 [oA k n s e] (oA k (notN k n e) s e) := by
  by_cases hr : rk k n e = 3 ∨ rk k n e = 0
  · rw [show notN k n e = IntKind.wrap .i64 (1 - n) from if_pos hr]
    refine acalls_k Tryz.func46 rfl (by kernel_rfl) (congrArg Array.toList Tryz.results46) Tryz.ntmps46 ?_
    intro R hR
    simp only [st0, List.length_cons, List.length_nil, Nat.reduceAdd, Nat.reduceSub, List.replicate_succ, List.replicate_zero, List.cons_append, List.nil_append]
    repeat' (first
        | (with_reducible refine a_seq_k ?_; intro K hK)
        | ((first | with_reducible refine a_region (by kernel_rfl) ?_ | (with_reducible refine a_draw mixed (by kernel_rfl) ?_; intro C hC) | (with_reducible refine a_cond_k ?_; intro X Y hX hY) | with_reducible refine RetOk.mk ?_ | with_reducible refine CallS.intro (calc_rankOf' _ _ _ _) ?_ | with_reducible refine CallD.intro (calc_rankOf' _ _ _ _) ?_); simp (maxSteps := 10000000) (implicitDefEqProofs := false) only [go_sem,  ↓reduceIte, reduceCtorEq, Nat.reduceAdd, Nat.reduceSub, Nat.reduceLeDiff, Nat.reduceEqDiff, Nat.reduceMul, Nat.reduceLT, Nat.reducePow, Int.reduceEq, Int.reduceLT, Int.reduceLE, Int.reduceGT, Int.reduceGE, Int.reduceAdd, Int.reduceSub, Int.reduceNeg, Int.reduceToNat])
        | with_reducible refine a_block ?_
        | with_reducible refine a_ret ?_
        | with_reducible refine a_exit ?_
        | with_reducible refine a_skip ?_
        | with_reducible exact ConfOk.mk (by kernel_rfl)
        | (with_reducible refine eqT_of (eq33 _ _ _ _ _ _) ?_; simp)
        | (with_reducible refine eqT_of (eq35 _ _ _ _ _ _ _ _) ?_; simp)
        | ((fail_if_success with_reducible show False); with_reducible apply_assumption (exfalso := false) (symm := false) only [*, rfl, trivial, congrArg])
        | with_reducible refine And.intro ?_ ?_
        | (intro h; contradiction)
        | (intro h; subst h)
        | intro h
        | simp (maxSteps := 10000000) (implicitDefEqProofs := false) only [go_sem,  ↓reduceIte, reduceCtorEq, Nat.reduceAdd, Nat.reduceSub, Nat.reduceLeDiff, Nat.reduceEqDiff, Nat.reduceMul, Nat.reduceLT, Nat.reducePow, Int.reduceEq, Int.reduceLT, Int.reduceLE, Int.reduceGT, Int.reduceGE, Int.reduceAdd, Int.reduceSub, Int.reduceNeg, Int.reduceToNat])
    · exact absurd hr (by omega)
  · rw [show notN k n e = n from if_neg hr]
    refine acalls_k Tryz.func46 rfl (by kernel_rfl) (congrArg Array.toList Tryz.results46) Tryz.ntmps46 ?_
    intro R hR
    simp only [st0, List.length_cons, List.length_nil, Nat.reduceAdd, Nat.reduceSub, List.replicate_succ, List.replicate_zero, List.cons_append, List.nil_append]
    repeat' (first
        | (with_reducible refine a_seq_k ?_; intro K hK)
        | ((first | with_reducible refine a_region (by kernel_rfl) ?_ | (with_reducible refine a_draw mixed (by kernel_rfl) ?_; intro C hC) | (with_reducible refine a_cond_k ?_; intro X Y hX hY) | with_reducible refine RetOk.mk ?_ | with_reducible refine CallS.intro (calc_rankOf' _ _ _ _) ?_ | with_reducible refine CallD.intro (calc_rankOf' _ _ _ _) ?_); simp (maxSteps := 10000000) (implicitDefEqProofs := false) only [go_sem,  ↓reduceIte, reduceCtorEq, Nat.reduceAdd, Nat.reduceSub, Nat.reduceLeDiff, Nat.reduceEqDiff, Nat.reduceMul, Nat.reduceLT, Nat.reducePow, Int.reduceEq, Int.reduceLT, Int.reduceLE, Int.reduceGT, Int.reduceGE, Int.reduceAdd, Int.reduceSub, Int.reduceNeg, Int.reduceToNat])
        | with_reducible refine a_block ?_
        | with_reducible refine a_ret ?_
        | with_reducible refine a_exit ?_
        | with_reducible refine a_skip ?_
        | with_reducible exact ConfOk.mk (by kernel_rfl)
        | (with_reducible refine eqT_of (eq33 _ _ _ _ _ _) ?_; simp)
        | (with_reducible refine eqT_of (eq35 _ _ _ _ _ _ _ _) ?_; simp)
        | ((fail_if_success with_reducible show False); with_reducible apply_assumption (exfalso := false) (symm := false) only [*, rfl, trivial, congrArg])
        | with_reducible refine And.intro ?_ ?_
        | (intro h; contradiction)
        | (intro h; subst h)
        | intro h
        | simp (maxSteps := 10000000) (implicitDefEqProofs := false) only [go_sem,  ↓reduceIte, reduceCtorEq, Nat.reduceAdd, Nat.reduceSub, Nat.reduceLeDiff, Nat.reduceEqDiff, Nat.reduceMul, Nat.reduceLT, Nat.reducePow, Int.reduceEq, Int.reduceLT, Int.reduceLE, Int.reduceGT, Int.reduceGE, Int.reduceAdd, Int.reduceSub, Int.reduceNeg, Int.reduceToNat])
    all_goals exact absurd (by omega) hr
end Go.Proofs.YtmlaogjndaeihaaGreatDoor
end
