/- Loops over kinds. Kind, of the specification and of the program. Kind, of the specification and of the program. Kind of the specification. Kind of the program. Values and outs: comparing them whole. Small functions on values and outs. AND, OR, CASE over outs. Node. -/
import Derived.Test.YtoggbjfjmbjegaaGreatDoorT0
import Derived.ChangeKeysEq
set_option linter.unusedSimpArgs false
set_option linter.unusedVariables false
namespace Go.Proofs.YtoggbjfjmbjegaaGreatDoor
open Go Go.Ab
def vEq (a b : Val) : Bool := decide (a.kind = b.kind) && (decide (a.int = b.int) && decide (a.text = b.text))
def oEq (a b : Outv) : Bool := decide (a.v.kind = b.v.kind) && (decide (a.v.int = b.v.int) && (decide (a.v.text = b.v.text) && decide (a.err = b.err)))
theorem fields33 : ∃ f1 f2 f3, (Tryz.prog.fieldsOf 26).toList = [f1, f2, f3] ∧ f1.type = 24 ∧ f1.offset = 0 ∧ f1.name ≠ "_" ∧ f2.type = 2 ∧ f2.offset = 1 ∧ f2.name ≠ "_" ∧ f3.type = 9 ∧ f3.offset = 2 ∧ f3.name ≠ "_" :=
  ⟨(Tryz.prog.fieldsOf 26).toList[0]!, (Tryz.prog.fieldsOf 26).toList[1]!, (Tryz.prog.fieldsOf 26).toList[2]!, by kernel_rfl, by kernel_rfl, by kernel_rfl, of_decide_eq_true (by kernel_rfl), by kernel_rfl, by kernel_rfl, of_decide_eq_true (by kernel_rfl), by kernel_rfl, by kernel_rfl, of_decide_eq_true (by kernel_rfl)⟩
theorem toList_beq (a b : ByteArray) : (a.toList == b.toList) = decide (a = b) := by
  rw [Bool.eq_iff_iff]
  simp only [beq_iff_eq, decide_eq_true_eq]
  rw [ByteArray.toList_eq, ByteArray.toList_eq]
  constructor
  · intro h
    obtain ⟨⟨x⟩⟩ := a
    obtain ⟨⟨y⟩⟩ := b
    simpa using h
  · rintro rfl; rfl
theorem eqIn33 (w : World) (d : Nat) (k k' n n' : Int) (s s' : ByteArray) : (Op.equalIn (d + 2) 26 (.agg #[.int .u8 k, .int .i64 n, .string s]) (.agg #[.int .u8 k', .int .i64 n', .string s'])).run Tryz.prog w = .ok (decide (k = k') && (decide (n = n') && decide (s = s'))) w := by
  obtain ⟨f1, f2, f3, hf, t1, o1, n1, t2, o2, n2, t3, o3, n3⟩ := fields33
  rw [run_equalIn_agg w (d + 1) _ _ _ (by kernel_rfl) (by kernel_rfl), hf]
  have p1 : ∀ x y z : Value, (part f1.type #[x, y, z] f1.offset).run Tryz.prog w = .ok x w := fun x y z => by rw [t1, o1]; exact run_part_plain w (by kernel_rfl) rfl
  have p2 : ∀ x y z : Value, (part f2.type #[x, y, z] f2.offset).run Tryz.prog w = .ok y w := fun x y z => by rw [t2, o2]; exact run_part_plain w (by kernel_rfl) rfl
  have p3 : ∀ x y z : Value, (part f3.type #[x, y, z] f3.offset).run Tryz.prog w = .ok z w := fun x y z => by rw [t3, o3]; exact run_part_plain w (by kernel_rfl) rfl
  have e1 : ∀ a b, (Op.equalIn (d + 1) f1.type (.int .u8 a) (.int .u8 b)).run Tryz.prog w = .ok (a == b) w := fun a b => by rw [t1]; exact run_equalIn_int w d _ .u8 .u8 a b (by kernel_rfl)
  have e2 : ∀ a b, (Op.equalIn (d + 1) f2.type (.int .i64 a) (.int .i64 b)).run Tryz.prog w = .ok (a == b) w := fun a b => by rw [t2]; exact run_equalIn_int w d _ .i64 .i64 a b (by kernel_rfl)
  have e3 : ∀ a b, (Op.equalIn (d + 1) f3.type (.string a) (.string b)).run Tryz.prog w = .ok (a.toList == b.toList) w := fun a b => by rw [t3]; exact run_equalIn_string w d _ a b (by kernel_rfl)
  simp only [Op.eqFields, if_pos n1, if_pos n2, if_pos n3, Sem.run_bind, p1, p2, p3, e1, e2, e3, Result.andThen_ok, Sem.run_ite, toList_beq]
  by_cases h1 : k = k' <;> by_cases h2 : n = n' <;> by_cases h3 : s = s' <;> simp [h1, h2, h3]
theorem eqT_of {P : Program} {t : TypeId} {xs ys : List AV} {r r' : Bool} (h : EqT P t xs ys r) (e : r = r') : EqT P t xs ys r' := e ▸ h
theorem eq33 (k k' n n' : Int) (s s' : ByteArray) : EqT Tryz.prog 26 [.int .u8 k, .int .i64 n, .str s] [.int .u8 k', .int .i64 n', .str s'] (decide (k = k') && (decide (n = n') && decide (s = s'))) := by
  intro w own vs us h1 h2
  obtain _ | ⟨a1, h1⟩ := h1; obtain _ | ⟨a2, h1⟩ := h1; obtain _ | ⟨a3, h1⟩ := h1; obtain _ | _ := h1
  obtain _ | ⟨b1, h2⟩ := h2; obtain _ | ⟨b2, h2⟩ := h2; obtain _ | ⟨b3, h2⟩ := h2; obtain _ | _ := h2
  cases a1; cases a2; cases a3; cases b1; cases b2; cases b3
  refine ⟨fun x y => run_eqGuard_agg w _ _ _ _ _ _ (by kernel_rfl), fun x y => run_eqGuard_agg w _ _ _ _ _ _ (by kernel_rfl), ?_⟩
  exact eqIn33 w 9998 k k' n n' s s'

@[reducible] def vA (k n : Int) (s : ByteArray) : AV := .agg [.int .u8 k, .int .i64 n, .str s]
@[reducible] def oA (k n : Int) (s : ByteArray) (e : Int) : AV := .agg [.int .u8 k, .int .i64 n, .str s, .int .i64 e]
@[reducible] def emp : ByteArray := ⟨#[]⟩
attribute [local go_sem ↓] parts_tt parts_ff parts_tf parts_ft reduceIte
attribute [local go_sem] reduceCtorEq Nat.reduceAdd Nat.reduceSub Nat.reduceLeDiff Nat.reduceEqDiff Nat.reduceMul Nat.reduceLT Nat.reducePow Int.reduceEq Int.reduceLT Int.reduceLE Int.reduceGT Int.reduceGE Int.reduceAdd Int.reduceSub Int.reduceNeg Int.reduceToNat parts_eq learnT aops_nil aops_cons aopsD_nil aopsD_cons stepS stepD gval St.learn skipR St.after putτ applyUpd List.foldl_cons List.foldl_nil pureOp memOp callOf litA closeO closeK List.flatMap_cons List.flatMap_nil Option.map_none decide_false opnd ofConst leaf binA unA lenA indexA indexAddrA fieldAddrA fieldA weak_slice weak_nils weak_str weak_view weak_viewF weak_sliceF weak_ptr weak_cptr weak_rptr weak_sl weak_sl0 weak_any sliceFA_slice sliceFA_str sliceFA_view sliceFA_none sliceFA_some sameO sliceA convertA pickV fillA placeS cellsA setA partA loadM storeM appendM srcEls lookBox lookRow lookMap closeL closeV scalarB scalarL killed buildEls lookupA leafEq eqAll resA resL tupA retA thenA blockA isInt loA hiA foldA maxA minA okSize leafB closedB Res.foot List.getD_cons_zero List.getD_cons_succ List.set_cons_zero List.set_cons_succ List.map_cons List.map_nil List.append_nil List.nil_append List.cons_append List.length_cons List.length_nil List.take_succ_cons List.take_zero List.drop_succ_cons List.drop_zero List.take_nil List.drop_nil List.all_cons List.all_nil List.getElem?_toArray List.getElem?_cons_zero List.getElem?_cons_succ Option.bind_some Option.map_some true_and and_true true_implies ne_eq not_true_eq_false not_false_eq_true Bool.true_eq_false Bool.false_eq_true Bool.not_true Bool.not_false decide_eq_true_eq decide_eq_false_iff_not false_implies implies_true and_self ite_true ite_false cond_true cond_false Option.some.injEq List.reverse_cons List.reverse_nil Bool.and_self Bool.true_and Bool.and_true Bool.false_and Bool.and_false Bool.or_true Bool.true_or Bool.or_false Bool.false_or Bool.not_eq_eq_eq_not Bool.not_not Bool.or_self beq_self_eq_true and_false false_and or_true true_or or_false false_or not_true not_false_iff Decidable.not_not lookT lookR tabT tabR Int.toNat_natCast List.length_map List.map_append List.length_append decide_true decide_false tmod2 List.mem_singleton forall_eq elOk1 elOk3 elOk4 castn0 castn1 castn2 castn3 getD_mid getD_mid_map at_lt at_end mid_lt mid_lt' nat_ge List.size_toArray Array.size_empty Nat.add_zero Nat.zero_add
attribute [local irreducible] ASpec ACalls retA ti EqT
set_option linter.unusedSimpArgs false
set_option maxHeartbeats 4000000
set_option maxRecDepth 100000
set_option linter.unusedVariables false
attribute [local go_sem] ti2 ti3 ti4 ti5 ti9 ti21 ti22 ti24 ti26 ti27 ti28 ti30 ti34 ti52 ti68 ti69 ti73 ti78 ti86 ti89 ti99 ti122 ti123 ti124 ti144 ti173 ti174 ti190 ti191 ti199 ti288
def kd (k : Int) : List AV := [.int .u8 k]
@[reducible] def kinds (ks : List Int) : AV := .slice (ks.map kd)
theorem ref_Agree (a b : Int) : ACalls Tryz.prog 190 [.int .u8 a, .int .u8 b] (.bool (agree a b)) := by
  refine acalls_k Tryz.func190 rfl (by kernel_rfl) (congrArg Array.toList Tryz.results190) Tryz.ntmps190 ?_
  intro R hR
  simp only [st0, List.length_cons, List.length_nil, Nat.reduceAdd, Nat.reduceSub, List.replicate_succ, List.replicate_zero, List.cons_append, List.nil_append]
  repeat' (first | (with_reducible refine a_seq_k ?_; intro K hK) | (with_reducible first | refine a_block ?_ | refine a_ret ?_ | refine a_exit ?_ | refine a_skip ?_ | exact ConfOk.mk (by kernel_rfl)) | (with_reducible refine eqT_of (eq33 _ _ _ _ _ _) ?_; simp) | (with_reducible refine eqT_of (eq35 _ _ _ _ _ _ _ _) ?_; simp) | ((fail_if_success with_reducible show False); with_reducible apply_assumption (exfalso := false) (symm := false) only [*, rfl, trivial, congrArg]) | with_reducible refine And.intro ?_ ?_ | (intro h; contradiction) | (intro h; subst h) | intro h | ((try (with_reducible first | refine a_region (by kernel_rfl) ?_ | (refine a_draw mixed (by kernel_rfl) ?_; intro C hC) | (refine a_cond_k ?_; intro X Y hX hY) | refine RetOk.mk ?_)); simp (maxSteps := 10000000) (implicitDefEqProofs := false) only [go_sem]))
  all_goals simp [agree, *]
theorem ref_allAgree (ks : List Int) (k : Int) (hl : ks.length < 2 ^ 62) : ACalls Tryz.prog 189 [kinds ks, .int .u8 k] (.bool (ks.all fun x => agree x k)) := by
  refine acalls_k Tryz.func189 rfl (by kernel_rfl) (congrArg Array.toList Tryz.results189) Tryz.ntmps189 ?_
  intro R hR
  simp only [st0, List.length_cons, List.length_nil, Nat.reduceAdd, Nat.reduceSub, List.replicate_succ, List.replicate_zero, List.cons_append, List.nil_append]
  repeat' (first | (with_reducible refine a_seq_k ?_; intro K hK) | (with_reducible first | refine a_block ?_ | refine a_ret ?_ | refine a_exit ?_ | refine a_skip ?_ | exact ConfOk.mk (by kernel_rfl)) | (with_reducible refine eqT_of (eq33 _ _ _ _ _ _) ?_; simp) | (with_reducible refine eqT_of (eq35 _ _ _ _ _ _ _ _) ?_; simp) | ((fail_if_success with_reducible show False); with_reducible apply_assumption (exfalso := false) (symm := false) only [*, rfl, trivial, congrArg]) | with_reducible refine And.intro ?_ ?_ | (intro h; contradiction) | (intro h; subst h) | intro h | ((try (with_reducible first | refine a_region (by kernel_rfl) ?_ | (refine a_draw mixed (by kernel_rfl) ?_; intro C hC) | (refine a_cond_k ?_; intro X Y hX hY) | refine RetOk.mk ?_)); simp (maxSteps := 10000000) (implicitDefEqProofs := false) only [go_sem]))
  refine a_loop_k (fun n st => ∃ (g : Nat) (pre rest : List _) (acc : Unit), ks = pre ++ rest ∧ n = rest.length ∧ ((pre.all fun x => agree x k) = true) ∧ Has st 19 [(0, .slice (ks.map kd)), (1, .int .u8 k), (5, .int .i64 pre.length)] []) (ks).length ⟨0, [], ks, (), rfl, rfl, rfl, ⟨rfl, rfl, by simp [kd, Outv.enc, Val.enc], by simp [kd, Outv.enc, Val.enc]⟩⟩ ?_
  rintro n st ⟨g, pre, rest, acc, he, rfl, hp, hs⟩ K hK
  have hw := wrap_nat pre.length (by have := congrArg List.length he; simp at this; omega)
  subst he
  refine a_has hs fun τ σ γ => ?_
  rcases rest with _ | ⟨x, rest⟩
  · repeat' (first | (with_reducible refine a_seq_k ?_; intro K hK) | (with_reducible first | refine a_block ?_ | refine a_ret ?_ | refine a_exit ?_ | refine a_skip ?_ | exact ConfOk.mk (by kernel_rfl)) | (with_reducible refine eqT_of (eq33 _ _ _ _ _ _) ?_; simp) | (with_reducible refine eqT_of (eq35 _ _ _ _ _ _ _ _) ?_; simp) | ((fail_if_success with_reducible show False); with_reducible apply_assumption (exfalso := false) (symm := false) only [*, rfl, trivial, congrArg]) | with_reducible refine And.intro ?_ ?_ | (intro h; contradiction) | (intro h; subst h) | intro h | ((try (with_reducible first | refine a_region (by kernel_rfl) ?_ | (refine a_draw mixed (by kernel_rfl) ?_; intro C hC) | (refine a_cond_k ?_; intro X Y hX hY) | refine RetOk.mk ?_)); simp (maxSteps := 10000000) (implicitDefEqProofs := false) only [go_sem, kd, hw]))
    · simp_all only []
  · repeat' (first | (with_reducible refine a_seq_k ?_; intro K hK) | (with_reducible first | refine a_block ?_ | refine a_ret ?_ | refine a_exit ?_ | refine a_skip ?_ | exact ConfOk.mk (by kernel_rfl)) | (with_reducible refine eqT_of (eq33 _ _ _ _ _ _) ?_; simp) | (with_reducible refine eqT_of (eq35 _ _ _ _ _ _ _ _) ?_; simp) | ((fail_if_success with_reducible show False); with_reducible apply_assumption (exfalso := false) (symm := false) only [*, rfl, trivial, congrArg]) | with_reducible refine And.intro ?_ ?_ | (intro h; contradiction) | (intro h; subst h) | intro h | ((try (with_reducible first | refine a_region (by kernel_rfl) ?_ | (refine a_draw mixed (by kernel_rfl) ?_; intro C hC) | (refine a_cond_k ?_; intro X Y hX hY) | refine RetOk.mk ?_ | refine CallS.intro (ref_Agree _ _) ?_ | refine CallD.intro (ref_Agree _ _) ?_)); simp (maxSteps := 10000000) (implicitDefEqProofs := false) only [go_sem, kd, hw]))
    · simp [*]
    · exact ⟨⟨rest.length, by simp, 0, pre ++ [x], rest, (), by simp, rfl, by simp [*], ⟨rfl, rfl, by simp [kd, Outv.enc, Val.enc], by simp [kd, Outv.enc, Val.enc]⟩⟩⟩
def commonGo (out : Int) : List Int → Int × Bool
  | [] => (out, true)
  | x :: r => if agree out x = true then commonGo (if out = 0 then x else out) r else (0, false)
theorem ref_Common (ks : List Int) (hl : ks.length < 2 ^ 62) : ACalls Tryz.prog 192 [kinds ks] (.tuple [.int .u8 (commonGo 0 ks).1, .bool (commonGo 0 ks).2]) := by
  refine acalls_k Tryz.func192 rfl (by kernel_rfl) (congrArg Array.toList Tryz.results192) Tryz.ntmps192 ?_
  intro R hR
  simp only [st0, List.length_cons, List.length_nil, Nat.reduceAdd, Nat.reduceSub, List.replicate_succ, List.replicate_zero, List.cons_append, List.nil_append]
  repeat' (first | (with_reducible refine a_seq_k ?_; intro K hK) | (with_reducible first | refine a_block ?_ | refine a_ret ?_ | refine a_exit ?_ | refine a_skip ?_ | exact ConfOk.mk (by kernel_rfl)) | (with_reducible refine eqT_of (eq33 _ _ _ _ _ _) ?_; simp) | (with_reducible refine eqT_of (eq35 _ _ _ _ _ _ _ _) ?_; simp) | ((fail_if_success with_reducible show False); with_reducible apply_assumption (exfalso := false) (symm := false) only [*, rfl, trivial, congrArg]) | with_reducible refine And.intro ?_ ?_ | (intro h; contradiction) | (intro h; subst h) | intro h | ((try (with_reducible first | refine a_region (by kernel_rfl) ?_ | (refine a_draw mixed (by kernel_rfl) ?_; intro C hC) | (refine a_cond_k ?_; intro X Y hX hY) | refine RetOk.mk ?_)); simp (maxSteps := 10000000) (implicitDefEqProofs := false) only [go_sem]))
  refine a_loop_k (fun n st => ∃ (g : Nat) (pre rest : List _) (out : Int), ks = pre ++ rest ∧ n = rest.length ∧ (commonGo out rest = commonGo 0 ks) ∧ Has st 26 [(0, .slice (ks.map kd)), (4, .int .u8 out), (5, .int .i64 pre.length)] []) (ks).length ⟨0, [], ks, 0, rfl, rfl, rfl, ⟨rfl, rfl, by simp [kd, Outv.enc, Val.enc], by simp [kd, Outv.enc, Val.enc]⟩⟩ ?_
  rintro n st ⟨g, pre, rest, out, he, rfl, hp, hs⟩ K hK
  have hw := wrap_nat pre.length (by have := congrArg List.length he; simp at this; omega)
  subst he
  refine a_has hs fun τ σ γ => ?_
  rcases rest with _ | ⟨x, rest⟩
  · repeat' (first | (with_reducible refine a_seq_k ?_; intro K hK) | (with_reducible first | refine a_block ?_ | refine a_ret ?_ | refine a_exit ?_ | refine a_skip ?_ | exact ConfOk.mk (by kernel_rfl)) | (with_reducible refine eqT_of (eq33 _ _ _ _ _ _) ?_; simp) | (with_reducible refine eqT_of (eq35 _ _ _ _ _ _ _ _) ?_; simp) | ((fail_if_success with_reducible show False); with_reducible apply_assumption (exfalso := false) (symm := false) only [*, rfl, trivial, congrArg]) | with_reducible refine And.intro ?_ ?_ | (intro h; contradiction) | (intro h; subst h) | intro h | ((try (with_reducible first | refine a_region (by kernel_rfl) ?_ | (refine a_draw mixed (by kernel_rfl) ?_; intro C hC) | (refine a_cond_k ?_; intro X Y hX hY) | refine RetOk.mk ?_)); simp (maxSteps := 10000000) (implicitDefEqProofs := false) only [go_sem, kd, hw]))
    · simp only [List.append_nil, commonGo] at hp; simp [← hp]
  · repeat' (first | (with_reducible refine a_seq_k ?_; intro K hK) | (with_reducible first | refine a_block ?_ | refine a_ret ?_ | refine a_exit ?_ | refine a_skip ?_ | exact ConfOk.mk (by kernel_rfl)) | (with_reducible refine eqT_of (eq33 _ _ _ _ _ _) ?_; simp) | (with_reducible refine eqT_of (eq35 _ _ _ _ _ _ _ _) ?_; simp) | ((fail_if_success with_reducible show False); with_reducible apply_assumption (exfalso := false) (symm := false) only [*, rfl, trivial, congrArg]) | with_reducible refine And.intro ?_ ?_ | (intro h; contradiction) | (intro h; subst h) | intro h | ((try (with_reducible first | refine a_region (by kernel_rfl) ?_ | (refine a_draw mixed (by kernel_rfl) ?_; intro C hC) | (refine a_cond_k ?_; intro X Y hX hY) | refine RetOk.mk ?_ | refine CallS.intro (ref_Agree _ _) ?_ | refine CallD.intro (ref_Agree _ _) ?_)); simp (maxSteps := 10000000) (implicitDefEqProofs := false) only [go_sem, kd, hw]))
    · rw [← hp]; simp [commonGo, *]
    · exact ⟨⟨rest.length, by simp, 0, pre ++ [x], rest, x, by simp, rfl, by rw [← hp]; simp [commonGo, *], ⟨rfl, rfl, by simp [kd, Outv.enc, Val.enc], by simp [kd, Outv.enc, Val.enc]⟩⟩⟩
    · exact ⟨⟨rest.length, by simp, 0, pre ++ [x], rest, out, by simp, rfl, by rw [← hp]; simp [commonGo, *], ⟨rfl, rfl, by simp [kd, Outv.enc, Val.enc], by simp [kd, Outv.enc, Val.enc]⟩⟩⟩
theorem calc_common1 (l k : Int) : ACalls Tryz.prog 246 [.int .u8 l, .cptr [.int .u8 k]] (.bool (!agree l k)) := by
  refine acalls_k Tryz.func246 rfl (by kernel_rfl) (congrArg Array.toList Tryz.results246) Tryz.ntmps246 ?_
  intro R hR
  simp only [st0, List.length_cons, List.length_nil, Nat.reduceAdd, Nat.reduceSub, List.replicate_succ, List.replicate_zero, List.cons_append, List.nil_append]
  repeat' (first | (with_reducible refine a_seq_k ?_; intro K hK) | (with_reducible first | refine a_block ?_ | refine a_ret ?_ | refine a_exit ?_ | refine a_skip ?_ | exact ConfOk.mk (by kernel_rfl)) | (with_reducible refine eqT_of (eq33 _ _ _ _ _ _) ?_; simp) | (with_reducible refine eqT_of (eq35 _ _ _ _ _ _ _ _) ?_; simp) | ((fail_if_success with_reducible show False); with_reducible apply_assumption (exfalso := false) (symm := false) only [*, rfl, trivial, congrArg]) | with_reducible refine And.intro ?_ ?_ | (intro h; contradiction) | (intro h; subst h) | intro h | ((try (with_reducible first | refine a_region (by kernel_rfl) ?_ | (refine a_draw mixed (by kernel_rfl) ?_; intro C hC) | (refine a_cond_k ?_; intro X Y hX hY) | refine RetOk.mk ?_ | refine CallS.intro (calc_agree _ _) ?_ | refine CallD.intro (calc_agree _ _) ?_)); simp (maxSteps := 10000000) (implicitDefEqProofs := false) only [go_sem]))
theorem calc_Kind1 (k : Int) : ACalls Tryz.prog 163 [.int .u8 k] (.bool (decide (3 < k))) := by
  refine acalls_k Tryz.func163 rfl (by kernel_rfl) (congrArg Array.toList Tryz.results163) Tryz.ntmps163 ?_
  intro R hR
  simp only [st0, List.length_cons, List.length_nil, Nat.reduceAdd, Nat.reduceSub, List.replicate_succ, List.replicate_zero, List.cons_append, List.nil_append]
  repeat' (first | (with_reducible refine a_seq_k ?_; intro K hK) | (with_reducible first | refine a_block ?_ | refine a_ret ?_ | refine a_exit ?_ | refine a_skip ?_ | exact ConfOk.mk (by kernel_rfl)) | (with_reducible refine eqT_of (eq33 _ _ _ _ _ _) ?_; simp) | (with_reducible refine eqT_of (eq35 _ _ _ _ _ _ _ _) ?_; simp) | ((fail_if_success with_reducible show False); with_reducible apply_assumption (exfalso := false) (symm := false) only [*, rfl, trivial, congrArg]) | with_reducible refine And.intro ?_ ?_ | (intro h; contradiction) | (intro h; subst h) | intro h | ((try (with_reducible first | refine a_region (by kernel_rfl) ?_ | (refine a_draw mixed (by kernel_rfl) ?_; intro C hC) | (refine a_cond_k ?_; intro X Y hX hY) | refine RetOk.mk ?_)); simp (maxSteps := 10000000) (implicitDefEqProofs := false) only [go_sem]))
def idxF {α : Type} (p : α → Bool) (ks : List α) : Int := if ks.any p = true then (ks.findIdx p : Int) else -1
theorem idxF_none {α : Type} {p : α → Bool} {ks : List α} (h : ks.any p = false) : -1 = idxF p ks := by unfold idxF; rw [if_neg (by simp [h])]
theorem idxF_hit {α : Type} {p : α → Bool} {pre rest : List α} {x : α} (h : pre.any p = false) (hx : p x = true) : (pre.length : Int) = idxF p (pre ++ x :: rest) := by
  have : List.findIdx p (pre ++ x :: rest) = pre.length := by
    induction pre with
    | nil => simp [List.findIdx_cons, hx]
    | cons y pre ih =>
      simp only [List.any_cons, Bool.or_eq_false_iff] at h
      simp [List.findIdx_cons, h.1, ih h.2]
  unfold idxF; rw [if_pos (by simp [hx]), this]
theorem idxF_ge {α : Type} (p : α → Bool) (ks : List α) : decide (0 ≤ idxF p ks) = ks.any p := by
  unfold idxF; split
  · rename_i h; rw [h]; simp
  · rename_i h; simp only [Bool.not_eq_true] at h; rw [h]; simp
theorem sl_IndexFunc (ks : List Int) (fn : FuncId) (cap : List AV) (p : Int → Bool) (hc : ∀ σ n, closeL (closeV σ (n + 1)) cap = some (cap, [])) (hf : ∀ x, ACalls Tryz.prog fn (.int .u8 x :: cap) (.bool (p x))) (hl : ks.length < 2 ^ 62) : ACalls Tryz.prog 244 [kinds ks, .func (.func fn) cap] (.int .i64 (idxF p ks)) := by
  refine acalls_k Tryz.func244 rfl (by kernel_rfl) (congrArg Array.toList Tryz.results244) Tryz.ntmps244 ?_
  intro R hR
  simp only [st0, List.length_cons, List.length_nil, Nat.reduceAdd, Nat.reduceSub, List.replicate_succ, List.replicate_zero, List.cons_append, List.nil_append]
  repeat' (first | (with_reducible refine a_seq_k ?_; intro K hK) | (with_reducible first | refine a_block ?_ | refine a_ret ?_ | refine a_exit ?_ | refine a_skip ?_ | exact ConfOk.mk (by kernel_rfl)) | (with_reducible refine eqT_of (eq33 _ _ _ _ _ _) ?_; simp) | (with_reducible refine eqT_of (eq35 _ _ _ _ _ _ _ _) ?_; simp) | ((fail_if_success with_reducible show False); with_reducible apply_assumption (exfalso := false) (symm := false) only [*, rfl, trivial, congrArg]) | with_reducible refine And.intro ?_ ?_ | (intro h; contradiction) | (intro h; subst h) | intro h | ((try (with_reducible first | refine a_region (by kernel_rfl) ?_ | (refine a_draw mixed (by kernel_rfl) ?_; intro C hC) | (refine a_cond_k ?_; intro X Y hX hY) | refine RetOk.mk ?_)); simp (maxSteps := 10000000) (implicitDefEqProofs := false) only [go_sem]))
  refine a_loop_k (fun n st => ∃ (g : Nat) (pre rest : List _) (acc : Unit), ks = pre ++ rest ∧ n = rest.length ∧ ((pre.any p) = false) ∧ Has st 19 [(0, .slice (ks.map kd)), (1, .func (.func fn) cap), (6, .slice (ks.map kd)), (7, .int .i64 ks.length), (8, .int .i64 pre.length)] []) (ks).length ⟨0, [], ks, (), rfl, rfl, rfl, ⟨rfl, rfl, by simp [kd, Outv.enc, Val.enc], by simp [kd, Outv.enc, Val.enc]⟩⟩ ?_
  rintro n st ⟨g, pre, rest, acc, he, rfl, hp, hs⟩ K hK
  have hw := wrap_nat pre.length (by have := congrArg List.length he; simp at this; omega)
  subst he
  refine a_has hs fun τ σ γ => ?_
  rcases rest with _ | ⟨x, rest⟩
  · repeat' (first | (with_reducible refine a_seq_k ?_; intro K hK) | (with_reducible first | refine a_block ?_ | refine a_ret ?_ | refine a_exit ?_ | refine a_skip ?_ | exact ConfOk.mk (by kernel_rfl)) | (with_reducible refine eqT_of (eq33 _ _ _ _ _ _) ?_; simp) | (with_reducible refine eqT_of (eq35 _ _ _ _ _ _ _ _) ?_; simp) | ((fail_if_success with_reducible show False); with_reducible apply_assumption (exfalso := false) (symm := false) only [*, rfl, trivial, congrArg]) | with_reducible refine And.intro ?_ ?_ | (intro h; contradiction) | (intro h; subst h) | intro h | ((try (with_reducible first | refine a_region (by kernel_rfl) ?_ | (refine a_draw mixed (by kernel_rfl) ?_; intro C hC) | (refine a_cond_k ?_; intro X Y hX hY) | refine RetOk.mk ?_)); simp (maxSteps := 10000000) (implicitDefEqProofs := false) only [go_sem, kd, hw, hc]))
    · simp at hp; exact idxF_none (by simpa using hp)
  · repeat' (first | (with_reducible refine a_seq_k ?_; intro K hK) | (with_reducible first | refine a_block ?_ | refine a_ret ?_ | refine a_exit ?_ | refine a_skip ?_ | exact ConfOk.mk (by kernel_rfl)) | (with_reducible refine eqT_of (eq33 _ _ _ _ _ _) ?_; simp) | (with_reducible refine eqT_of (eq35 _ _ _ _ _ _ _ _) ?_; simp) | ((fail_if_success with_reducible show False); with_reducible apply_assumption (exfalso := false) (symm := false) only [*, rfl, trivial, congrArg]) | with_reducible refine And.intro ?_ ?_ | (intro h; contradiction) | (intro h; subst h) | intro h | ((try (with_reducible first | refine a_region (by kernel_rfl) ?_ | (refine a_draw mixed (by kernel_rfl) ?_; intro C hC) | (refine a_cond_k ?_; intro X Y hX hY) | refine RetOk.mk ?_ | refine CallS.intro (hf _) ?_ | refine CallD.intro (hf _) ?_)); simp (maxSteps := 10000000) (implicitDefEqProofs := false) only [go_sem, kd, hw, hc]))
    · exact idxF_hit (by assumption) (by assumption)
    · exact ⟨⟨rest.length, by simp, 0, pre ++ [x], rest, (), by simp, rfl, by simp [*], ⟨rfl, rfl, by simp [kd, Outv.enc, Val.enc], by simp [kd, Outv.enc, Val.enc]⟩⟩⟩
theorem sl_ContainsFunc (ks : List Int) (fn : FuncId) (cap : List AV) (p : Int → Bool) (hc : ∀ σ n, closeL (closeV σ (n + 1)) cap = some (cap, [])) (hf : ∀ x, ACalls Tryz.prog fn (.int .u8 x :: cap) (.bool (p x))) (hl : ks.length < 2 ^ 62) : ACalls Tryz.prog 162 [kinds ks, .func (.func fn) cap] (.bool (ks.any p)) := by
  refine acalls_k Tryz.func162 rfl (by kernel_rfl) (congrArg Array.toList Tryz.results162) Tryz.ntmps162 ?_
  intro R hR
  simp only [st0, List.length_cons, List.length_nil, Nat.reduceAdd, Nat.reduceSub, List.replicate_succ, List.replicate_zero, List.cons_append, List.nil_append]
  repeat' (first | (with_reducible refine a_seq_k ?_; intro K hK) | (with_reducible first | refine a_block ?_ | refine a_ret ?_ | refine a_exit ?_ | refine a_skip ?_ | exact ConfOk.mk (by kernel_rfl)) | (with_reducible refine eqT_of (eq33 _ _ _ _ _ _) ?_; simp) | (with_reducible refine eqT_of (eq35 _ _ _ _ _ _ _ _) ?_; simp) | ((fail_if_success with_reducible show False); with_reducible apply_assumption (exfalso := false) (symm := false) only [*, rfl, trivial, congrArg]) | with_reducible refine And.intro ?_ ?_ | (intro h; contradiction) | (intro h; subst h) | intro h | ((try (with_reducible first | refine a_region (by kernel_rfl) ?_ | (refine a_draw mixed (by kernel_rfl) ?_; intro C hC) | (refine a_cond_k ?_; intro X Y hX hY) | refine RetOk.mk ?_ | refine CallS.intro (sl_IndexFunc _ _ _ _ hc hf hl) ?_ | refine CallD.intro (sl_IndexFunc _ _ _ _ hc hf hl) ?_)); simp (maxSteps := 10000000) (implicitDefEqProofs := false) only [go_sem, kd, hc]))
  all_goals simp [idxF_ge]
@[reducible] def mx (k x : Int) : Int := if k < x then x else k
def maxOf (ks : List Int) : Int := ks.foldl mx 0
def commonC (ks : List Int) : Int × Bool := (maxOf ks, !ks.any fun l => !agree l (maxOf ks))
theorem calc_common (ks : List Int) (hl : ks.length < 2 ^ 62) : ACalls Tryz.prog 165 [kinds ks] (.tuple [.int .u8 (commonC ks).1, .bool (commonC ks).2]) := by
  refine acalls_k Tryz.func165 rfl (by kernel_rfl) (congrArg Array.toList Tryz.results165) Tryz.ntmps165 ?_
  intro R hR
  simp only [st0, List.length_cons, List.length_nil, Nat.reduceAdd, Nat.reduceSub, List.replicate_succ, List.replicate_zero, List.cons_append, List.nil_append]
  repeat' (first | (with_reducible refine a_seq_k ?_; intro K hK) | (with_reducible first | refine a_block ?_ | refine a_ret ?_ | refine a_exit ?_ | refine a_skip ?_ | exact ConfOk.mk (by kernel_rfl)) | (with_reducible refine eqT_of (eq33 _ _ _ _ _ _) ?_; simp) | (with_reducible refine eqT_of (eq35 _ _ _ _ _ _ _ _) ?_; simp) | ((fail_if_success with_reducible show False); with_reducible apply_assumption (exfalso := false) (symm := false) only [*, rfl, trivial, congrArg]) | with_reducible refine And.intro ?_ ?_ | (intro h; contradiction) | (intro h; subst h) | intro h | ((try (with_reducible first | refine a_region (by kernel_rfl) ?_ | (refine a_draw mixed (by kernel_rfl) ?_; intro C hC) | (refine a_cond_k ?_; intro X Y hX hY) | refine RetOk.mk ?_)); simp (maxSteps := 10000000) (implicitDefEqProofs := false) only [go_sem]))
  refine a_loop_k (fun n st => ∃ (g : Nat) (pre rest : List _) (k : Int), ks = pre ++ rest ∧ n = rest.length ∧ (rest.foldl mx k = maxOf ks) ∧ Has st 21 [(0, .slice (ks.map kd)), (2, .ptr 2 g 0), (3, .bool false), (6, .slice (ks.map kd)), (7, .int .i64 ks.length), (8, .int .i64 pre.length)] [(2, .box g [.int .u8 k])]) (ks).length ⟨0, [], ks, 0, rfl, rfl, rfl, ⟨rfl, rfl, by simp [kd, Outv.enc, Val.enc], by simp [kd, Outv.enc, Val.enc]⟩⟩ ?_
  rintro n st ⟨g, pre, rest, k, he, rfl, hp, hs⟩ K hK
  have hw := wrap_nat pre.length (by have := congrArg List.length he; simp at this; omega)
  subst he
  refine a_has hs fun τ σ γ => ?_
  rcases rest with _ | ⟨x, rest⟩
  · repeat' (first | (with_reducible refine a_seq_k ?_; intro K hK) | (with_reducible first | refine a_block ?_ | refine a_ret ?_ | refine a_exit ?_ | refine a_skip ?_ | exact ConfOk.mk (by kernel_rfl)) | (with_reducible refine eqT_of (eq33 _ _ _ _ _ _) ?_; simp) | (with_reducible refine eqT_of (eq35 _ _ _ _ _ _ _ _) ?_; simp) | ((fail_if_success with_reducible show False); with_reducible apply_assumption (exfalso := false) (symm := false) only [*, rfl, trivial, congrArg]) | with_reducible refine And.intro ?_ ?_ | (intro h; contradiction) | (intro h; subst h) | intro h | ((try (with_reducible first | refine a_region (by kernel_rfl) ?_ | (refine a_draw mixed (by kernel_rfl) ?_; intro C hC) | (refine a_cond_k ?_; intro X Y hX hY) | refine RetOk.mk ?_ | refine CallS.intro (sl_ContainsFunc pre _ _ _ (fun _ _ => rfl) (fun x => calc_common1 x _) (by simpa using hl)) ?_ | refine CallD.intro (sl_ContainsFunc pre _ _ _ (fun _ _ => rfl) (fun x => calc_common1 x _) (by simpa using hl)) ?_)); simp (maxSteps := 10000000) (implicitDefEqProofs := false) only [go_sem, kd, hw]))
    · simp only [List.append_nil, List.foldl_nil] at hp; simp [commonC, ← hp]
  · repeat' (first | (with_reducible refine a_seq_k ?_; intro K hK) | (with_reducible first | refine a_block ?_ | refine a_ret ?_ | refine a_exit ?_ | refine a_skip ?_ | exact ConfOk.mk (by kernel_rfl)) | (with_reducible refine eqT_of (eq33 _ _ _ _ _ _) ?_; simp) | (with_reducible refine eqT_of (eq35 _ _ _ _ _ _ _ _) ?_; simp) | ((fail_if_success with_reducible show False); with_reducible apply_assumption (exfalso := false) (symm := false) only [*, rfl, trivial, congrArg]) | with_reducible refine And.intro ?_ ?_ | (intro h; contradiction) | (intro h; subst h) | intro h | ((try (with_reducible first | refine a_region (by kernel_rfl) ?_ | (refine a_draw mixed (by kernel_rfl) ?_; intro C hC) | (refine a_cond_k ?_; intro X Y hX hY) | refine RetOk.mk ?_)); simp (maxSteps := 10000000) (implicitDefEqProofs := false) only [go_sem, kd, hw]))
    · exact ⟨⟨rest.length, by simp, g, pre ++ [x], rest, mx k x, by simp, rfl, hp, ⟨rfl, rfl, by simp [kd, Outv.enc, Val.enc], by simp [kd, Outv.enc, Val.enc]⟩⟩⟩

def sortOf (op : Int) : Int × Int :=
  if op = 4 then (1, 1) else if op = 5 ∨ op = 6 ∨ op = 7 ∨ op = 8 ∨ op = 9 then (1, 2) else if op = 10 then (2, 2) else if op = 11 then (3, 1)
  else if op = 12 ∨ op = 13 ∨ op = 14 ∨ op = 15 ∨ op = 16 ∨ op = 17 ∨ op = 18 then (4, 2) else if op = 19 then (5, 2) else if op = 20 then (6, 1)
  else if op = 21 ∨ op = 22 then (7, 1) else if op = 23 ∨ op = 24 then (8, -1) else if op = 25 then (9, -1) else if op = 26 then (10, -1) else (0, 0)
theorem ref_sortOf (op : Int) : ACalls Tryz.prog 111 [.int .u8 op] (.tuple [.int .i64 (sortOf op).1, .int .i64 (sortOf op).2]) := by
  refine acalls_k Tryz.func111 rfl (by kernel_rfl) (congrArg Array.toList Tryz.results111) Tryz.ntmps111 ?_
  intro R hR
  simp only [st0, List.length_cons, List.length_nil, Nat.reduceAdd, Nat.reduceSub, List.replicate_succ, List.replicate_zero, List.cons_append, List.nil_append]
  repeat' (first | (with_reducible refine a_seq_k ?_; intro K hK) | (with_reducible first | refine a_block ?_ | refine a_ret ?_ | refine a_exit ?_ | refine a_skip ?_ | exact ConfOk.mk (by kernel_rfl)) | (with_reducible refine eqT_of (eq33 _ _ _ _ _ _) ?_; simp) | (with_reducible refine eqT_of (eq35 _ _ _ _ _ _ _ _) ?_; simp) | ((fail_if_success with_reducible show False); with_reducible apply_assumption (exfalso := false) (symm := false) only [*, rfl, trivial, congrArg]) | with_reducible refine And.intro ?_ ?_ | (intro h; contradiction) | (intro h; subst h) | intro h | ((try (with_reducible first | refine a_region (by kernel_rfl) ?_ | (refine a_draw mixed (by kernel_rfl) ?_; intro C hC) | (refine a_cond_k ?_; intro X Y hX hY) | refine RetOk.mk ?_)); simp (maxSteps := 10000000) (implicitDefEqProofs := false) only [go_sem]))
  all_goals simp [sortOf, *]
structure Sig where
  least : Int
  most : Int
  takes : Int
  gives : Int
def Sig.enc (s : Sig) : List AV := [.int .i64 s.least, .int .i64 s.most, .int .u8 s.takes, .int .u8 s.gives]
def sigOf (op : Int) : Sig × Bool :=
  if op = 4 then (⟨1, 1, 1, 1⟩, true) else if op = 5 ∨ op = 6 ∨ op = 7 ∨ op = 8 ∨ op = 9 then (⟨2, 2, 1, 1⟩, true) else if op = 10 then (⟨2, 2, 2, 2⟩, true) else if op = 11 then (⟨1, 1, 2, 1⟩, true)
  else if op = 19 then (⟨2, 2, 2, 3⟩, true) else if op = 12 ∨ op = 13 ∨ op = 14 ∨ op = 15 ∨ op = 16 ∨ op = 17 ∨ op = 18 then (⟨2, 2, 0, 3⟩, true) else if op = 20 then (⟨1, 1, 0, 3⟩, true)
  else if op = 21 ∨ op = 22 then (⟨1, 1, 3, 3⟩, true) else if op = 23 ∨ op = 24 then (⟨0, 2 ^ 62, 3, 3⟩, true) else if op = 26 then (⟨1, 2 ^ 62, 0, 0⟩, true) else (⟨0, 0, 0, 0⟩, false)
theorem calc_signatures (op : Int) : ACalls Tryz.prog 161 [.int .u8 op] (.tuple [.agg (sigOf op).1.enc, .bool (sigOf op).2]) := by
  refine acalls_k Tryz.func161 rfl (by kernel_rfl) (congrArg Array.toList Tryz.results161) Tryz.ntmps161 ?_
  intro R hR
  simp only [st0, List.length_cons, List.length_nil, Nat.reduceAdd, Nat.reduceSub, List.replicate_succ, List.replicate_zero, List.cons_append, List.nil_append]
  repeat' (first | (with_reducible refine a_seq_k ?_; intro K hK) | (with_reducible first | refine a_block ?_ | refine a_ret ?_ | refine a_exit ?_ | refine a_skip ?_ | exact ConfOk.mk (by kernel_rfl)) | (with_reducible refine eqT_of (eq33 _ _ _ _ _ _) ?_; simp) | (with_reducible refine eqT_of (eq35 _ _ _ _ _ _ _ _) ?_; simp) | ((fail_if_success with_reducible show False); with_reducible apply_assumption (exfalso := false) (symm := false) only [*, rfl, trivial, congrArg]) | with_reducible refine And.intro ?_ ?_ | (intro h; contradiction) | (intro h; subst h) | intro h | ((try (with_reducible first | refine a_region (by kernel_rfl) ?_ | (refine a_draw mixed (by kernel_rfl) ?_; intro C hC) | (refine a_cond_k ?_; intro X Y hX hY) | refine RetOk.mk ?_)); simp (maxSteps := 10000000) (implicitDefEqProofs := false) only [go_sem]))
  all_goals simp [sigOf, Sig.enc, *]

def caseGo (even : Bool) : List Int → List Int × List Int
  | [] => ([], [])
  | x :: r => if even = true ∧ r ≠ [] then (x :: (caseGo (!even) r).1, (caseGo (!even) r).2) else ((caseGo (!even) r).1, x :: (caseGo (!even) r).2)
theorem caseGo_step {n : Nat} {x : Int} {rest c o C O : List Int} (hp : c ++ (caseGo (decide (n % 2 = 0)) (x :: rest)).1 = C ∧ o ++ (caseGo (decide (n % 2 = 0)) (x :: rest)).2 = O) :
    (n % 2 = 0 ∧ rest ≠ [] → (c ++ [x]) ++ (caseGo (decide ((n + 1) % 2 = 0)) rest).1 = C ∧ o ++ (caseGo (decide ((n + 1) % 2 = 0)) rest).2 = O) ∧
    (¬ (n % 2 = 0 ∧ rest ≠ []) → c ++ (caseGo (decide ((n + 1) % 2 = 0)) rest).1 = C ∧ (o ++ [x]) ++ (caseGo (decide ((n + 1) % 2 = 0)) rest).2 = O) := by
  have e : decide ((n + 1) % 2 = 0) = !decide (n % 2 = 0) := by
    by_cases h : n % 2 = 0 <;> simp [h] <;> omega
  refine ⟨fun h => ?_, fun h => ?_⟩
  · rw [caseGo, if_pos (by simpa using h)] at hp; rw [e]; simpa using hp
  · rw [caseGo, if_neg (by simpa using h)] at hp; rw [e]; simpa using hp
theorem ref_caseKinds (ks : List Int) (hl : ks.length < 2 ^ 45) : ACalls Tryz.prog 191 [kinds ks] (.tuple [kinds (caseGo true ks).1, kinds (caseGo true ks).2]) := by
  refine acalls_k Tryz.func191 rfl (by kernel_rfl) (congrArg Array.toList Tryz.results191) Tryz.ntmps191 ?_
  intro R hR
  simp only [st0, List.length_cons, List.length_nil, Nat.reduceAdd, Nat.reduceSub, List.replicate_succ, List.replicate_zero, List.cons_append, List.nil_append]
  repeat' (first | (with_reducible refine a_seq_reg ?_; intro K hK) | (with_reducible first | refine a_block ?_ | refine a_ret ?_ | refine a_exit ?_ | refine a_skip ?_ | exact ConfOk.mk (by kernel_rfl)) | (with_reducible refine eqT_of (eq33 _ _ _ _ _ _) ?_; simp) | (with_reducible refine eqT_of (eq35 _ _ _ _ _ _ _ _) ?_; simp) | ((fail_if_success with_reducible show False); with_reducible apply_assumption (exfalso := false) (symm := false) only [*, rfl, trivial, congrArg]) | with_reducible refine And.intro ?_ ?_ | (intro h; contradiction) | (intro h; subst h) | intro h | ((try (with_reducible first | refine a_region (by kernel_rfl) ?_ | (refine a_draw mixed (by kernel_rfl) ?_; intro C hC) | (refine a_cond_k ?_; intro X Y hX hY) | refine RetOk.mk ?_)); simp (maxSteps := 10000000) (implicitDefEqProofs := false) only [go_sem]))
  refine a_cut (fun st => ∃ g g', Has st 39 [(4, .view 29 g), (5, .view 36 g')] [(29, .row g 1 ((caseGo true ks).1.map kd)), (36, .row g' 1 ((caseGo true ks).2.map kd))]) (fun K hK => ?_) ?_
  · repeat' (first | (with_reducible refine a_seq_reg ?_; intro K hK) | (with_reducible first | refine a_block ?_ | refine a_ret ?_ | refine a_exit ?_ | refine a_skip ?_ | exact ConfOk.mk (by kernel_rfl)) | (with_reducible refine eqT_of (eq33 _ _ _ _ _ _) ?_; simp) | (with_reducible refine eqT_of (eq35 _ _ _ _ _ _ _ _) ?_; simp) | ((fail_if_success with_reducible show False); with_reducible apply_assumption (exfalso := false) (symm := false) only [*, rfl, trivial, congrArg]) | with_reducible refine And.intro ?_ ?_ | (intro h; contradiction) | (intro h; subst h) | intro h | ((try (with_reducible first | refine a_region (by kernel_rfl) ?_ | (refine a_draw mixed (by kernel_rfl) ?_; intro C hC) | (refine a_cond_k ?_; intro X Y hX hY) | refine RetOk.mk ?_)); simp (maxSteps := 10000000) (implicitDefEqProofs := false) only [go_sem]))
    refine a_nilrow [4] 29 1 (by simp) ?_
    refine a_nilrow [5] 36 1 (by simp [putAll]) ?_
    simp only [putAll, List.set_cons_zero, List.set_cons_succ]
    refine a_loop_k (fun n st => ∃ (g g' : Nat) (pre rest : List _) (c o : List Int), ks = pre ++ rest ∧ n = rest.length ∧ (c.length + o.length = pre.length ∧ (c ++ (caseGo (decide (pre.length % 2 = 0)) rest).1 = (caseGo true ks).1 ∧ o ++ (caseGo (decide (pre.length % 2 = 0)) rest).2 = (caseGo true ks).2)) ∧ Has st 39 [(0, .slice (ks.map kd)), (4, .view 29 g), (5, .view 36 g'), (6, .int .i64 pre.length)] [(29, .row g 1 (c.map kd)), (36, .row g' 1 (o.map kd))]) (ks).length ⟨3, 4, [], ks, [], [], rfl, rfl, by simp, ⟨rfl, rfl, by simp [kd, Outv.enc, Val.enc], by simp [kd, Outv.enc, Val.enc]⟩⟩ ?_
    rintro n st ⟨g, g', pre, rest, c, o, he, rfl, hp, hs⟩ K hK
    have hw := wrap_nat pre.length (by have := congrArg List.length he; simp at this; omega)
    subst he
    refine a_has hs fun τ σ γ => ?_
    rcases rest with _ | ⟨x, rest⟩
    · repeat' (first | (with_reducible refine a_seq_k ?_; intro K hK) | (with_reducible first | refine a_block ?_ | refine a_ret ?_ | refine a_exit ?_ | refine a_skip ?_ | exact ConfOk.mk (by kernel_rfl)) | (with_reducible refine eqT_of (eq33 _ _ _ _ _ _) ?_; simp) | (with_reducible refine eqT_of (eq35 _ _ _ _ _ _ _ _) ?_; simp) | ((fail_if_success with_reducible show False); with_reducible apply_assumption (exfalso := false) (symm := false) only [*, rfl, trivial, congrArg]) | with_reducible refine And.intro ?_ ?_ | (intro h; contradiction) | (intro h; subst h) | intro h | ((try (with_reducible first | refine a_region (by kernel_rfl) ?_ | (refine a_draw mixed (by kernel_rfl) ?_; intro C hC) | (refine a_cond_k ?_; intro X Y hX hY) | refine RetOk.mk ?_)); simp (maxSteps := 10000000) (implicitDefEqProofs := false) only [go_sem, kd, hw]))
      · simp only [caseGo, List.append_nil] at hp; exact ⟨⟨g, g', ⟨rfl, rfl, by simp, by simp [← hp.2.1, ← hp.2.2]⟩⟩⟩
    · have hl' : pre.length + (rest.length + 1) < 2 ^ 45 := by simpa using hl
      repeat' (first | (with_reducible refine a_seq_k ?_; intro K hK) | (with_reducible first | refine a_block ?_ | refine a_ret ?_ | refine a_exit ?_ | refine a_skip ?_ | exact ConfOk.mk (by kernel_rfl)) | (with_reducible refine eqT_of (eq33 _ _ _ _ _ _) ?_; simp) | (with_reducible refine eqT_of (eq35 _ _ _ _ _ _ _ _) ?_; simp) | ((fail_if_success with_reducible show False); with_reducible apply_assumption (exfalso := false) (symm := false) only [*, rfl, trivial, congrArg]) | with_reducible refine And.intro ?_ ?_ | (intro h; contradiction) | (intro h; subst h) | intro h | ((try (with_reducible first | refine a_region (by kernel_rfl) ?_ | (refine a_draw mixed (by kernel_rfl) ?_; intro C hC) | (refine a_cond_k ?_; intro X Y hX hY) | refine RetOk.mk ?_)); simp (maxSteps := 10000000) (implicitDefEqProofs := false) only [go_sem, kd, hw]))
      · omega
      · omega
      · have hq := (caseGo_step hp.2).1 ⟨by omega, by rintro rfl; simp at h⟩
        exact ⟨⟨rest.length, by simp, γ + 1 + 1, g', pre ++ [x], rest, c ++ [x], o, by simp, rfl, ⟨by simp; omega, by simpa using hq⟩, ⟨rfl, rfl, by simp [kd], by simp [kd]⟩⟩⟩
      · omega
      · omega
      · have hq := (caseGo_step hp.2).2 (by rintro ⟨_, h2⟩; cases rest <;> simp at h h2; omega)
        exact ⟨⟨rest.length, by simp, g, γ + 1 + 1, pre ++ [x], rest, c, o ++ [x], by simp, rfl, ⟨by simp; omega, by simpa using hq⟩, ⟨rfl, rfl, by simp [kd], by simp [kd]⟩⟩⟩
      · omega
      · omega
      · have hq := (caseGo_step hp.2).2 (by rintro ⟨h1, _⟩; omega)
        exact ⟨⟨rest.length, by simp, g, γ + 1 + 1, pre ++ [x], rest, c, o ++ [x], by simp, rfl, ⟨by simp; omega, by simpa using hq⟩, ⟨rfl, rfl, by simp [kd], by simp [kd]⟩⟩⟩
  · rintro st ⟨g, g', hs⟩
    refine a_has hs fun τ σ γ => ?_
    repeat' (first | (with_reducible refine a_seq_k ?_; intro K hK) | (with_reducible first | refine a_block ?_ | refine a_ret ?_ | refine a_exit ?_ | refine a_skip ?_ | exact ConfOk.mk (by kernel_rfl)) | (with_reducible refine eqT_of (eq33 _ _ _ _ _ _) ?_; simp) | (with_reducible refine eqT_of (eq35 _ _ _ _ _ _ _ _) ?_; simp) | ((fail_if_success with_reducible show False); with_reducible apply_assumption (exfalso := false) (symm := false) only [*, rfl, trivial, congrArg]) | with_reducible refine And.intro ?_ ?_ | (intro h; contradiction) | (intro h; subst h) | intro h | ((try (with_reducible first | refine a_region (by kernel_rfl) ?_ | (refine a_draw mixed (by kernel_rfl) ?_; intro C hC) | (refine a_cond_k ?_; intro X Y hX hY) | refine RetOk.mk ?_)); simp (maxSteps := 10000000) (implicitDefEqProofs := false) only [go_sem, kd]))
theorem caseGo_len (b : Bool) (ks : List Int) : (caseGo b ks).1.length ≤ ks.length ∧ (caseGo b ks).2.length ≤ ks.length := by
  induction ks generalizing b with
  | nil => simp [caseGo]
  | cons x r ih => have := ih (!b); rw [caseGo]; split <;> simp <;> omega
def kindOf (s : Int) (ks : List Int) : Int × Bool :=
  if s = 1 then (1, ks.all fun x => agree x 1) else if s = 2 then (2, ks.all fun x => agree x 2) else if s = 3 then (1, ks.all fun x => agree x 2) else if s = 4 then (3, agree (ks.getD 0 0) (ks.getD 1 0))
  else if s = 5 then (3, ks.all fun x => agree x 2) else if s = 6 then (3, true) else if s = 7 ∨ s = 8 then (3, ks.all fun x => agree x 3)
  else if s = 9 then ((commonGo 0 (caseGo true ks).2).1, (commonGo 0 (caseGo true ks).2).2 && (caseGo true ks).1.all fun x => agree x 3) else commonGo 0 ks
theorem ref_kindOf (s : Int) (ks : List Int) (hl : ks.length < 2 ^ 45) (h4 : s = 4 → ks.length = 2) : ACalls Tryz.prog 112 [.int .i64 s, kinds ks] (.tuple [.int .u8 (kindOf s ks).1, .bool (kindOf s ks).2]) := by
  have hl' : ks.length < 2 ^ 62 := by omega
  have hl1 : (caseGo true ks).1.length < 2 ^ 62 := by have := caseGo_len true ks; omega
  have hl2 : (caseGo true ks).2.length < 2 ^ 62 := by have := caseGo_len true ks; omega
  by_cases hs : s = 4
  · have h5 := h4 hs
    obtain ⟨a, b, rfl⟩ : ∃ a b, ks = [a, b] := by
      match ks, h5 with
      | [a, b], _ => exact ⟨a, b, rfl⟩
    subst hs
    refine acalls_k Tryz.func112 rfl (by kernel_rfl) (congrArg Array.toList Tryz.results112) Tryz.ntmps112 ?_
    intro R hR
    simp only [st0, List.length_cons, List.length_nil, Nat.reduceAdd, Nat.reduceSub, List.replicate_succ, List.replicate_zero, List.cons_append, List.nil_append]
    repeat' (first | (with_reducible refine a_seq_k ?_; intro K hK) | (with_reducible first | refine a_block ?_ | refine a_ret ?_ | refine a_exit ?_ | refine a_skip ?_ | exact ConfOk.mk (by kernel_rfl)) | (with_reducible refine eqT_of (eq33 _ _ _ _ _ _) ?_; simp) | (with_reducible refine eqT_of (eq35 _ _ _ _ _ _ _ _) ?_; simp) | ((fail_if_success with_reducible show False); with_reducible apply_assumption (exfalso := false) (symm := false) only [*, rfl, trivial, congrArg]) | with_reducible refine And.intro ?_ ?_ | (intro h; contradiction) | (intro h; subst h) | intro h | ((try (with_reducible first | refine a_region (by kernel_rfl) ?_ | (refine a_draw mixed (by kernel_rfl) ?_; intro C hC) | (refine a_cond_k ?_; intro X Y hX hY) | refine RetOk.mk ?_ | refine CallS.intro (ref_Agree _ _) ?_ | refine CallD.intro (ref_Agree _ _) ?_)); simp (maxSteps := 10000000) (implicitDefEqProofs := false) only [go_sem, kd]))
    all_goals simp [kindOf]
  · refine acalls_k Tryz.func112 rfl (by kernel_rfl) (congrArg Array.toList Tryz.results112) Tryz.ntmps112 ?_
    intro R hR
    simp only [st0, List.length_cons, List.length_nil, Nat.reduceAdd, Nat.reduceSub, List.replicate_succ, List.replicate_zero, List.cons_append, List.nil_append]
    repeat' (first | (with_reducible refine a_seq_k ?_; intro K hK) | (with_reducible first | refine a_block ?_ | refine a_ret ?_ | refine a_exit ?_ | refine a_skip ?_ | exact ConfOk.mk (by kernel_rfl)) | (with_reducible refine eqT_of (eq33 _ _ _ _ _ _) ?_; simp) | (with_reducible refine eqT_of (eq35 _ _ _ _ _ _ _ _) ?_; simp) | ((fail_if_success with_reducible show False); with_reducible apply_assumption (exfalso := false) (symm := false) only [*, rfl, trivial, congrArg]) | with_reducible refine And.intro ?_ ?_ | (intro h; contradiction) | (intro h; subst h) | intro h | ((try (with_reducible first | refine a_region (by kernel_rfl) ?_ | (refine a_draw mixed (by kernel_rfl) ?_; intro C hC) | (refine a_cond_k ?_; intro X Y hX hY) | refine RetOk.mk ?_ | refine CallS.intro (ref_allAgree ks _ hl') ?_ | refine CallD.intro (ref_allAgree ks _ hl') ?_ | refine CallS.intro (ref_Agree _ _) ?_ | refine CallD.intro (ref_Agree _ _) ?_ | refine CallS.intro (ref_caseKinds ks hl) ?_ | refine CallD.intro (ref_caseKinds ks hl) ?_ | refine CallS.intro (ref_Common ks hl') ?_ | refine CallD.intro (ref_Common ks hl') ?_ | refine CallS.intro (ref_Common _ hl2) ?_ | refine CallD.intro (ref_Common _ hl2) ?_ | refine CallS.intro (ref_allAgree _ _ hl1) ?_ | refine CallD.intro (ref_allAgree _ _ hl1) ?_)); simp (maxSteps := 10000000) (implicitDefEqProofs := false) only [go_sem, kd, hs]))
    all_goals simp [kindOf, *]

def refKind (op : Int) (ks : List Int) : Int × Int :=
  if (sortOf op).1 = 0 ∨ (0 ≤ (sortOf op).2 ∧ (ks.length : Int) ≠ (sortOf op).2) ∨ ((sortOf op).1 = 9 ∧ ks.length < 2) ∨ ((sortOf op).1 = 10 ∧ ks.length < 1) then (0, 1)
  else if (ks.any fun k => decide (3 < k)) = true then (0, 1) else if (kindOf (sortOf op).1 ks).2 = true then ((kindOf (sortOf op).1 ks).1, 0) else (0, 50)
theorem ref_Kind (op : Int) (ks : List Int) (hl : ks.length < 2 ^ 45) : ACalls Tryz.prog 53 [.int .u8 op, kinds ks] (.tuple [.int .u8 (refKind op ks).1, .int .i64 (refKind op ks).2]) := by
  have h4 : (sortOf op).1 = 4 → (sortOf op).2 = 2 := by unfold sortOf; (repeat' split) <;> simp
  refine acalls_k Tryz.func53 rfl (by kernel_rfl) (congrArg Array.toList Tryz.results53) Tryz.ntmps53 ?_
  intro R hR
  simp only [st0, List.length_cons, List.length_nil, Nat.reduceAdd, Nat.reduceSub, List.replicate_succ, List.replicate_zero, List.cons_append, List.nil_append]
  repeat' (first | (with_reducible refine a_seq_reg ?_; intro K hK) | (with_reducible first | refine a_block ?_ | refine a_ret ?_ | refine a_exit ?_ | refine a_skip ?_ | exact ConfOk.mk (by kernel_rfl)) | (with_reducible refine eqT_of (eq33 _ _ _ _ _ _) ?_; simp) | (with_reducible refine eqT_of (eq35 _ _ _ _ _ _ _ _) ?_; simp) | ((fail_if_success with_reducible show False); with_reducible apply_assumption (exfalso := false) (symm := false) only [*, rfl, trivial, congrArg]) | with_reducible refine And.intro ?_ ?_ | (intro h; contradiction) | (intro h; subst h) | intro h | ((try (with_reducible first | refine a_region (by kernel_rfl) ?_ | (refine a_draw mixed (by kernel_rfl) ?_; intro C hC) | (refine a_cond_k ?_; intro X Y hX hY) | refine RetOk.mk ?_ | refine CallS.intro (ref_sortOf _) ?_ | refine CallD.intro (ref_sortOf _) ?_)); simp (maxSteps := 10000000) (implicitDefEqProofs := false) only [go_sem]))
  refine a_cut (fun st => (¬ ((sortOf op).1 = 0 ∨ (0 ≤ (sortOf op).2 ∧ (ks.length : Int) ≠ (sortOf op).2) ∨ ((sortOf op).1 = 9 ∧ ks.length < 2) ∨ ((sortOf op).1 = 10 ∧ ks.length < 1))) ∧ Has st 66 [(1, .slice (ks.map kd)), (6, .int .i64 (sortOf op).1)] []) (fun K hK => ?_) ?_
  · repeat' (first | (with_reducible refine a_seq_k ?_; intro K hK) | (with_reducible first | refine a_block ?_ | refine a_ret ?_ | refine a_exit ?_ | refine a_skip ?_ | exact ConfOk.mk (by kernel_rfl)) | (with_reducible refine eqT_of (eq33 _ _ _ _ _ _) ?_; simp) | (with_reducible refine eqT_of (eq35 _ _ _ _ _ _ _ _) ?_; simp) | ((fail_if_success with_reducible show False); with_reducible apply_assumption (exfalso := false) (symm := false) only [*, rfl, trivial, congrArg]) | with_reducible refine And.intro ?_ ?_ | (intro h; contradiction) | (intro h; subst h) | intro h | ((try (with_reducible first | refine a_region (by kernel_rfl) ?_ | (refine a_draw mixed (by kernel_rfl) ?_; intro C hC) | (refine a_cond_k ?_; intro X Y hX hY) | refine RetOk.mk ?_)); simp (maxSteps := 10000000) (implicitDefEqProofs := false) only [go_sem]))
    all_goals first
      | exact ⟨⟨by omega, ⟨rfl, rfl, by simp, by simp⟩⟩⟩
      | rw [refKind, if_pos (by omega)]
  · rintro st ⟨hm, hs⟩
    refine a_has hs fun τ σ γ => ?_
    refine a_cut (fun st => ((ks.any fun k => decide (3 < k)) = false) ∧ Has st 66 [(1, .slice (ks.map kd)), (6, .int .i64 (sortOf op).1)] []) (fun K hK => ?_) ?_
    · repeat' (first | (with_reducible refine a_seq_reg ?_; intro K hK) | (with_reducible first | refine a_block ?_ | refine a_ret ?_ | refine a_exit ?_ | refine a_skip ?_ | exact ConfOk.mk (by kernel_rfl)) | (with_reducible refine eqT_of (eq33 _ _ _ _ _ _) ?_; simp) | (with_reducible refine eqT_of (eq35 _ _ _ _ _ _ _ _) ?_; simp) | ((fail_if_success with_reducible show False); with_reducible apply_assumption (exfalso := false) (symm := false) only [*, rfl, trivial, congrArg]) | with_reducible refine And.intro ?_ ?_ | (intro h; contradiction) | (intro h; subst h) | intro h | ((try (with_reducible first | refine a_region (by kernel_rfl) ?_ | (refine a_draw mixed (by kernel_rfl) ?_; intro C hC) | (refine a_cond_k ?_; intro X Y hX hY) | refine RetOk.mk ?_)); simp (maxSteps := 10000000) (implicitDefEqProofs := false) only [go_sem]))
      refine a_loop_k (fun n st => ∃ (g : Nat) (pre rest : List _) (u : Unit), ks = pre ++ rest ∧ n = rest.length ∧ ((pre.any fun k => decide (3 < k)) = false) ∧ Has st 66 [(1, .slice (ks.map kd)), (6, .int .i64 (sortOf op).1), (8, .int .i64 pre.length)] []) (ks).length ⟨0, [], ks, (), rfl, rfl, rfl, ⟨rfl, rfl, by simp [kd, Outv.enc, Val.enc], by simp [kd, Outv.enc, Val.enc]⟩⟩ ?_
      rintro n st ⟨g, pre, rest, u, he, rfl, hp, hs⟩ K hK
      have hw := wrap_nat pre.length (by have := congrArg List.length he; simp at this; omega)
      subst he
      refine a_has hs fun τ σ γ => ?_
      rcases rest with _ | ⟨x, rest⟩
      · repeat' (first | (with_reducible refine a_seq_k ?_; intro K hK) | (with_reducible first | refine a_block ?_ | refine a_ret ?_ | refine a_exit ?_ | refine a_skip ?_ | exact ConfOk.mk (by kernel_rfl)) | (with_reducible refine eqT_of (eq33 _ _ _ _ _ _) ?_; simp) | (with_reducible refine eqT_of (eq35 _ _ _ _ _ _ _ _) ?_; simp) | ((fail_if_success with_reducible show False); with_reducible apply_assumption (exfalso := false) (symm := false) only [*, rfl, trivial, congrArg]) | with_reducible refine And.intro ?_ ?_ | (intro h; contradiction) | (intro h; subst h) | intro h | ((try (with_reducible first | refine a_region (by kernel_rfl) ?_ | (refine a_draw mixed (by kernel_rfl) ?_; intro C hC) | (refine a_cond_k ?_; intro X Y hX hY) | refine RetOk.mk ?_)); simp (maxSteps := 10000000) (implicitDefEqProofs := false) only [go_sem, kd, hw]))
        · exact ⟨⟨by simpa using hp, ⟨rfl, rfl, by simp, by simp⟩⟩⟩
      · repeat' (first | (with_reducible refine a_seq_k ?_; intro K hK) | (with_reducible first | refine a_block ?_ | refine a_ret ?_ | refine a_exit ?_ | refine a_skip ?_ | exact ConfOk.mk (by kernel_rfl)) | (with_reducible refine eqT_of (eq33 _ _ _ _ _ _) ?_; simp) | (with_reducible refine eqT_of (eq35 _ _ _ _ _ _ _ _) ?_; simp) | ((fail_if_success with_reducible show False); with_reducible apply_assumption (exfalso := false) (symm := false) only [*, rfl, trivial, congrArg]) | with_reducible refine And.intro ?_ ?_ | (intro h; contradiction) | (intro h; subst h) | intro h | ((try (with_reducible first | refine a_region (by kernel_rfl) ?_ | (refine a_draw mixed (by kernel_rfl) ?_; intro C hC) | (refine a_cond_k ?_; intro X Y hX hY) | refine RetOk.mk ?_)); simp (maxSteps := 10000000) (implicitDefEqProofs := false) only [go_sem, kd, hw]))
        · rw [refKind, if_neg hm, if_pos (by simp; omega)]
        · exact ⟨⟨rest.length, by simp, 0, pre ++ [x], rest, (), by simp, rfl, by rw [List.any_append, hp]; simp; omega, ⟨rfl, rfl, by simp [kd, Outv.enc, Val.enc], by simp [kd, Outv.enc, Val.enc]⟩⟩⟩
    · rintro st ⟨hm, hs⟩
      refine a_has hs fun τ σ γ => ?_
      repeat' (first | (with_reducible refine a_seq_k ?_; intro K hK) | (with_reducible first | refine a_block ?_ | refine a_ret ?_ | refine a_exit ?_ | refine a_skip ?_ | exact ConfOk.mk (by kernel_rfl)) | (with_reducible refine eqT_of (eq33 _ _ _ _ _ _) ?_; simp) | (with_reducible refine eqT_of (eq35 _ _ _ _ _ _ _ _) ?_; simp) | ((fail_if_success with_reducible show False); with_reducible apply_assumption (exfalso := false) (symm := false) only [*, rfl, trivial, congrArg]) | with_reducible refine And.intro ?_ ?_ | (intro h; contradiction) | (intro h; subst h) | intro h | ((try (with_reducible first | refine a_region (by kernel_rfl) ?_ | (refine a_draw mixed (by kernel_rfl) ?_; intro C hC) | (refine a_cond_k ?_; intro X Y hX hY) | refine RetOk.mk ?_ | refine CallS.intro (ref_kindOf _ ks hl (by omega)) ?_ | refine CallD.intro (ref_kindOf _ ks hl (by omega)) ?_)); simp (maxSteps := 10000000) (implicitDefEqProofs := false) only [go_sem]))
      · rw [refKind, if_neg (by assumption), if_neg (by rw [hm]; simp), if_neg (by rw [h]; simp)]
      · rw [refKind, if_neg (by assumption), if_neg (by rw [hm]; simp), if_pos h]

def caseC (even : Bool) (out : List Int) : List Int → Option (List Int)
  | [] => some out
  | x :: r => if even = true ∧ r ≠ [] then (if agree x 3 = true then caseC (!even) out r else none) else caseC (!even) (out ++ [x]) r
def caseKindC (ks : List Int) : Int × Int :=
  match caseC true [] ks with
  | none => (0, 50)
  | some out => if (commonC out).2 = true then ((commonC out).1, 0) else (0, 50)
theorem all_kd (ks : List Int) : (∀ y ∈ List.map kd ks, elOk 1 y = true) = True := by simp [elOk, kd, leafB]
theorem caseC_len {even : Bool} {out ks r : List Int} (h : caseC even out ks = some r) : r.length ≤ out.length + ks.length := by
  induction ks generalizing even out with
  | nil => simp only [caseC, Option.some.injEq] at h; subst h; simp
  | cons x ks ih =>
    rw [caseC] at h
    split at h
    · split at h
      · have := ih h; simp; omega
      · cases h
    · have := ih h; simp at this ⊢; omega
theorem par_succ (n : Nat) : decide ((n + 1) % 2 = 0) = !decide (n % 2 = 0) := by
  by_cases h : n % 2 = 0 <;> simp [h] <;> omega
theorem caseC_step {n : Nat} {x : Int} {rest o : List Int} {C : Option (List Int)} (hp : caseC (decide (n % 2 = 0)) o (x :: rest) = C) :
    (n % 2 = 0 → rest ≠ [] → agree x 3 = true → caseC (decide ((n + 1) % 2 = 0)) o rest = C) ∧ (n % 2 = 0 → rest ≠ [] → agree x 3 = false → C = none) ∧ (¬ (n % 2 = 0 ∧ rest ≠ []) → caseC (decide ((n + 1) % 2 = 0)) (o ++ [x]) rest = C) := by
  rw [par_succ]
  refine ⟨fun h1 h2 h3 => ?_, fun h1 h2 h3 => ?_, fun h => ?_⟩
  · rw [caseC, if_pos (by simpa using ⟨h1, h2⟩), if_pos h3] at hp; exact hp
  · rw [caseC, if_pos (by simpa using ⟨h1, h2⟩), if_neg (by simp [h3])] at hp; exact hp.symm
  · rw [caseC, if_neg (by simpa using h)] at hp; exact hp
theorem calc_caseKind (ks : List Int) (hl : ks.length < 2 ^ 45) : ACalls Tryz.prog 164 [kinds ks] (.tuple [.int .u8 (caseKindC ks).1, .int .i64 (caseKindC ks).2]) := by
  refine acalls_k Tryz.func164 rfl (by kernel_rfl) (congrArg Array.toList Tryz.results164) Tryz.ntmps164 ?_
  intro R hR
  simp only [st0, List.length_cons, List.length_nil, Nat.reduceAdd, Nat.reduceSub, List.replicate_succ, List.replicate_zero, List.cons_append, List.nil_append]
  repeat' (first | (with_reducible refine a_seq_reg ?_; intro K hK) | (with_reducible first | refine a_block ?_ | refine a_ret ?_ | refine a_exit ?_ | refine a_skip ?_ | exact ConfOk.mk (by kernel_rfl)) | (with_reducible refine eqT_of (eq33 _ _ _ _ _ _) ?_; simp) | (with_reducible refine eqT_of (eq35 _ _ _ _ _ _ _ _) ?_; simp) | ((fail_if_success with_reducible show False); with_reducible apply_assumption (exfalso := false) (symm := false) only [*, rfl, trivial, congrArg]) | with_reducible refine And.intro ?_ ?_ | (intro h; contradiction) | (intro h; subst h) | intro h | ((try (with_reducible first | refine a_region (by kernel_rfl) ?_ | (refine a_draw mixed (by kernel_rfl) ?_; intro C hC) | (refine a_cond_k ?_; intro X Y hX hY) | refine RetOk.mk ?_)); simp (maxSteps := 10000000) (implicitDefEqProofs := false) only [go_sem]))
  refine a_cut (fun st => ∃ (g : Nat) (out : List Int), (out.length < 2 ^ 62 ∧ caseC true [] ks = some out) ∧ Has st 45 [(4, .view 32 g)] [(32, .row g 1 (out.map kd))]) (fun K hK => ?_) ?_
  · repeat' (first | (with_reducible refine a_seq_reg ?_; intro K hK) | (with_reducible first | refine a_block ?_ | refine a_ret ?_ | refine a_exit ?_ | refine a_skip ?_ | exact ConfOk.mk (by kernel_rfl)) | (with_reducible refine eqT_of (eq33 _ _ _ _ _ _) ?_; simp) | (with_reducible refine eqT_of (eq35 _ _ _ _ _ _ _ _) ?_; simp) | ((fail_if_success with_reducible show False); with_reducible apply_assumption (exfalso := false) (symm := false) only [*, rfl, trivial, congrArg]) | with_reducible refine And.intro ?_ ?_ | (intro h; contradiction) | (intro h; subst h) | intro h | ((try (with_reducible first | refine a_region (by kernel_rfl) ?_ | (refine a_draw mixed (by kernel_rfl) ?_; intro C hC) | (refine a_cond_k ?_; intro X Y hX hY) | refine RetOk.mk ?_)); simp (maxSteps := 10000000) (implicitDefEqProofs := false) only [go_sem]))
    refine a_nilrow [4] 32 1 (by simp) ?_
    simp only [putAll, List.set_cons_zero, List.set_cons_succ]
    refine a_loop_k (fun n st => ∃ (g : Nat) (pre rest : List _) (o : List Int), ks = pre ++ rest ∧ n = rest.length ∧ (o.length ≤ pre.length ∧ caseC (decide (pre.length % 2 = 0)) o rest = caseC true [] ks) ∧ Has st 45 [(0, .slice (ks.map kd)), (4, .view 32 g), (10, .slice (ks.map kd)), (11, .int .i64 ks.length), (12, .int .i64 pre.length)] [(32, .row g 1 (o.map kd))]) (ks).length ⟨3, [], ks, [], rfl, rfl, by simp, ⟨rfl, rfl, by simp [kd, Outv.enc, Val.enc], by simp [kd, Outv.enc, Val.enc]⟩⟩ ?_
    rintro n st ⟨g, pre, rest, o, he, rfl, hp, hs⟩ K hK
    have hw := wrap_nat pre.length (by have := congrArg List.length he; simp at this; omega)
    subst he
    refine a_has hs fun τ σ γ => ?_
    rcases rest with _ | ⟨x, rest⟩
    · repeat' (first | (with_reducible refine a_seq_k ?_; intro K hK) | (with_reducible first | refine a_block ?_ | refine a_ret ?_ | refine a_exit ?_ | refine a_skip ?_ | exact ConfOk.mk (by kernel_rfl)) | (with_reducible refine eqT_of (eq33 _ _ _ _ _ _) ?_; simp) | (with_reducible refine eqT_of (eq35 _ _ _ _ _ _ _ _) ?_; simp) | ((fail_if_success with_reducible show False); with_reducible apply_assumption (exfalso := false) (symm := false) only [*, rfl, trivial, congrArg]) | with_reducible refine And.intro ?_ ?_ | (intro h; contradiction) | (intro h; subst h) | intro h | ((try (with_reducible first | refine a_region (by kernel_rfl) ?_ | (refine a_draw mixed (by kernel_rfl) ?_; intro C hC) | (refine a_cond_k ?_; intro X Y hX hY) | refine RetOk.mk ?_)); simp (maxSteps := 10000000) (implicitDefEqProofs := false) only [go_sem, kd, hw]))
      · simp only [caseC, List.append_nil] at hp
        exact ⟨⟨g, o, ⟨by simp at hl; omega, hp.2.symm⟩, ⟨rfl, rfl, by simp, by simp⟩⟩⟩
    · have hl' : pre.length + (rest.length + 1) < 2 ^ 45 := by simpa using hl
      have hw2 := wrap_pred pre.length rest.length (by omega)
      have hc := caseC_step hp.2
      repeat' (first | (with_reducible refine a_seq_k ?_; intro K hK) | (with_reducible first | refine a_block ?_ | refine a_ret ?_ | refine a_exit ?_ | refine a_skip ?_ | exact ConfOk.mk (by kernel_rfl)) | (with_reducible refine eqT_of (eq33 _ _ _ _ _ _) ?_; simp) | (with_reducible refine eqT_of (eq35 _ _ _ _ _ _ _ _) ?_; simp) | ((fail_if_success with_reducible show False); with_reducible apply_assumption (exfalso := false) (symm := false) only [*, rfl, trivial, congrArg]) | with_reducible refine And.intro ?_ ?_ | (intro h; contradiction) | (intro h; subst h) | intro h | ((try (with_reducible first | refine a_region (by kernel_rfl) ?_ | (refine a_draw mixed (by kernel_rfl) ?_; intro C hC) | (refine a_cond_k ?_; intro X Y hX hY) | refine RetOk.mk ?_ | refine CallS.intro (calc_agree _ _) ?_ | refine CallD.intro (calc_agree _ _) ?_)); simp (maxSteps := 10000000) (implicitDefEqProofs := false) only [go_sem, kd, hw, hw2]))
      · omega
      · omega
      · exact ⟨⟨rest.length, by simp, γ + 1 + 1 + 1 + 1, pre ++ [x], rest, o ++ [x], by simp, rfl, ⟨by simp; omega, by simpa using hc.2.2 (by rintro ⟨h1, h2⟩; exact h2 (List.eq_nil_of_length_eq_zero (by omega)))⟩, ⟨rfl, rfl, by simp [kd], by simp [kd]⟩⟩⟩
      · have h6 := hc.2.1 (by omega) (ne_nil_of_lt (by assumption)) h
        rw [caseKindC, h6]
      · have h6 := hc.1 (by omega) (ne_nil_of_lt (by assumption)) h
        exact ⟨⟨rest.length, by simp, g, pre ++ [x], rest, o, by simp, rfl, ⟨by simp; omega, by simpa using h6⟩, ⟨rfl, rfl, by simp [kd], by simp [kd]⟩⟩⟩
      · omega
      · omega
      · exact ⟨⟨rest.length, by simp, γ + 1 + 1 + 1 + 1, pre ++ [x], rest, o ++ [x], by simp, rfl, ⟨by simp; omega, by simpa using hc.2.2 (by rintro ⟨h1, h2⟩; omega)⟩, ⟨rfl, rfl, by simp [kd], by simp [kd]⟩⟩⟩
  · rintro st ⟨g, out, hm, hs⟩
    refine a_has hs fun τ σ γ => ?_
    repeat' (first | (with_reducible refine a_seq_k ?_; intro K hK) | (with_reducible first | refine a_block ?_ | refine a_ret ?_ | refine a_exit ?_ | refine a_skip ?_ | exact ConfOk.mk (by kernel_rfl)) | (with_reducible refine eqT_of (eq33 _ _ _ _ _ _) ?_; simp) | (with_reducible refine eqT_of (eq35 _ _ _ _ _ _ _ _) ?_; simp) | ((fail_if_success with_reducible show False); with_reducible apply_assumption (exfalso := false) (symm := false) only [*, rfl, trivial, congrArg]) | with_reducible refine And.intro ?_ ?_ | (intro h; contradiction) | (intro h; subst h) | intro h | ((try (with_reducible first | refine a_region (by kernel_rfl) ?_ | (refine a_draw mixed (by kernel_rfl) ?_; intro C hC) | (refine a_cond_k ?_; intro X Y hX hY) | refine RetOk.mk ?_ | refine CallS.intro (calc_common out hm.1) ?_ | refine CallD.intro (calc_common out hm.1) ?_)); simp (maxSteps := 10000000) (implicitDefEqProofs := false) only [go_sem, kd]))
    · rw [caseKindC, hm.2]; simp [h]
    · rw [caseKindC, hm.2]; simp [h]
def kindC (op : Int) (ks : List Int) : Int × Int :=
  let s := if op = 25 then (⟨⟨2, 2 ^ 62, 0, 0⟩, true⟩ : Sig × Bool) else sigOf op
  if s.2 = false ∨ (ks.length : Int) < s.1.least ∨ s.1.most < (ks.length : Int) ∨ (ks.any fun k => decide (3 < k)) = true then (0, 1)
  else if op = 25 then caseKindC ks
  else if (commonC (s.1.takes :: ks)).2 = true then (if op = 26 then (commonC (s.1.takes :: ks)).1 else s.1.gives, 0) else (0, 50)
theorem kindC_of {op : Int} {ks : List Int} {s : Sig} {b : Bool} (hm : (if op = 25 then (⟨⟨2, 2 ^ 62, 0, 0⟩, true⟩ : Sig × Bool) else sigOf op) = (s, b)) :
    kindC op ks = if b = false ∨ (ks.length : Int) < s.least ∨ s.most < (ks.length : Int) ∨ (ks.any fun k => decide (3 < k)) = true then (0, 1)
      else if op = 25 then caseKindC ks
      else if (commonC (s.takes :: ks)).2 = true then (if op = 26 then (commonC (s.takes :: ks)).1 else s.gives, 0) else (0, 50) := by
  unfold kindC; simp only [hm]
theorem calc_Kind (op : Int) (ks : List Int) (hl : ks.length < 2 ^ 45) : ACalls Tryz.prog 85 [.int .u8 op, kinds ks] (.tuple [.int .u8 (kindC op ks).1, .int .i64 (kindC op ks).2]) := by
  have hl2 : ∀ x : Int, (x :: ks).length < 2 ^ 62 := by intro x; simp; omega
  refine acalls_k Tryz.func85 rfl (by kernel_rfl) (congrArg Array.toList Tryz.results85) Tryz.ntmps85 ?_
  intro R hR
  simp only [st0, List.length_cons, List.length_nil, Nat.reduceAdd, Nat.reduceSub, List.replicate_succ, List.replicate_zero, List.cons_append, List.nil_append]
  repeat' (first | (with_reducible refine a_seq_reg ?_; intro K hK) | (with_reducible first | refine a_block ?_ | refine a_ret ?_ | refine a_exit ?_ | refine a_skip ?_ | exact ConfOk.mk (by kernel_rfl)) | (with_reducible refine eqT_of (eq33 _ _ _ _ _ _) ?_; simp) | (with_reducible refine eqT_of (eq35 _ _ _ _ _ _ _ _) ?_; simp) | ((fail_if_success with_reducible show False); with_reducible apply_assumption (exfalso := false) (symm := false) only [*, rfl, trivial, congrArg]) | with_reducible refine And.intro ?_ ?_ | (intro h; contradiction) | (intro h; subst h) | intro h | ((try (with_reducible first | refine a_region (by kernel_rfl) ?_ | (refine a_draw mixed (by kernel_rfl) ?_; intro C hC) | (refine a_cond_k ?_; intro X Y hX hY) | refine RetOk.mk ?_ | refine CallS.intro (calc_signatures _) ?_ | refine CallD.intro (calc_signatures _) ?_)); simp (maxSteps := 10000000) (implicitDefEqProofs := false) only [go_sem, Sig.enc]))
  refine a_cut (fun st => ∃ (g : Nat) (s : Sig) (b : Bool), ((if op = 25 then (⟨⟨2, 2 ^ 62, 0, 0⟩, true⟩ : Sig × Bool) else sigOf op) = (s, b)) ∧ Has st 62 [(0, .int .u8 op), (1, .slice (ks.map kd)), (6, .ptr 6 g 0), (7, .bool b)] [(6, .box g s.enc)]) (fun K hK => ?_) ?_
  · repeat' (first | (with_reducible refine a_seq_k ?_; intro K hK) | (with_reducible first | refine a_block ?_ | refine a_ret ?_ | refine a_exit ?_ | refine a_skip ?_ | exact ConfOk.mk (by kernel_rfl)) | (with_reducible refine eqT_of (eq33 _ _ _ _ _ _) ?_; simp) | (with_reducible refine eqT_of (eq35 _ _ _ _ _ _ _ _) ?_; simp) | ((fail_if_success with_reducible show False); with_reducible apply_assumption (exfalso := false) (symm := false) only [*, rfl, trivial, congrArg]) | with_reducible refine And.intro ?_ ?_ | (intro h; contradiction) | (intro h; subst h) | intro h | ((try (with_reducible first | refine a_region (by kernel_rfl) ?_ | (refine a_draw mixed (by kernel_rfl) ?_; intro C hC) | (refine a_cond_k ?_; intro X Y hX hY) | refine RetOk.mk ?_)); simp (maxSteps := 10000000) (implicitDefEqProofs := false) only [go_sem, Sig.enc]))
    · exact ⟨⟨1, _, _, rfl, ⟨rfl, rfl, by simp, by simp [Sig.enc]⟩⟩⟩
    · exact ⟨⟨1, (sigOf op).1, (sigOf op).2, by rw [if_neg h], ⟨rfl, rfl, by simp, by simp [Sig.enc]⟩⟩⟩
  · rintro st ⟨g, s, b, hm, hs⟩
    refine a_has hs fun τ σ γ => ?_
    refine a_cut (fun st => (b = true ∧ s.least ≤ (ks.length : Int) ∧ (ks.length : Int) ≤ s.most ∧ (ks.any fun k => decide (3 < k)) = false) ∧ Has st 62 [(0, .int .u8 op), (1, .slice (ks.map kd)), (6, .ptr 6 g 0)] [(6, .box g s.enc)]) (fun K hK => ?_) ?_
    · repeat' (first | (with_reducible refine a_seq_k ?_; intro K hK) | (with_reducible first | refine a_block ?_ | refine a_ret ?_ | refine a_exit ?_ | refine a_skip ?_ | exact ConfOk.mk (by kernel_rfl)) | (with_reducible refine eqT_of (eq33 _ _ _ _ _ _) ?_; simp) | (with_reducible refine eqT_of (eq35 _ _ _ _ _ _ _ _) ?_; simp) | ((fail_if_success with_reducible show False); with_reducible apply_assumption (exfalso := false) (symm := false) only [*, rfl, trivial, congrArg]) | with_reducible refine And.intro ?_ ?_ | (intro h; contradiction) | (intro h; subst h) | intro h | ((try (with_reducible first | refine a_region (by kernel_rfl) ?_ | (refine a_draw mixed (by kernel_rfl) ?_; intro C hC) | (refine a_cond_k ?_; intro X Y hX hY) | refine RetOk.mk ?_ | refine CallS.intro (sl_ContainsFunc ks _ _ _ (fun _ _ => rfl) (fun x => calc_Kind1 x) (by omega)) ?_ | refine CallD.intro (sl_ContainsFunc ks _ _ _ (fun _ _ => rfl) (fun x => calc_Kind1 x) (by omega)) ?_)); simp (maxSteps := 10000000) (implicitDefEqProofs := false) only [go_sem, Sig.enc]))
      all_goals first
        | exact ⟨⟨⟨by omega, by omega, by assumption⟩, ⟨rfl, rfl, by simp, by simp [Sig.enc]⟩⟩⟩
        | (rw [kindC_of hm, if_pos (by first | exact .inl rfl | exact .inr (.inl (by assumption)) | exact .inr (.inr (.inl (by assumption))) | exact .inr (.inr (.inr (by assumption))))])
    · rintro st ⟨hm, hs⟩
      refine a_has hs fun τ σ γ => ?_
      have hcc := calc_common (s.takes :: ks) (hl2 _)
      simp only [kinds, List.map_cons, kd] at hcc
      obtain ⟨rfl, hm1, hm2, hm3⟩ := hm
      have hm4 : ¬ (true = false ∨ (ks.length : Int) < s.least ∨ s.most < (ks.length : Int) ∨ (ks.any fun k => decide (3 < k)) = true) := by rw [hm3]; simp; omega
      repeat' (first | (with_reducible refine a_seq_k ?_; intro K hK) | (with_reducible first | refine a_block ?_ | refine a_ret ?_ | refine a_exit ?_ | refine a_skip ?_ | exact ConfOk.mk (by kernel_rfl)) | (with_reducible refine eqT_of (eq33 _ _ _ _ _ _) ?_; simp) | (with_reducible refine eqT_of (eq35 _ _ _ _ _ _ _ _) ?_; simp) | ((fail_if_success with_reducible show False); with_reducible apply_assumption (exfalso := false) (symm := false) only [*, rfl, trivial, congrArg]) | with_reducible refine And.intro ?_ ?_ | (intro h; contradiction) | (intro h; subst h) | intro h | ((try (with_reducible first | refine a_region (by kernel_rfl) ?_ | (refine a_draw mixed (by kernel_rfl) ?_; intro C hC) | (refine a_cond_k ?_; intro X Y hX hY) | refine RetOk.mk ?_ | refine CallS.intro (calc_caseKind ks hl) ?_ | refine CallD.intro (calc_caseKind ks hl) ?_ | refine CallS.intro (hcc) ?_ | refine CallD.intro (hcc) ?_)); simp (maxSteps := 10000000) (implicitDefEqProofs := false) only [go_sem, Sig.enc, kd, all_kd]))
      all_goals first
        | omega
        | (rw [kindC_of (by assumption), if_neg hm4]; simp [*]; done)

def vOkC (k n : Int) (s : ByteArray) : Bool :=
  if k = 0 then decide (n = 0) && decide (s = emp) else if k = 1 then decide (s = emp) else if k = 2 then decide (n = 0) && decide ((s.size : Int) ≤ 100)
  else if k = 3 then decide (s = emp) && decide (IntKind.wrap .u64 n ≤ 1) else false
def vOk (k n : Int) (s : ByteArray) : Bool :=
  if k = 0 then decide (n = 0) && decide (s = emp) else if k = 1 then decide (s = emp) else if k = 2 then decide (n = 0) && decide ((s.size : Int) ≤ 100)
  else if k = 3 then (decide (n = 0) || decide (n = 1)) && decide (s = emp) else false
theorem value_Valid (k n : Int) (s : ByteArray) : ACalls Tryz.prog 78 [vA k n s] (.bool (vOkC k n s)) := by
  refine acalls_k Tryz.func78 rfl (by kernel_rfl) (congrArg Array.toList Tryz.results78) Tryz.ntmps78 ?_
  intro R hR
  simp only [st0, List.length_cons, List.length_nil, Nat.reduceAdd, Nat.reduceSub, List.replicate_succ, List.replicate_zero, List.cons_append, List.nil_append]
  repeat' (first | (with_reducible refine a_seq_k ?_; intro K hK) | (with_reducible first | refine a_block ?_ | refine a_ret ?_ | refine a_exit ?_ | refine a_skip ?_ | exact ConfOk.mk (by kernel_rfl)) | (with_reducible refine eqT_of (eq33 _ _ _ _ _ _) ?_; simp) | (with_reducible refine eqT_of (eq35 _ _ _ _ _ _ _ _) ?_; simp) | ((fail_if_success with_reducible show False); with_reducible apply_assumption (exfalso := false) (symm := false) only [*, rfl, trivial, congrArg]) | with_reducible refine And.intro ?_ ?_ | (intro h; contradiction) | (intro h; subst h) | intro h | ((try (with_reducible first | refine a_region (by kernel_rfl) ?_ | (refine a_draw mixed (by kernel_rfl) ?_; intro C hC) | (refine a_cond_k ?_; intro X Y hX hY) | refine RetOk.mk ?_)); simp (maxSteps := 10000000) (implicitDefEqProofs := false) only [go_sem]))
  all_goals simp [vOkC, *]
theorem ref_vValid (k n : Int) (s : ByteArray) : ACalls Tryz.prog 101 [vA k n s] (.bool (vOk k n s)) := by
  refine acalls_k Tryz.func101 rfl (by kernel_rfl) (congrArg Array.toList Tryz.results101) Tryz.ntmps101 ?_
  intro R hR
  simp only [st0, List.length_cons, List.length_nil, Nat.reduceAdd, Nat.reduceSub, List.replicate_succ, List.replicate_zero, List.cons_append, List.nil_append]
  repeat' (first | (with_reducible refine a_seq_k ?_; intro K hK) | (with_reducible first | refine a_block ?_ | refine a_ret ?_ | refine a_exit ?_ | refine a_skip ?_ | exact ConfOk.mk (by kernel_rfl)) | (with_reducible refine eqT_of (eq33 _ _ _ _ _ _) ?_; simp) | (with_reducible refine eqT_of (eq35 _ _ _ _ _ _ _ _) ?_; simp) | ((fail_if_success with_reducible show False); with_reducible apply_assumption (exfalso := false) (symm := false) only [*, rfl, trivial, congrArg]) | with_reducible refine And.intro ?_ ?_ | (intro h; contradiction) | (intro h; subst h) | intro h | ((try (with_reducible first | refine a_region (by kernel_rfl) ?_ | (refine a_draw mixed (by kernel_rfl) ?_; intro C hC) | (refine a_cond_k ?_; intro X Y hX hY) | refine RetOk.mk ?_)); simp (maxSteps := 10000000) (implicitDefEqProofs := false) only [go_sem]))
  all_goals simp [vOk, *]
theorem ref_vSame (k n : Int) (s : ByteArray) (k' n' : Int) (s' : ByteArray) : ACalls Tryz.prog 102 [vA k n s, vA k' n' s'] (.bool (decide (k = k') && (decide (n = n') && decide (s = s')))) := by
  refine acalls_k Tryz.func102 rfl (by kernel_rfl) (congrArg Array.toList Tryz.results102) Tryz.ntmps102 ?_
  intro R hR
  simp only [st0, List.length_cons, List.length_nil, Nat.reduceAdd, Nat.reduceSub, List.replicate_succ, List.replicate_zero, List.cons_append, List.nil_append]
  repeat' (first | (with_reducible refine a_seq_k ?_; intro K hK) | (with_reducible first | refine a_block ?_ | refine a_ret ?_ | refine a_exit ?_ | refine a_skip ?_ | exact ConfOk.mk (by kernel_rfl)) | (with_reducible refine eqT_of (eq33 _ _ _ _ _ _) ?_; simp) | (with_reducible refine eqT_of (eq35 _ _ _ _ _ _ _ _) ?_; simp) | ((fail_if_success with_reducible show False); with_reducible apply_assumption (exfalso := false) (symm := false) only [*, rfl, trivial, congrArg]) | with_reducible refine And.intro ?_ ?_ | (intro h; contradiction) | (intro h; subst h) | intro h | ((try (with_reducible first | refine a_region (by kernel_rfl) ?_ | (refine a_draw mixed (by kernel_rfl) ?_; intro C hC) | (refine a_cond_k ?_; intro X Y hX hY) | refine RetOk.mk ?_)); simp (maxSteps := 10000000) (implicitDefEqProofs := false) only [go_sem]))
  all_goals simp [*]
def isErr (e : Int) : Bool := decide (e = 3) || decide (e = 4) || decide (e = 5) || decide (e = 6)
def zeroV (k n : Int) (s : ByteArray) : Bool := decide (k = 0) && (decide (n = 0) && decide (s = emp))
def oOkC (k n : Int) (s : ByteArray) (e : Int) : Bool := (decide (e = 0) && vOkC k n s) || (isErr e && zeroV k n s)
def oOk (k n : Int) (s : ByteArray) (e : Int) : Bool := if e = 0 then vOk k n s else isErr e && zeroV k n s
def rk (k n e : Int) : Int := if e ≠ 0 then 2 else if k = 0 then 1 else if n = 0 then 0 else 3
def notN (k n e : Int) : Int := if rk k n e = 3 ∨ rk k n e = 0 then IntKind.wrap .i64 (1 - n) else n

@[reducible] def outs (os : List Outv) : AV := .slice (os.map Outv.enc)
theorem all_outs (os : List Outv) : (∀ y ∈ List.map Outv.enc os, elOk 4 y = true) = True := by simp [elOk, Outv.enc, leafB]
theorem all_len (os : List Outv) : (∀ y ∈ List.map Outv.enc os, y.length = 4) = True := by simp [Outv.enc]
theorem take_enc (os : List Outv) : List.take os.length (List.map Outv.enc os) = List.map Outv.enc os := List.take_of_length_le (by simp)
def Outv.rk (o : Outv) : Int := Go.Proofs.YtoggbjfjmbjegaaGreatDoor.rk o.v.kind o.v.int o.err
@[reducible] def trueO : Outv := ⟨⟨3, 1, ⟨#[]⟩⟩, 0⟩
def andB (b o : Outv) : Outv := if o.rk < b.rk ∨ (o.rk = b.rk ∧ o.rk = 2 ∧ o.err < b.err) then o else b
def andO (os : List Outv) : Outv := os.foldl andB trueO
def notO (o : Outv) : Outv := ⟨⟨o.v.kind, notN o.v.kind o.v.int o.err, o.v.text⟩, o.err⟩
def orO (os : List Outv) : Outv := notO (andO (os.map notO))
@[reducible] def nullO : Outv := ⟨⟨0, 0, ⟨#[]⟩⟩, 0⟩
def chooseO : List Outv → Outv
  | [] => nullO
  | [x] => x
  | c :: v :: r => if c.rk = 2 then c else if c.rk = 3 then v else chooseO r

@[reducible] def isZ (o : Outv) : Bool := decide (o.v.kind = 0) && (decide (o.v.int = 0) && (decide (o.v.text = ⟨#[]⟩) && decide (o.err = 0)))
def firstO : List Outv → Outv
  | [] => nullO
  | x :: r => if isZ x = false then x else firstO r
def failB (e : Int) (o : Outv) : Int := if o.err ≠ 0 ∧ (e = 0 ∨ o.err < e) then o.err else e
def failO (os : List Outv) : Int := os.foldl failB 0
@[reducible] def errO (e : Int) : Outv := ⟨⟨0, 0, ⟨#[]⟩⟩, e⟩
@[reducible] def okC (o : Outv) : Bool := oOkC o.v.kind o.v.int o.v.text o.err
@[reducible] def ksOf (os : List Outv) : List Int := os.map fun o => o.v.kind
theorem kinds_ks (os : List Outv) : kinds (ksOf os) = .slice (os.map fun o => [.int .u8 o.v.kind]) := by simp [kinds, ksOf, kd, Function.comp_def]
def nodeC (op : Int) (os : List Outv) (S : Outv) : Outv :=
  if (os.all okC) = false then errO 1 else if (kindC op (ksOf os)).2 ≠ 0 then errO 1
  else if op = 23 then andO os else if op = 24 then orO os else if op = 25 then chooseO os else if op = 26 then firstO os
  else if failO os ≠ 0 then errO (failO os) else S
def strictB (op : Int) (os : List Outv) : Prop := (os.all okC) = true ∧ (kindC op (ksOf os)).2 = 0 ∧ op ≠ 23 ∧ op ≠ 24 ∧ op ≠ 25 ∧ op ≠ 26 ∧ failO os = 0

end Go.Proofs.YtoggbjfjmbjegaaGreatDoor
