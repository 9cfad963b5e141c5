/- The types of the program, in short. Small functions of calc and value. -/
import Derived.Test.YtoggbjfjmbjegaaGreatDoorAb19
import Derived.Test.YtoggbjfjmbjegaaGreatDoorProg
set_option linter.unusedSimpArgs false
set_option linter.unusedVariables false
section
namespace Go.Proofs.YtoggbjfjmbjegaaGreatDoor
open Go Go.Ab
theorem ti2 : ti Tryz.prog 2 = ⟨(.int .i64), 1, 8, false, some [.int .i64 0]⟩ := by kernel_rfl
theorem ti3 : ti Tryz.prog 3 = ⟨(.int .i64), 1, 8, false, some [.int .i64 0]⟩ := by kernel_rfl
theorem ti4 : ti Tryz.prog 4 = ⟨.bool, 1, 1, false, some [.bool false]⟩ := by kernel_rfl
theorem ti5 : ti Tryz.prog 5 = ⟨(.int .u8), 1, 1, false, some [.int .u8 0]⟩ := by kernel_rfl
theorem ti9 : ti Tryz.prog 9 = ⟨.str, 1, 16, false, some [.str ⟨#[]⟩]⟩ := by kernel_rfl
theorem ti21 : ti Tryz.prog 21 = ⟨(.int .i32), 1, 4, false, some [.int .i32 0]⟩ := by kernel_rfl
theorem ti22 : ti Tryz.prog 22 = ⟨(.int .u8), 1, 1, false, some [.int .u8 0]⟩ := by kernel_rfl
theorem ti24 : ti Tryz.prog 24 = ⟨(.int .u8), 1, 1, false, some [.int .u8 0]⟩ := by kernel_rfl
theorem ti26 : ti Tryz.prog 26 = ⟨(.struct [(0, 1, false), (1, 1, false), (2, 1, false)]), 3, 32, true, some [.int .u8 0, .int .i64 0, .str ⟨#[]⟩]⟩ := by kernel_rfl
theorem ti27 : ti Tryz.prog 27 = ⟨(.slice 30), 1, 24, false, some [.nils]⟩ := by kernel_rfl
theorem ti28 : ti Tryz.prog 28 = ⟨(.slice 73), 1, 24, false, some [.nils]⟩ := by kernel_rfl
theorem ti30 : ti Tryz.prog 30 = ⟨(.struct [(0, 1, false), (1, 3, true), (4, 1, false), (5, 1, false), (6, 1, false), (7, 1, false)]), 8, 104, true, some [.int .u8 0, .int .u8 0, .int .i64 0, .str ⟨#[]⟩, .int .i64 0, .int .i64 0, .nils, .nils]⟩ := by kernel_rfl
theorem ti34 : ti Tryz.prog 34 = ⟨(.int .i64), 1, 8, false, some [.int .i64 0]⟩ := by kernel_rfl
theorem ti52 : ti Tryz.prog 52 = ⟨(.slice 3), 1, 24, false, some [.nils]⟩ := by kernel_rfl
theorem ti68 : ti Tryz.prog 68 = ⟨(.slice 24), 1, 24, false, some [.nils]⟩ := by kernel_rfl
theorem ti69 : ti Tryz.prog 69 = ⟨(.slice 191), 1, 24, false, some [.nils]⟩ := by kernel_rfl
theorem ti73 : ti Tryz.prog 73 = ⟨(.struct [(0, 1, false), (1, 1, false), (2, 1, false), (3, 1, false), (4, 1, false), (5, 1, false), (6, 1, false), (7, 1, false), (8, 1, false), (9, 1, false), (10, 1, false), (11, 1, false)]), 12, 224, true, some [.int .u8 0, .int .i64 0, .nils, .nils, .nils, .nils, .nils, .nils, .nils, .int .i64 0, .int .i64 0, .nils]⟩ := by kernel_rfl
theorem ti78 : ti Tryz.prog 78 = ⟨.func, 1, 8, false, some [.nilFunc]⟩ := by kernel_rfl
theorem ti86 : ti Tryz.prog 86 = ⟨(.struct [(0, 1, false)]), 1, 24, true, some [.nils]⟩ := by kernel_rfl
theorem ti89 : ti Tryz.prog 89 = ⟨(.struct [(0, 1, false), (1, 1, false)]), 2, 48, true, some [.nils, .nils]⟩ := by kernel_rfl
theorem ti99 : ti Tryz.prog 99 = ⟨.func, 1, 8, false, some [.nilFunc]⟩ := by kernel_rfl
theorem ti122 : ti Tryz.prog 122 = ⟨.func, 1, 8, false, some [.nilFunc]⟩ := by kernel_rfl
theorem ti123 : ti Tryz.prog 123 = ⟨(.int .i64), 1, 8, false, some [.int .i64 0]⟩ := by kernel_rfl
theorem ti124 : ti Tryz.prog 124 = ⟨.func, 1, 8, false, some [.nilFunc]⟩ := by kernel_rfl
theorem ti144 : ti Tryz.prog 144 = ⟨(.int .i64), 1, 8, false, some [.int .i64 0]⟩ := by kernel_rfl
theorem ti173 : ti Tryz.prog 173 = ⟨(.ptr 123), 1, 8, false, some [.lit (.pointer none)]⟩ := by kernel_rfl
theorem ti174 : ti Tryz.prog 174 = ⟨(.int .u64), 1, 8, false, some [.int .u64 0]⟩ := by kernel_rfl
theorem ti190 : ti Tryz.prog 190 = ⟨(.slice 26), 1, 24, false, some [.nils]⟩ := by kernel_rfl
theorem ti191 : ti Tryz.prog 191 = ⟨(.slice 26), 1, 24, false, some [.nils]⟩ := by kernel_rfl
theorem ti199 : ti Tryz.prog 199 = ⟨(.struct [(0, 1, false), (1, 1, false), (2, 1, false), (3, 1, false)]), 4, 24, true, some [.int .i64 0, .int .i64 0, .int .u8 0, .int .u8 0]⟩ := by kernel_rfl
theorem ti288 : ti Tryz.prog 288 = ⟨.func, 1, 8, false, some [.nilFunc]⟩ := by kernel_rfl

theorem mixed : Tryz.prog.follows .mixedOrders = true := by kernel_rfl
end Go.Proofs.YtoggbjfjmbjegaaGreatDoor
end

section
namespace Go.Proofs.YtoggbjfjmbjegaaGreatDoor
open Go Go.Ab
attribute [local go_sem ↓] parts_tt parts_ff parts_tf parts_ft reduceIte
attribute [local go_sem] reduceCtorEq Nat.reduceAdd Nat.reduceSub Nat.reduceLeDiff Nat.reduceEqDiff Nat.reduceMul Nat.reduceLT Nat.reducePow Int.reduceEq Int.reduceLT Int.reduceLE Int.reduceGT Int.reduceGE Int.reduceAdd Int.reduceSub Int.reduceNeg Int.reduceToNat parts_eq learnT aops_nil aops_cons aopsD_nil aopsD_cons stepS stepD gval St.learn skipR St.after putτ applyUpd List.foldl_cons List.foldl_nil pureOp memOp callOf litA closeO closeK List.flatMap_cons List.flatMap_nil Option.map_none decide_false opnd ofConst leaf binA unA lenA indexA indexAddrA fieldAddrA fieldA weak_slice weak_nils weak_str weak_view weak_viewF weak_sliceF weak_ptr weak_cptr weak_rptr weak_sl weak_sl0 weak_any sliceFA_slice sliceFA_str sliceFA_view sliceFA_none sliceFA_some sameO sliceA convertA pickV fillA placeS cellsA setA partA loadM storeM appendM srcEls lookBox lookRow lookMap closeL closeV scalarB scalarL killed buildEls lookupA leafEq eqAll resA resL tupA retA thenA blockA isInt loA hiA foldA maxA minA okSize leafB closedB Res.foot List.getD_cons_zero List.getD_cons_succ List.set_cons_zero List.set_cons_succ List.map_cons List.map_nil List.append_nil List.nil_append List.cons_append List.length_cons List.length_nil List.take_succ_cons List.take_zero List.drop_succ_cons List.drop_zero List.take_nil List.drop_nil List.all_cons List.all_nil List.getElem?_toArray List.getElem?_cons_zero List.getElem?_cons_succ Option.bind_some Option.map_some true_and and_true true_implies ne_eq not_true_eq_false not_false_eq_true Bool.true_eq_false Bool.false_eq_true Bool.not_true Bool.not_false decide_eq_true_eq decide_eq_false_iff_not false_implies implies_true and_self ite_true ite_false cond_true cond_false Option.some.injEq List.reverse_cons List.reverse_nil Bool.and_self Bool.true_and Bool.and_true Bool.false_and Bool.and_false Bool.or_true Bool.true_or Bool.or_false Bool.false_or Bool.not_eq_eq_eq_not Bool.not_not Bool.or_self beq_self_eq_true and_false false_and or_true true_or or_false false_or not_true not_false_iff Decidable.not_not lookT lookR tabT tabR Int.toNat_natCast List.length_map List.map_append List.length_append decide_true decide_false tmod2 List.mem_singleton forall_eq elOk1 elOk3 elOk4 castn0 castn1 castn2 castn3 getD_mid getD_mid_map at_lt at_end mid_lt mid_lt' nat_ge List.size_toArray Array.size_empty Nat.add_zero Nat.zero_add
attribute [local irreducible] ASpec ACalls retA ti EqT
set_option linter.unusedSimpArgs false
set_option maxHeartbeats 4000000
set_option maxRecDepth 100000
set_option linter.unusedVariables false
attribute [local go_sem] ti2 ti3 ti4 ti5 ti9 ti21 ti22 ti24 ti26 ti27 ti28 ti30 ti34 ti52 ti68 ti69 ti73 ti78 ti86 ti89 ti99 ti122 ti123 ti124 ti144 ti173 ti174 ti190 ti191 ti199 ti288
def agree (a b : Int) : Bool := decide (a = b) || decide (a = 0) || decide (b = 0)
theorem calc_agree (a b : Int) : ACalls Tryz.prog 245 [.int .u8 a, .int .u8 b] (.bool (agree a b)) := by
  refine acalls_k Tryz.func245 rfl (by kernel_rfl) (congrArg Array.toList Tryz.results245) Tryz.ntmps245 ?_
  intro R hR
  simp only [st0, List.length_cons, List.length_nil, Nat.reduceAdd, Nat.reduceSub, List.replicate_succ, List.replicate_zero, List.cons_append, List.nil_append]
  repeat' (first | (with_reducible refine a_seq_k ?_; intro K hK) | (with_reducible first | refine a_block ?_ | refine a_ret ?_ | refine a_exit ?_ | refine a_skip ?_ | exact ConfOk.mk (by kernel_rfl)) | ((fail_if_success with_reducible show False); with_reducible apply_assumption (exfalso := false) (symm := false) only [*, rfl, trivial, congrArg]) | with_reducible refine And.intro ?_ ?_ | (intro h; contradiction) | (intro h; subst h) | intro h | ((try (with_reducible first | refine a_region (by kernel_rfl) ?_ | (refine a_draw mixed (by kernel_rfl) ?_; intro C hC) | (refine a_cond_k ?_; intro X Y hX hY) | refine RetOk.mk ?_)); simp (maxSteps := 10000000) (implicitDefEqProofs := false) only [go_sem]))
  all_goals simp [agree, *]
structure Val where
  kind : Int
  int : Int
  text : ByteArray
def Val.enc (v : Val) : List AV := [.int .u8 v.kind, .int .i64 v.int, .str v.text]
structure Outv where
  v : Val
  err : Int
def Outv.enc (o : Outv) : List AV := [.int .u8 o.v.kind, .int .i64 o.v.int, .str o.v.text, .int .i64 o.err]
def boolV (b : Bool) : Val := ⟨3, if b then 1 else 0, ⟨#[]⟩⟩
def rank (o : Outv) : Int := if o.err ≠ 0 then 2 else if o.v.kind = 0 then 1 else if o.v.int = 0 then 0 else 3
end Go.Proofs.YtoggbjfjmbjegaaGreatDoor
end
