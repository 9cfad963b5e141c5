/- algebra.used. What the evaluator knows beforehand: names, algebra.used. -/
import Derived.RangeFuncNested
import Derived.RangeFuncCalls
import Derived.RangeFuncLeaves
import Derived.Shelf.Abstract
import Derived.WalkKit
import Derived.OwnWalkIn
import Derived.TacticsInMore
import Derived.LoopNIn
import Derived.LoopIn
import Derived.Maps.RangeRun
import Derived.Test.YtleadljchhkiiaaGreatDoorAb19
import Derived.Test.YtleadljchhkiiaaGreatDoorProg
import Derived.Test.YtleadljchhkiiaaGreatDoorI1
import Derived.Test.YtleadljchhkiiaaGreatDoorAb26
set_option linter.unusedSimpArgs false
set_option linter.unusedVariables false
section
namespace Go.Proofs
open Go.RowKit Go.Shelf
section
variable {P : Program}
theorem run_makeMap0 (t : TypeId) (W : World) : (Instr.makeMap t none).run P W = .ok (.map (some W.heap.size)) (W.alloc (.map #[] 0)) := rfl
def othersK (k : Int) : List MapEntry → Bool
  | [] => true
  | e :: r => (match e.key with | .int .u64 m => !decide (k = m) | _ => false) && othersK k r
theorem find_others {k : Int} : ∀ {es : List MapEntry} {i : Nat}, othersK k es = true → Instr.findNow (.int .u64) (.int .u64 k) es i = some none
  | [], _, _ => rfl
  | e :: r, i, h => by
    obtain ⟨key, val, born⟩ := e
    simp only [othersK, Bool.and_eq_true] at h
    obtain ⟨h1, h2⟩ := h
    split at h1
    · rename_i m
      simp only [Bool.not_eq_true', decide_eq_false_iff_not] at h1
      have hs : Instr.sameNow (.int .u64) (.int .u64 k) (.int .u64 m) = some false := by simp [Instr.sameNow, h1]
      simp only [Instr.findNow, hs]
      exact find_others h2
    · cases h1
end
def entU (k : Int) (v : Bool) (c : Nat) : MapEntry := { key := .int .u64 k, val := .bool v, born := c }
theorem othersK_nil (k : Int) : othersK k [] = true := by rw [othersK]
theorem othersK_cons (k m : Int) (v : Bool) (c : Nat) (es : List MapEntry) : othersK k (entU m v c :: es) = (!decide (k = m) && othersK k es) := by rw [othersK]; exact congrArg (· && othersK k es) rfl
theorem alloc2 (w : World) (o o' : Obj) : ((w.alloc o).alloc o').heap[w.heap.size + 1]? = some o' := by
  have := World.alloc_heap_new (w.alloc o) o'
  rwa [World.size_alloc] at this
theorem alloc3_mid (w : World) (o o' o'' : Obj) : (((w.alloc o).alloc o').alloc o'').heap[w.heap.size + 1]? = some o' := (Below.heap_alloc ((w.alloc o).alloc o') o'' _ (by simp)).trans (alloc2 w o o')
theorem alloc3_top (w : World) (o o' o'' : Obj) : (((w.alloc o).alloc o').alloc o'').heap[w.heap.size + 2]? = some o'' := by
  have := alloc2 (w.alloc o) o' o''
  rwa [World.size_alloc] at this
theorem run_ins (w : World) (o : Obj) (es : List MapEntry) (c : Nat) (k : Int) (v : Bool) (hk : othersK k es = true) :
    (Instr.mapUpdate 285 (.map (some (w.heap.size + 1))) (.int .u64 k) (.bool v)).run Tryz.prog ((w.alloc o).alloc (.map es.toArray c)) =
      .ok () ((w.alloc o).alloc (.map (es ++ [entU k v c]).toArray (c + 1))) := by
  have hh := alloc2 w o (.map es.toArray c)
  have hu : Tryz.prog.underlying 285 = some (.map 207 4) := by kernel_rfl
  have hf : Tryz.prog.underlying 207 = some (.int .u64) := by kernel_rfl
  have hfi := find_others (i := 0) hk
  simp only [Instr.mapUpdate, Sem.run_bind, run_underlying hu, Result.andThen_ok, Go.Ab.run_getObj hh, Go.Ab.checkKey_int hf, Instr.findKey, run_underlying hf, hfi, Sem.run_pure, Go.Ab.run_setObj hh]
  refine congrArg (Result.ok ()) ?_
  unfold World.alloc
  simp only [World.mk.injEq, and_true]
  apply Array.ext_getElem?
  intro i
  rw [Array.getElem?_setIfInBounds]
  simp only [Array.getElem?_push, Array.size_push, List.push_toArray, entU]
  by_cases h1 : i = w.heap.size + 1
  · simp [h1]
  · simp [h1, Ne.symm h1]
theorem run_rng (w : World) (o : Obj) (es : Array MapEntry) (c : Nat) :
    (Instr.range 285 (.map (some (w.heap.size + 1)))).run Tryz.prog ((w.alloc o).alloc (.map es c)) =
      .ok (.pointer (some ⟨w.heap.size + 2, 0, none⟩)) (((w.alloc o).alloc (.map es c)).alloc (.mapIter (some (w.heap.size + 1)) c #[] c)) := by
  have hh := alloc2 w o (.map es c)
  have hu : Tryz.prog.underlying 285 = some (.map 207 4) := by kernel_rfl
  simp only [Instr.range, Sem.run_bind, run_underlying hu, Result.andThen_ok, Go.Ab.run_getObj hh, Sem.run_pure, run_newObj_alloc, World.size_alloc]
attribute [local go_sem] run_makeMap0 run_ins run_rng othersK_nil othersK_cons
def entsU (b : Nat → Bool) : List MapEntry := [entU 1 (b 0) 0, entU 2 (b 1) 1, entU 4 (b 2) 2, entU 8 (b 3) 3, entU 16 (b 4) 4, entU 32 (b 5) 5, entU 64 (b 6) 6]
def accU (b : Nat → Bool) (seen : List Nat) : Nat := seen.foldl (fun a i => if b i = true then a ||| 2 ^ i else a) 0
theorem entsU_mem {b : Nat → Bool} {e : MapEntry} (h : e ∈ entsU b) : ∃ i, i < 7 ∧ e = entU ((2 ^ i : Nat) : Int) (b i) i := by
  simp only [entsU, List.mem_cons, List.not_mem_nil, or_false] at h
  rcases h with rfl | rfl | rfl | rfl | rfl | rfl | rfl
  · exact ⟨0, by omega, rfl⟩
  · exact ⟨1, by omega, rfl⟩
  · exact ⟨2, by omega, rfl⟩
  · exact ⟨3, by omega, rfl⟩
  · exact ⟨4, by omega, rfl⟩
  · exact ⟨5, by omega, rfl⟩
  · exact ⟨6, by omega, rfl⟩
theorem mem_entsU (b : Nat → Bool) {i : Nat} (h : i < 7) : entU ((2 ^ i : Nat) : Int) (b i) i ∈ entsU b := by
  have : i = 0 ∨ i = 1 ∨ i = 2 ∨ i = 3 ∨ i = 4 ∨ i = 5 ∨ i = 6 := by omega
  rcases this with rfl | rfl | rfl | rfl | rfl | rfl | rfl <;> simp [entsU]
theorem accU_bit (b : Nat → Bool) (l : List Nat) : ∀ (a j : Nat), (l.foldl (fun a i => if b i = true then a ||| 2 ^ i else a) a).testBit j = (a.testBit j || (decide (j ∈ l) && b j)) := by
  induction l with
  | nil => intro a j; simp
  | cons i r ih =>
    intro a j
    rw [List.foldl_cons, ih]
    by_cases hb : b i = true
    · rw [if_pos hb, Nat.testBit_or, Nat.testBit_two_pow]
      by_cases hij : i = j
      · subst hij; simp [hb]
      · simp [hij, Ne.symm hij]
    · rw [if_neg hb]
      by_cases hij : i = j
      · subst hij; simp [hb]
      · simp [Ne.symm hij]
theorem accU_lt (b : Nat → Bool) {l : List Nat} (h : ∀ i ∈ l, i < 7) : accU b l < 128 := by
  have : accU b l < 2 ^ 7 := by
    apply Nat.lt_pow_two_of_testBit
    intro j hj
    unfold accU
    rw [accU_bit]
    have : j ∉ l := fun hm => by have := h j hm; omega
    simp [this]
  exact this
theorem accU_all (b : Nat → Bool) {l : List Nat} (h : ∀ i, i < 7 → i ∈ l) (h2 : ∀ i ∈ l, i < 7) : accU b l = accU b [0, 1, 2, 3, 4, 5, 6] := by
  apply Nat.eq_of_testBit_eq
  intro j
  unfold accU
  rw [accU_bit, accU_bit]
  by_cases hj : j < 7
  · have h3 : j ∈ [0, 1, 2, 3, 4, 5, 6] := by simp; omega
    simp [h j hj, h3]
  · have h3 : j ∉ [0, 1, 2, 3, 4, 5, 6] := by simp; omega
    have h4 : j ∉ l := fun hm => hj (h2 j hm)
    simp [h4, h3]
theorem or_u64 (a c : Nat) (ha : a < 128) (hc : c < 128) : IntKind.wrap .u64 ((BitVec.ofInt 64 (a : Int) ||| BitVec.ofInt 64 (c : Int)).toNat : Int) = ((a ||| c : Nat) : Int) := by
  have h : a ||| c < 128 := Nat.or_lt_two_pow (n := 7) ha hc
  rw [BitVec.toNat_or, BitVec.ofInt_natCast, BitVec.ofInt_natCast, BitVec.toNat_ofNat, BitVec.toNat_ofNat, Nat.mod_eq_of_lt (by omega), Nat.mod_eq_of_lt (by omega)]
  show (((a ||| c : Nat) : Int) % 18446744073709551616) = _
  omega
set_option maxRecDepth 100000 in
set_option maxHeartbeats 4000000 in
theorem used_in (F : Fence) (n : Nat) (hf : F.fn 180) (hro : F.round = none) (_ : 1 ≤ n) (op table frm count : Int) (a2 a3 a4 a5 a6 a7 a8 a11 : Option Addr) (l2 l3 l4 l5 l6 l7 l8 l11 c2 c3 c4 c5 c6 c7 c8 c11 : Nat) (w : World)
    (b : Nat → Bool) (h0 : b 0 = decide (0 < wrap64 (l2 + l3))) (h1 : b 1 = (table != 0)) (h2 : b 2 = decide (0 < l4)) (h3 : b 3 = decide (0 < l5)) (h4 : b 4 = decide (0 < wrap64 (l6 + l7))) (h5 : b 5 = decide (0 < l8)) (h6 : b 6 = ((frm != 0) || (count != 0))) :
    CallsIn F n Tryz.prog 180 #[.agg #[.int .u8 op, .int .i64 table, .slice a2 l2 c2, .slice a3 l3 c3, .slice a4 l4 c4, .slice a5 l5 c5, .slice a6 l6 c6, .slice a7 l7 c7, .slice a8 l8 c8, .int .i64 frm, .int .i64 count, .slice a11 l11 c11]] w
      fun e W' => e = .returned (.int .u64 (accU b [0, 1, 2, 3, 4, 5, 6])) ∧ Below w.heap.size w W' := by
  refine callsIn_of_wp Tryz.func180 rfl hf ?_ hro
  simp only [Tryz.ntmps180, List.size_toArray, List.length_cons, List.length_nil, Nat.reduceAdd, Nat.reduceSub, Array.replicate_succ, Array.replicate_zero, List.push_toArray, List.append_toArray, List.nil_append, List.cons_append]
  gi_wp2
  all_goals
    gi_loopw [3] (fun v wr => ∃ seen : List Nat, seen.Nodup ∧ (∀ i ∈ seen, i < 7) ∧ v = .int .u64 ((accU b seen : Nat) : Int) ∧ wr.heap[w.heap.size + 1]? = some (.map (entsU b).toArray 7) ∧ wr.heap[w.heap.size + 2]? = some (.mapIter (some (w.heap.size + 1)) 7 seen.toArray 7) ∧ Below w.heap.size w wr)
      (fun v wr => 7 - (match wr.heap[w.heap.size + 2]? with | some (.mapIter _ _ seen _) => seen.size | _ => 0))
    case atStart =>
      refine ⟨[], List.nodup_nil, by simp, rfl, ?_, ?_, ?_⟩
      · rw [alloc3_mid]
        first
          | (simp [entsU, *]; done)
          | (have hfr : (frm != 0) = true := by simp; assumption
             simp [entsU, *])
      · exact alloc3_top _ _ _ _
      · exact (((Below.refl _ w).alloc (Nat.le_refl _) _).alloc (by simp) _).alloc (by simp; omega) _
    case round =>
      obtain ⟨seen, hnd, hlt, rfl, hm, hr, hB⟩ := hrel
      rcases run_next_at (P := Tryz.prog) wr 0 (w.heap.size + 2) (w.heap.size + 1) 7 7 seen.toArray (entsU b).toArray 7 hr hm (fun x hx => by obtain ⟨i, hi, rfl⟩ := entsU_mem (b := b) (by simpa using hx); exact hi) (Nat.le_refl _) with ⟨hl0, hnx⟩ | ⟨e, he, w1, hw1, hnx⟩
      · have hall : ∀ i, i < 7 → i ∈ seen := by
          intro i hi
          have hl1 : leftOf (entsU b).toArray seen.toArray = #[] := Array.eq_empty_of_size_eq_zero hl0
          unfold leftOf at hl1
          rw [Array.filter_eq_empty_iff] at hl1
          have h7 := hl1 (entU ((2 ^ i : Nat) : Int) (b i) i) (by simpa using mem_entsU b hi)
          simpa [entU] using h7
        have hfin := accU_all b hall hlt
        gi_wp2
        go_ret
        exact ⟨by rw [hfin]; rfl, hB⟩
      · obtain ⟨i, hi, rfl, hns⟩ : ∃ i, i < 7 ∧ e = entU ((2 ^ i : Nat) : Int) (b i) i ∧ i ∉ seen := by
          unfold leftOf at he
          simp only [Array.mem_toList_iff, Array.mem_filter, List.mem_toArray] at he
          obtain ⟨i, hi, rfl⟩ := entsU_mem he.1
          exact ⟨i, hi, rfl, by simpa [entU] using he.2⟩
        have hr1 : w1.heap = wr.heap := by rcases hw1 with rfl | rfl <;> rfl
        have hbl : Below w.heap.size wr w1 := by rcases hw1 with rfl | rfl; exact Below.refl _ _; exact (Below.refl _ _).drew
        have hlt2 : w.heap.size + 2 < w1.heap.size := by rw [hr1]; exact (Array.getElem?_eq_some_iff.1 hr).1
        have hm2 : (ChangeMaps.setBlock w1 (w.heap.size + 2) (.mapIter (some (w.heap.size + 1)) 7 (seen ++ [i]).toArray 7)).heap[w.heap.size + 1]? = some (.map (entsU b).toArray 7) := by
          show (w1.heap.setIfInBounds _ _)[_]? = _
          rw [Array.getElem?_setIfInBounds_ne (by omega), hr1]; exact hm
        have hr2 : (ChangeMaps.setBlock w1 (w.heap.size + 2) (.mapIter (some (w.heap.size + 1)) 7 (seen ++ [i]).toArray 7)).heap[w.heap.size + 2]? = some (.mapIter (some (w.heap.size + 1)) 7 (seen ++ [i]).toArray 7) := by
          show (w1.heap.setIfInBounds _ _)[_]? = _
          rw [Array.getElem?_setIfInBounds_self_of_lt hlt2]
        have hent := run_entry_at (P := Tryz.prog) _ (w.heap.size + 2) (w.heap.size + 1) 7 seen.toArray (entsU b).toArray 7 (entU ((2 ^ i : Nat) : Int) (b i) i) (by simpa [entU] using hr2) hm2 (by simpa using mem_entsU b hi) (by simp [entsU, entU])
        have hB2 : Below w.heap.size w (ChangeMaps.setBlock w1 (w.heap.size + 2) (.mapIter (some (w.heap.size + 1)) 7 (seen ++ [i]).toArray 7)) := by
          refine (hB.trans hbl).trans ⟨rfl, rfl, rfl, by simp [ChangeMaps.setBlock], fun k hk => ?_⟩
          show (w1.heap.setIfInBounds _ _)[_]? = _
          rw [Array.getElem?_setIfInBounds_ne (by omega)]
        have hnd2 : (seen ++ [i]).Nodup := by
          rw [List.nodup_append]
          exact ⟨hnd, by simp, by simp; exact fun a ha e => hns (e ▸ ha)⟩
        have hlt3 : ∀ j ∈ seen ++ [i], j < 7 := by
          intro j hj
          rcases List.mem_append.1 hj with h | h
          · exact hlt j h
          · rw [List.mem_singleton.1 h]; exact hi
        have hacc : accU b (seen ++ [i]) = if b i = true then accU b seen ||| 2 ^ i else accU b seen := by simp [accU]
        have hor := or_u64 (accU b seen) (2 ^ i) (accU_lt b hlt) (show 2 ^ i < 2 ^ 7 from Nat.pow_lt_pow_right (a := 2) (by omega) hi)
        have hsz : seen.length < 7 := by
          have := List.Nodup.length_le_of_subset hnd2 (fun j hj => List.mem_range.2 (hlt3 j hj))
          simp at this; omega
        simp only [entU] at hnx hent
        cases hbi : b i
        · rw [hbi] at hnx hent
          rw [hbi] at hacc
          gi_wp2
          go_roundw
          case rel => exact ⟨seen ++ [i], hnd2, hlt3, by rw [hacc]; rfl, hm2, hr2, hB2⟩
          case measure => rw [hr2, hr]; simp; omega
        · rw [hbi] at hnx hent
          rw [hbi, if_pos rfl] at hacc
          gi_wp2
          go_roundw
          case rel => exact ⟨seen ++ [i], hnd2, hlt3, by rw [hacc]; exact congrArg (Value.int .u64) (by rw [← hor, Int.natCast_pow]; rfl), hm2, hr2, hB2⟩
          case measure => rw [hr2, hr]; simp; omega
/-- A slice that leans on no own memory, of a length. -/
def IsSl (x : Go.Ab.AV) (n : Nat) : Prop := (∃ els, x = .slice els ∧ n = els.length) ∨ (x = .nils ∧ n = 0)
open Go.Ab in
theorem IsSl.open {x : AV} {n : Nat} {w : World} {own : Nat → Prop} {v : Value} (h : IsSl x n) (hr : RepC w own x v) : ∃ a c, v = .slice a n c := by
  rcases h with ⟨els, rfl, rfl⟩ | ⟨rfl, rfl⟩
  · cases hr with
    | slice _ _ _ _ => exact ⟨_, _, rfl⟩
    | slice0 => exact ⟨_, _, rfl⟩
  · cases hr; exact ⟨_, _, rfl⟩
def usedB (b0 b1 b2 b3 b4 b5 b6 : Bool) : Nat → Bool
  | 0 => b0 | 1 => b1 | 2 => b2 | 3 => b3 | 4 => b4 | 5 => b5 | 6 => b6 | _ => false
def usedV (b0 b1 b2 b3 b4 b5 b6 : Bool) : Int := (accU (usedB b0 b1 b2 b3 b4 b5 b6) [0, 1, 2, 3, 4, 5, 6] : Nat)
section
variable (b0 b1 b2 b3 b4 b5 b6 : Bool)
theorem us0 : usedB b0 b1 b2 b3 b4 b5 b6 0 = b0 := rfl
theorem us1 : usedB b0 b1 b2 b3 b4 b5 b6 1 = b1 := rfl
theorem us2 : usedB b0 b1 b2 b3 b4 b5 b6 2 = b2 := rfl
theorem us3 : usedB b0 b1 b2 b3 b4 b5 b6 3 = b3 := rfl
theorem us4 : usedB b0 b1 b2 b3 b4 b5 b6 4 = b4 := rfl
theorem us5 : usedB b0 b1 b2 b3 b4 b5 b6 5 = b5 := rfl
theorem us6 : usedB b0 b1 b2 b3 b4 b5 b6 6 = b6 := rfl
theorem usV : ((accU (usedB b0 b1 b2 b3 b4 b5 b6) [0, 1, 2, 3, 4, 5, 6] : Nat) : Int) = usedV b0 b1 b2 b3 b4 b5 b6 := rfl
end
theorem used_calls (op table frm count : Int) (a2 a3 a4 a5 a6 a7 a8 a11 : Option Addr) (l2 l3 l4 l5 l6 l7 l8 l11 c2 c3 c4 c5 c6 c7 c8 c11 : Nat) (w : World) :
    Calls Tryz.prog 180 #[.agg #[.int .u8 op, .int .i64 table, .slice a2 l2 c2, .slice a3 l3 c3, .slice a4 l4 c4, .slice a5 l5 c5, .slice a6 l6 c6, .slice a7 l7 c7, .slice a8 l8 c8, .int .i64 frm, .int .i64 count, .slice a11 l11 c11]] w
      fun e W' => e = .returned (.int .u64 (usedV (decide (0 < wrap64 (l2 + l3))) (table != 0) (decide (0 < l4)) (decide (0 < l5)) (decide (0 < wrap64 (l6 + l7))) (decide (0 < l8)) ((frm != 0) || (count != 0)))) ∧ Below w.heap.size w W' := by
  have h := used_in Fence.wide 6 trivial rfl (by omega) op table frm count a2 a3 a4 a5 a6 a7 a8 a11 l2 l3 l4 l5 l6 l7 l8 l11 c2 c3 c4 c5 c6 c7 c8 c11 w (usedB (decide (0 < wrap64 (l2 + l3))) (table != 0) (decide (0 < l4)) (decide (0 < l5)) (decide (0 < wrap64 (l6 + l7))) (decide (0 < l8)) ((frm != 0) || (count != 0))) (us0 _ _ _ _ _ _ _) (us1 _ _ _ _ _ _ _) (us2 _ _ _ _ _ _ _) (us3 _ _ _ _ _ _ _) (us4 _ _ _ _ _ _ _) (us5 _ _ _ _ _ _ _) (us6 _ _ _ _ _ _ _)
  rw [usV] at h
  exact (callsIn_wide (n := 6)).1 h
open Go.Ab in
/-- algebra.used. -/
theorem algebra_used (op table frm count : Int) {x2 x3 x4 x5 x6 x7 x8 x11 : AV} {l2 l3 l4 l5 l6 l7 l8 l11 : Nat} (h2 : IsSl x2 l2) (h3 : IsSl x3 l3) (h4 : IsSl x4 l4) (h5 : IsSl x5 l5) (h6 : IsSl x6 l6) (h7 : IsSl x7 l7) (h8 : IsSl x8 l8) (h11 : IsSl x11 l11) :
    ACalls Tryz.prog 180 [.agg [.int .u8 op, .int .i64 table, x2, x3, x4, x5, x6, x7, x8, .int .i64 frm, .int .i64 count, x11]] (.int .u64 (usedV (decide (0 < wrap64 (l2 + l3))) (table != 0) (decide (0 < l4)) (decide (0 < l5)) (decide (0 < wrap64 (l6 + l7))) (decide (0 < l8)) ((frm != 0) || (count != 0)))) := by
  refine ⟨by kernel_rfl, fun w own vs hown hglob hargs => ?_⟩
  obtain _ | ⟨ha, hb⟩ := hargs
  obtain _ | _ := hb
  obtain _ | _ | _ | @⟨_, us, hs⟩ := ha
  obtain _ | ⟨r0, hs⟩ := hs; obtain _ | ⟨r1, hs⟩ := hs; obtain _ | ⟨r2, hs⟩ := hs; obtain _ | ⟨r3, hs⟩ := hs; obtain _ | ⟨r4, hs⟩ := hs; obtain _ | ⟨r5, hs⟩ := hs
  obtain _ | ⟨r6, hs⟩ := hs; obtain _ | ⟨r7, hs⟩ := hs; obtain _ | ⟨r8, hs⟩ := hs; obtain _ | ⟨r9, hs⟩ := hs; obtain _ | ⟨r10, hs⟩ := hs; obtain _ | ⟨r11, hs⟩ := hs; obtain _ | _ := hs
  cases r0; cases r1; cases r9; cases r10
  obtain ⟨a2, c2, rfl⟩ := h2.open r2
  obtain ⟨a3, c3, rfl⟩ := h3.open r3
  obtain ⟨a4, c4, rfl⟩ := h4.open r4
  obtain ⟨a5, c5, rfl⟩ := h5.open r5
  obtain ⟨a6, c6, rfl⟩ := h6.open r6
  obtain ⟨a7, c7, rfl⟩ := h7.open r7
  obtain ⟨a8, c8, rfl⟩ := h8.open r8
  obtain ⟨a11, c11, rfl⟩ := h11.open r11
  refine (used_calls op table frm count a2 a3 a4 a5 a6 a7 a8 a11 l2 l3 l4 l5 l6 l7 l8 l11 c2 c3 c4 c5 c6 c7 c8 c11 w).mono ?_
  rintro e W' ⟨rfl, hB⟩
  exact ⟨_, rfl, .int _ _, hB⟩
#print axioms algebra_used
end Go.Proofs
end

section
namespace Go.Proofs
open Go Go.Ab Go.RowKit Go.Proofs.YtleadljchhkiiaaGreatDoor
def lenS : AV → Option Nat
  | .slice els => some els.length
  | .nils => some 0
  | .sl0 => some 0
  | .sl _ _ _ _ len => some len
  | _ => none
theorem lenS_open {x : AV} {n : Nat} {w : World} {own : Nat → Prop} {β : Nat → Nat → Ab.Loc} {ok : Nat → Nat → Prop} {v : Value} (h : lenS x = some n) (hr : RepV w own β ok x v) : ∃ a c, v = .slice a n c := by
  cases x <;> simp only [lenS] at h <;> (try (cases h; done)) <;> cases h
  · cases hr with
    | closed hr => cases hr with
      | slice _ _ _ _ => exact ⟨_, _, rfl⟩
      | slice0 => exact ⟨_, _, rfl⟩
  · rw [hr.nils_open]; exact ⟨_, _, rfl⟩
  · obtain ⟨cap, _, _, _, e⟩ := hr.sl_open; exact ⟨_, _, e⟩
  · cases hr with
    | closed hr => cases hr; exact ⟨_, _, rfl⟩
def knownU : CallG := fun f _ _ args σ _ => if f = 180 then
    match args with
    | [.agg [.int .u8 _, .int .i64 table, x2, x3, x4, x5, x6, x7, x8, .int .i64 frm, .int .i64 count, x11]] =>
      match lenS x2, lenS x3, lenS x4, lenS x5, lenS x6, lenS x7, lenS x8, lenS x11 with
      | some l2, some l3, some l4, some l5, some l6, some l7, some l8, some _ =>
        some (.int .u64 (usedV (decide (0 < wrap64 (l2 + l3))) (table != 0) (decide (0 < l4)) (decide (0 < l5)) (decide (0 < wrap64 (l6 + l7))) (decide (0 < l8)) ((frm != 0) || (count != 0))), σ, [])
      | _, _, _, _, _, _, _, _ => none
    | _ => none
  else none
theorem knownU_sound : ∀ f γ ls args σ c r σ' κ, knownU f γ ls args σ c = some (r, σ', κ) → GCalls Tryz.prog f γ κ args σ r σ' := by
  intro f γ ls args σ c r σ' κ hk
  unfold knownU at hk
  split at hk
  case isFalse => cases hk
  rename_i hf
  subst hf
  split at hk
  case h_2 => cases hk
  rename_i op table x2 x3 x4 x5 x6 x7 x8 frm count x11
  split at hk
  case h_2 => cases hk
  rename_i l2 l3 l4 l5 l6 l7 l8 l11 h2 h3 h4 h5 h6 h7 h8 h11
  simp only [Option.some.injEq, Prod.mk.injEq] at hk
  obtain ⟨rfl, rfl, rfl⟩ := hk
  refine ⟨by kernel_rfl, fun N ext β ok vs w hst hgen _ => ?_⟩
  have ht := hst.temps
  simp only at ht
  obtain _ | ⟨ha, hb⟩ := ht
  obtain _ | _ := hb
  obtain ⟨us, rfl, hs⟩ := ha.agg_open
  obtain _ | ⟨r0, hs⟩ := hs; obtain _ | ⟨r1, hs⟩ := hs; obtain _ | ⟨r2, hs⟩ := hs; obtain _ | ⟨r3, hs⟩ := hs; obtain _ | ⟨r4, hs⟩ := hs; obtain _ | ⟨r5, hs⟩ := hs
  obtain _ | ⟨r6, hs⟩ := hs; obtain _ | ⟨r7, hs⟩ := hs; obtain _ | ⟨r8, hs⟩ := hs; obtain _ | ⟨r9, hs⟩ := hs; obtain _ | ⟨r10, hs⟩ := hs; obtain _ | ⟨r11, hs⟩ := hs; obtain _ | _ := hs
  obtain rfl := r0.int_open
  obtain rfl := r1.int_open
  obtain rfl := r9.int_open
  obtain rfl := r10.int_open
  obtain ⟨a2, c2, rfl⟩ := lenS_open h2 r2
  obtain ⟨a3, c3, rfl⟩ := lenS_open h3 r3
  obtain ⟨a4, c4, rfl⟩ := lenS_open h4 r4
  obtain ⟨a5, c5, rfl⟩ := lenS_open h5 r5
  obtain ⟨a6, c6, rfl⟩ := lenS_open h6 r6
  obtain ⟨a7, c7, rfl⟩ := lenS_open h7 r7
  obtain ⟨a8, c8, rfl⟩ := lenS_open h8 r8
  obtain ⟨a11, c11, rfl⟩ := lenS_open h11 r11
  refine (used_calls op table frm count a2 a3 a4 a5 a6 a7 a8 a11 l2 l3 l4 l5 l6 l7 l8 l11 c2 c3 c4 c5 c6 c7 c8 c11 w).mono ?_
  rintro e w' ⟨rfl, hB⟩
  have h2 := hst.below hB
  exact ⟨_, β, ok, rfl, ⟨.cons (.closed (.int _ _)) .nil, h2.regs, h2.dist, h2.extlt, h2.n0le, rfl, h2.glob⟩, fun t g hk => .inl hk, fun t g hk => ⟨hk, rfl⟩, .of_below hB hst.n0le⟩
/-- The names of the document's example. -/
def namesT : List (FuncId × ByteArray × AV) := [(169, ⟨#[116]⟩, .bool true), (169, ⟨#[97]⟩, .bool true), (169, ⟨#[98]⟩, .bool true)]
theorem name_t : isNameC ⟨#[116]⟩ = true := by kernel_rfl
theorem name_a : isNameC ⟨#[97]⟩ = true := by kernel_rfl
theorem name_b : isNameC ⟨#[98]⟩ = true := by kernel_rfl
def knownJ : CallG := fun f γ ls args σ c => match knownS namesT f γ ls args σ c with | some x => some x | none => knownU f γ ls args σ c
theorem knownJ_sound : ∀ f γ ls args σ c r σ' κ, knownJ f γ ls args σ c = some (r, σ', κ) → GCalls Tryz.prog f γ κ args σ r σ' := by
  intro f γ ls args σ c r σ' κ hk
  unfold knownJ at hk
  split at hk
  · rename_i x hx
    cases hk
    refine knownS_sound (tab := namesT) ?_ _ _ _ _ _ _ _ _ _ hx
    intro p hp
    simp only [namesT, List.mem_cons, List.not_mem_nil, or_false] at hp
    rcases hp with rfl | rfl | rfl
    · have := lex_IsName ⟨#[116]⟩ (by decide); rwa [name_t] at this
    · have := lex_IsName ⟨#[97]⟩ (by decide); rwa [name_a] at this
    · have := lex_IsName ⟨#[98]⟩ (by decide); rwa [name_b] at this
  · exact knownU_sound _ _ _ _ _ _ _ _ _ hk
end Go.Proofs
end
