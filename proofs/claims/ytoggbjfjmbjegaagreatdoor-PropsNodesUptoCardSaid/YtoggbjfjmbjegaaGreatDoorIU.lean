/- The iterator of strings.FieldsSeq over ASCII text. Names: lex.class, lex.IsName. algebra.used. What the evaluator knows beforehand: names, algebra.used. -/
import Derived.RangeFuncNested
import Derived.RangeFuncCalls
import Derived.RangeFuncLeaves
import Derived.Shelf.Abstract
import Derived.WalkKit
import Derived.OwnWalkIn
import Derived.TacticsInMore
import Derived.LoopNIn
import Derived.LoopIn
import Derived.Test.YtoggbjfjmbjegaaGreatDoorAb19
import Derived.Test.YtoggbjfjmbjegaaGreatDoorProg
import Derived.Test.YtoggbjfjmbjegaaGreatDoorShf
import Derived.Test.YtoggbjfjmbjegaaGreatDoorT0
import Derived.Maps.RangeRun
import Derived.Test.YtoggbjfjmbjegaaGreatDoorAb26
set_option linter.unusedSimpArgs false
set_option linter.unusedVariables false
section
section
namespace Go.Proofs
open Go.RowKit Go.Shelf
attribute [local go_sem] Oper.semAt_some
def blankI (j : Nat) : Int := if j = 9 ∨ j = 10 ∨ j = 11 ∨ j = 12 ∨ j = 13 ∨ j = 32 then 1 else 0
def byteN (s : ByteArray) (i : Nat) : Nat := if h : i < s.size then (s[i]'h).toNat else 0
def fldGo (s : ByteArray) : Nat → Nat → Int → List ByteArray
  | 0, i, start => if 0 ≤ start then [s.extract start.toNat i] else []
  | n + 1, i, start => if blankI (byteN s i) ≠ 0 then (if 0 ≤ start then s.extract start.toNat i :: fldGo s n (i + 1) (-1) else fldGo s n (i + 1) (-1)) else fldGo s n (i + 1) (if start < 0 then i else start)
theorem fldGo_neg (s : ByteArray) : ∀ (n i : Nat) (a b : Int), a < 0 → b < 0 → fldGo s n i a = fldGo s n i b
  | 0, i, a, b, ha, hb => by rw [fldGo, fldGo, if_neg (by omega), if_neg (by omega)]
  | n + 1, i, a, b, ha, hb => by
    rw [fldGo, fldGo, if_neg (show ¬ 0 ≤ a by omega), if_neg (show ¬ 0 ≤ b by omega), if_pos ha, if_pos hb]
set_option maxRecDepth 100000 in
set_option maxHeartbeats 2000000 in
theorem fieldsSeq1_in (F : Fence) (n : Nat) (hf : F.fn 337) (hro : F.round = none) (hn : 1 ≤ n) (l Bs n₀ : Nat) (s : ByteArray) (hs : s.size ≤ 1000000) (hasc : ∀ i, i < s.size → byteN s i < 128) (hb : Bs < n₀) (h2 : 1 < n₀) (J Jx : List ByteArray → World → Prop)
    (hY : ∀ pre x W, J pre W → pre.length < s.size + 1 → YieldAt F (n - 1) Tryz.prog l #[.string x] W fun e W' =>
      (e = .returned (.bool true) ∧ J (pre ++ [x]) W' ∧ Below n₀ W W') ∨ (e = .returned (.bool false) ∧ Jx (pre ++ [x]) W'))
    (W : World) (hBs : W.cell? ⟨Bs, 0, none⟩ = some (.string s)) (hG : ∀ j, j < 256 → W.cell? ⟨1, j, none⟩ = some (.int .u8 (blankI j))) (h0 : J [] W) :
    CallsIn F n Tryz.prog 337 #[.func (.yield l) #[] #[], .pointer (some ⟨Bs, 0, none⟩)] W fun e W' => (∃ v, e = .returned v) ∧
      ((∃ ys, ys = fldGo s s.size 0 (-1) ∧ J ys W') ∨ (∃ pre, pre <+: fldGo s s.size 0 (-1) ∧ Jx pre W')) := by
  refine callsIn_of_wp Tryz.func337 rfl hf ?_ hro
  simp only [Tryz.ntmps337, List.size_toArray, List.length_cons, List.length_nil, Nat.reduceAdd, Nat.reduceSub, Array.replicate_succ, Array.replicate_zero, List.push_toArray, List.append_toArray, List.nil_append, List.cons_append]
  gi_wp2
  gi_loopw [3, 4] (fun st i wr => ∃ (k : Nat) (start : Int) (pre : List ByteArray), k ≤ s.size ∧ start < k ∧ i = .int .i64 k ∧ st = .int .i64 start ∧ pre.length ≤ k ∧ pre ++ fldGo s (s.size - k) k start = fldGo s s.size 0 (-1) ∧ J pre wr ∧ Below n₀ W wr)
    (fun _ i _ => s.size - (intOf i).toNat)
  case atStart => exact ⟨0, -1, [], by omega, by omega, rfl, rfl, by simp, by simp, h0, Below.refl _ _⟩
  case round =>
    obtain ⟨k, start, pre, hk, hst, rfl, rfl, hpl, hpre, hJs, hnx⟩ := hrel
    have hc := (hnx.cell (p := ⟨Bs, 0, none⟩) hb).trans hBs
    by_cases hlt : k < s.size
    · have hbk : byteN s k = (s[k]'hlt).toNat := by unfold byteN; rw [dif_pos hlt]
      have ha := hasc k hlt
      rw [hbk] at ha
      have hw : wrap32 (((s[k]'hlt).toNat : Nat) : Int) = (((s[k]'hlt).toNat : Nat) : Int) := by
        unfold wrap32
        omega
      have hg : wr.cell? ⟨1, (s[k]'hlt).toNat, none⟩ = some (.int .u8 (blankI (s[k]'hlt).toNat)) := (hnx.cell (p := ⟨1, (s[k]'hlt).toNat, none⟩) h2).trans (hG _ (by omega))
      have hstep : fldGo s (s.size - k) k start = if blankI (s[k]'hlt).toNat ≠ 0 then (if 0 ≤ start then s.extract start.toNat k :: fldGo s (s.size - (k + 1)) (k + 1) (-1) else fldGo s (s.size - (k + 1)) (k + 1) (-1)) else fldGo s (s.size - (k + 1)) (k + 1) (if start < 0 then k else start) := by
        rw [show s.size - k = (s.size - (k + 1)) + 1 by omega, fldGo, hbk]
      rw [hstep] at hpre
      clear hstep
      by_cases hsn : 0 ≤ start
      · obtain ⟨st, rfl⟩ := Int.eq_ofNat_of_zero_le hsn
        have hst' : st ≤ k := by omega
        simp only [Int.toNat_natCast, hsn, if_true] at hpre
        rw [if_neg (show ¬ ((st : Int) < 0) by omega)] at hpre
        by_cases hbl : blankI (s[k]'hlt).toNat = 0
        · rw [if_neg (by simpa using hbl)] at hpre
          gi_wp2
          go_roundw
          case rel => exact ⟨k + 1, st, pre, by omega, by omega, by simp, rfl, by omega, hpre, hJs, hnx⟩
          case measure => simp [intOf]; omega
        · rw [if_pos hbl] at hpre
          obtain ⟨fn, tmps, assign, body, hy, hR⟩ := hY pre (s.extract st k) wr hJs (by omega)
          gi_wp2
          refine hR.mono ?_
          rintro e W3 (⟨rfl, hJ3, hk3⟩ | ⟨rfl, hJx3⟩)
          · gi_wp2
            go_roundw
            case rel => exact ⟨k + 1, -1, pre ++ [s.extract st k], by omega, by omega, by simp, rfl, by simp; omega, by rw [List.append_assoc]; exact hpre, hJ3, hnx.trans hk3⟩
            case measure => simp [intOf]; omega
          · gi_wp2
            refine bodyPost_ret (results_none rfl _ _ _) rfl ?_
            exact ⟨⟨_, rfl⟩, .inr ⟨_, ⟨_, by rw [List.append_assoc]; exact hpre⟩, hJx3⟩⟩
      · rw [if_neg hsn] at hpre
        rw [if_pos (show start < 0 by omega)] at hpre
        by_cases hbl : blankI (s[k]'hlt).toNat = 0
        · rw [if_neg (by simpa using hbl)] at hpre
          gi_wp2
          go_roundw
          case rel => exact ⟨k + 1, k, pre, by omega, by omega, by simp, rfl, by omega, hpre, hJs, hnx⟩
          case measure => simp [intOf]; omega
        · rw [if_pos hbl] at hpre
          gi_wp2
          go_roundw
          case rel => exact ⟨k + 1, start, pre, by omega, by omega, by simp, rfl, by omega, by rw [← hpre]; congr 1; exact fldGo_neg s _ _ _ _ (by omega) (by omega), hJs, hnx⟩
          case measure => simp [intOf]; omega
    · obtain rfl : k = s.size := by omega
      rw [Nat.sub_self, fldGo] at hpre
      by_cases hsn : 0 ≤ start
      · obtain ⟨st, rfl⟩ := Int.eq_ofNat_of_zero_le hsn
        have hst' : st ≤ s.size := by omega
        simp only [Int.toNat_natCast, hsn, if_true] at hpre
        obtain ⟨fn, tmps, assign, body, hy, hR⟩ := hY pre (s.extract st s.size) wr hJs (by omega)
        gi_wp2
        refine hR.mono ?_
        rintro e W3 (⟨rfl, hJ3, hk3⟩ | ⟨rfl, hJx3⟩)
        · gi_wp2
          go_end0
          exact ⟨⟨_, rfl⟩, .inl ⟨_, rfl, by rw [← hpre]; exact hJ3⟩⟩
        · gi_wp2
          go_end0
          exact ⟨⟨_, rfl⟩, .inr ⟨_, by rw [hpre]; exact List.prefix_rfl, hJx3⟩⟩
      · rw [if_neg hsn, List.append_nil] at hpre
        gi_wp2
        go_end0
        exact ⟨⟨_, rfl⟩, .inl (by rw [← hpre]; exact hJs)⟩

theorem fieldsSeq_in (F : Fence) (n : Nat) (hf : F.fn 291) (hro : F.round = none) (s : ByteArray) (w : World) :
    CallsIn F n Tryz.prog 291 #[.string s] w fun e w' => e = .returned (.func (.func 337) #[] #[.pointer (some ⟨w.heap.size, 0, none⟩)]) ∧ w' = w.alloc (.cells #[.string s] 9) := by
  refine callsIn_of_wp Tryz.func291 rfl hf ?_ hro
  simp only [Tryz.ntmps291, List.size_toArray, List.length_cons, List.length_nil, Nat.reduceAdd, Nat.reduceSub, Array.replicate_succ, Array.replicate_zero, List.push_toArray, List.append_toArray, List.nil_append, List.cons_append]
  gi_wp2
  go_ret
  exact ⟨rfl, rfl⟩
theorem fieldsSeq_stops (F : Fence) (n : Nat) (hf : F.fn 337) (hro : F.round = none) (hn : 1 ≤ n) (Bs n₀ : Nat) (s : ByteArray) (hs : s.size ≤ 1000000) (hasc : ∀ i, i < s.size → byteN s i < 128) (w : World) (hBs : Bs < n₀) (hn₀ : n₀ ≤ w.heap.size) (h2 : 1 < n₀)
    (hc : w.cell? ⟨Bs, 0, none⟩ = some (.string s)) (hG : ∀ j, j < 256 → w.cell? ⟨1, j, none⟩ = some (.int .u8 (blankI j))) :
    SeqStopsK F n Tryz.prog 337 #[.pointer (some ⟨Bs, 0, none⟩)] (fun x : ByteArray => #[Value.string x]) (Below n₀) (fun ys => ys = fldGo s s.size 0 (-1)) (fun pre => pre <+: fldGo s s.size 0 (-1)) (s.size + 1) w := fun l J Jx W hW _ _ hY h0 =>
  fieldsSeq1_in F n hf hro hn l Bs n₀ s hs hasc hBs h2 J Jx hY W ((hW.cell (p := ⟨Bs, 0, none⟩) (show Bs < _ by omega)).trans hc) (fun j hj => (hW.cell (p := ⟨1, j, none⟩) (show 1 < _ by omega)).trans (hG j hj)) h0
def strArg : Op → List ByteArray
  | .call c => c.args.toList.filterMap fun x => match x with | .const (.string s) => some s | _ => none
  | _ => []
def strArgs : Code → List ByteArray
  | .region _ ops _ => ops.toList.flatMap fun o => strArg o.op
  | .seq a b | .cond _ a b => strArgs a ++ strArgs b
  | .block _ a | .loop a => strArgs a
  | _ => []
noncomputable def kwd : ByteArray := match Tryz.f235.body with | some c => (strArgs c).headD ⟨#[]⟩ | none => ⟨#[]⟩
noncomputable def kwL : List ByteArray := fldGo kwd kwd.size 0 (-1)
theorem kw_not {s : ByteArray} (h : s ∉ kwL) : (kwL.any fun x => decide (x = s)) = false := by
  rw [List.any_eq_false]
  intro x hx
  simp only [decide_eq_true_eq]
  rintro rfl
  exact h hx
theorem kw_mem {s : ByteArray} (h : s ∈ kwL) : (kwL.any fun x => decide (x = s)) = true := List.any_eq_true.2 ⟨s, h, by simp⟩
theorem kwd_size : decide (kwd.size ≤ 1000000) = true := by kernel_rfl
theorem kwd_asc : ((List.range kwd.size).all fun i => decide (byteN kwd i < 128)) = true := by kernel_rfl
set_option maxRecDepth 100000 in
set_option maxHeartbeats 2000000 in
theorem isKeyword_in (F : Fence) (n : Nat) (h3 : F.fn 235) (h5 : F.fn 291) (h7 : F.fn 337) (hro : F.round = none) (hn : 3 ≤ n) (s : ByteArray) (w : World) (h2 : 1 < w.heap.size) (hG : ∀ j, j < 256 → w.cell? ⟨1, j, none⟩ = some (.int .u8 (blankI j))) :
    CallsIn F n Tryz.prog 235 #[.string s] w fun e W' => e = .returned (.bool (kwL.any fun x => decide (x = s))) ∧ Below w.heap.size w W' := by
  have h1 : 1 ≤ n := by omega
  refine callsIn_of_wp_marks Tryz.func235 rfl h3 ?_ hro
  simp only [Tryz.ntmps235, List.size_toArray, List.length_cons, List.length_nil, Nat.reduceAdd, Nat.reduceSub, Array.replicate_succ, Array.replicate_zero, List.push_toArray, List.append_toArray, List.nil_append, List.cons_append]
  gi_wp2_with (gi_at_call 291; refine (fieldsSeq_in F (n - 1) h5 hro kwd _).mono ?_; rintro e w' ⟨rfl, rfl⟩)
  have bS := Boxed.new w 9 (.string s)
  have bR := Boxed.new (w.alloc (.cells #[.string s] 9)) 4 (.bool false)
  have bN := Boxed.new ((w.alloc (.cells #[.string s] 9)).alloc (.cells #[.bool false] 4)) 9 (.string kwd)
  rw [World.size_alloc] at bR
  rw [World.size_alloc, World.size_alloc] at bN
  have hB0 : Below w.heap.size w (((w.alloc (.cells #[.string s] 9)).alloc (.cells #[.bool false] 4)).alloc (.cells #[.string kwd] 9)) := (((Below.refl _ w).alloc (Nat.le_refl _) _).alloc (by simp) _).alloc (by simp; omega) _
  refine wpIn_rangeFunc_ownG hro h1 (gf := 337) (lb := #[.pointer (some ⟨w.heap.size + 2, 0, none⟩)]) rfl h7 (enters_of Tryz.func337 (by kernel_rfl) rfl)
    (fieldsSeq_stops F (n - 1) h7 hro (by omega) (w.heap.size + 2) (w.heap.size + 3) kwd (of_decide_eq_true kwd_size) (fun i hi => of_decide_eq_true (List.all_eq_true.1 kwd_asc i (List.mem_range.2 hi))) _ (by omega) (by simp) (by omega) bN.cell (fun j hj => (hB0.cell (p := ⟨1, j, none⟩) (show 1 < _ by omega)).trans (hG j hj))) belowK_t (belowK_b (by simp)) (Below.refl _ _) (fun _ => rfl)
    (fun pre W => ((s ∉ pre) ∧ W.cell? ⟨w.heap.size, 0, none⟩ = some (.string s) ∧ W.cell? ⟨w.heap.size + 1, 0, none⟩ = some (.bool false) ∧ W.frozen? ⟨w.heap.size + 1, 0, none⟩ = false) ∧ Below w.heap.size w W)
    (fun c pre W => (c = .ret ∧ s ∈ pre ∧ W.cell? ⟨w.heap.size + 1, 0, none⟩ = some (.bool true)) ∧ Below w.heap.size w W)
    (OwnFrom.and (Own.from (fun s A B row hs hg hr => ⟨hs.1, cell_kept hs.2.1 hg hr, cell_kept hs.2.2.1 hg hr, (frozen_kept hs.2.2.1 hg hr).trans hs.2.2.2⟩) _) (ownFrom_below (Nat.le_refl _) (by simp; omega)))
    (fun c => OwnFrom.and (Own.from (fun s A B row hs hg hr => ⟨hs.1, hs.2.1, cell_kept hs.2.2 hg hr⟩) _) (ownFrom_below (Nat.le_refl _) (by simp; omega)))
    ⟨⟨by simp, ((bS.alloc _).alloc _).cell, (bR.alloc _).cell, (bR.alloc _).frozen⟩, hB0⟩
    (fun x => { tmps := #[.string s, .pointer (some ⟨w.heap.size, 0, none⟩), .pointer (some ⟨w.heap.size + 1, 0, none⟩), .string x, .func (.func 337) #[] #[.pointer (some ⟨w.heap.size + 2, 0, none⟩)], .string x, undef, undef, undef], defers := [] }) ?assign ?body ?done ?stop
  case assign =>
    intro l x W K hK
    gi_wp2
    exact hK
  case body =>
    rintro l pre x W ⟨⟨hp, hcs, hcr, hfr⟩, hB⟩ _
    by_cases hx : x = s
    · subst hx
      gi_wp2
      exact ⟨(KeepsOthers.setCell _ _ _).from _, ⟨rfl, by simp, World.cell?_setCell_same' _ _ _ (by rw [hcr]; rfl)⟩, hB.setCell (p := ⟨w.heap.size + 1, 0, none⟩) (by simp) _⟩
    · have hxe : (x.toList == s.toList) = false := by rw [Go.Ab.str_eq, decide_eq_false hx]
      gi_wp2
      exact ⟨KeepsFrom.refl _ _, Below.refl _ _, ⟨by simp only [List.mem_append, List.mem_singleton, not_or]; exact ⟨hp, fun e => hx e.symm⟩, hcs, hcr, hfr⟩, hB⟩
  case done =>
    rintro D ys W hD rfl ⟨⟨hne, hcs, hcr, hfr⟩, hB⟩ hK
    gi_wp2
    have hK' := (KeepsOthers.setCell W ⟨w.heap.size + 1, 0, none⟩ (.bool false)).same D _ hK rfl
    refine ⟨by simp, .inl ⟨_, _, rfl, run_takeDeferred hK', ?_⟩⟩
    have hc5 := cell_kept (World.cell?_setCell_same' W ⟨w.heap.size + 1, 0, none⟩ (.bool false) (by rw [hcr]; rfl)) (grownBy_putObj' _ D (.deferred none)) (fun r e => by cases e; exact ⟨_, hK', rfl⟩)
    refine ⟨.bool false, ?_, congrArg (fun b => Ending.returned (Value.bool b)) (kw_not hne).symm, (hB.setCell (p := ⟨w.heap.size + 1, 0, none⟩) (by simp) _).trans (belowK_b (w := w) (Nat.le_refl _) _ D _ _ (by simp at hD; omega) hK' rfl rfl)⟩
    simp [results, Tryz.f235, go_sem, hc5]
  case stop =>
    rintro D c pre W hD hpre ⟨⟨rfl, hmem, hcr⟩, hB⟩ hK
    gi_wp2
    refine ⟨by simp, .inl ⟨_, _, rfl, run_takeDeferred hK, ?_⟩⟩
    have hc5 := cell_kept hcr (grownBy_putObj' _ D (.deferred none)) (fun r e => by cases e; exact ⟨_, hK, rfl⟩)
    refine ⟨.bool true, ?_, congrArg (fun b => Ending.returned (Value.bool b)) (kw_mem (hpre.subset hmem)).symm, hB.trans (belowK_b (w := w) (Nat.le_refl _) W D _ _ (by simp at hD; omega) hK rfl rfl)⟩
    simp [results, Tryz.f235, go_sem, hc5]
open Go.Ab in
theorem lex_IsKeyword (hg : gtab.lookup 1 = some asciiA) (s : ByteArray) : ACalls Tryz.prog 235 [.str s] (.bool (kwL.any fun x => decide (x = s))) := by
  refine ⟨by kernel_rfl, fun w own vs hown hglob hargs => ?_⟩
  obtain _ | ⟨h1, h2⟩ := hargs
  obtain _ | _ := h2
  cases h1
  have hG := hglob 1 asciiA hg
  obtain _ | _ | _ | _ | _ | _ | _ | @⟨_, _, vs, hr, hat⟩ := hG
  have hcell : ∀ j, j < 256 → ¬ own 1 ∧ w.cell? ⟨1, j, none⟩ = some (.int .u8 (blankI j)) := by
    intro j hj
    have hx : asciiA[j]? = some (.int .u8 (blankI j)) := by
      unfold asciiA
      rw [List.getElem?_map, List.getElem?_range hj]
      rfl
    obtain ⟨hl, he⟩ := List.getElem?_eq_some_iff.1 hx
    obtain ⟨v, hv, hr2⟩ := hr.get j hl
    rw [he] at hr2
    cases hr2
    have := hat.2 j _ hv
    simpa using this
  have h2 : 1 < w.heap.size := cell?_lt (hcell 0 (by omega)).2
  refine (callsIn_wide (n := 6)).1 ((isKeyword_in Fence.wide 6 trivial trivial trivial rfl (by omega) s w h2 (fun j hj => (hcell j hj).2)).mono ?_)
  rintro e W' ⟨rfl, hB⟩
  exact ⟨_, rfl, .bool _, hB⟩
#print axioms lex_IsKeyword
end Go.Proofs
end

section
namespace Go.Proofs.YtoggbjfjmbjegaaGreatDoor
open Go Go.Ab
def clsB (c : Int) : Bool := decide (c = 2) || decide (c = 3)
def upS (s : ByteArray) : ByteArray := ⟨(Lib.toUpperA s.data.toList).toArray⟩
def lowS (s : ByteArray) : ByteArray := ⟨(Lib.toLowerA s.data.toList).toArray⟩
def asciiB (s : ByteArray) : Prop := ∀ (j : Nat) (b : UInt8), s.data.toList[j]? = some b → b.toNat < 128
theorem str_ToUpper (s : ByteArray) (hs : s.size ≤ 20) (ha : asciiB s) : ACalls Tryz.prog 236 [.str s] (.str (upS s)) := by
  refine ⟨by kernel_rfl, fun w own vs hown hglob hargs => ?_⟩
  obtain _ | ⟨h1, h2⟩ := hargs
  obtain _ | _ := h2
  cases h1
  refine (Tryz.strings_ToUpper_ascii s w (by omega) ha).mono ?_
  rintro e W' ⟨rfl, hB⟩
  exact ⟨_, rfl, .str _, hB⟩
theorem str_ToLower (s : ByteArray) (hs : s.size ≤ 20) (ha : asciiB s) : ACalls Tryz.prog 234 [.str s] (.str (lowS s)) := by
  refine ⟨by kernel_rfl, fun w own vs hown hglob hargs => ?_⟩
  obtain _ | ⟨h1, h2⟩ := hargs
  obtain _ | _ := h2
  cases h1
  refine (Tryz.strings_ToLower_ascii s w (by omega) ha).mono ?_
  rintro e W' ⟨rfl, hB⟩
  exact ⟨_, rfl, .str _, hB⟩
attribute [local go_sem ↓] parts_tt parts_ff parts_tf parts_ft reduceIte
attribute [local go_sem] reduceCtorEq Nat.reduceAdd Nat.reduceSub Nat.reduceLeDiff Nat.reduceEqDiff Nat.reduceMul Nat.reduceLT Nat.reducePow Int.reduceEq Int.reduceLT Int.reduceLE Int.reduceGT Int.reduceGE Int.reduceAdd Int.reduceSub Int.reduceNeg Int.reduceToNat parts_eq learnT aops_nil aops_cons aopsD_nil aopsD_cons stepS stepD gval St.learn skipR St.after putτ applyUpd List.foldl_cons List.foldl_nil pureOp memOp callOf litA closeO closeK List.flatMap_cons List.flatMap_nil Option.map_none decide_false opnd ofConst leaf binA unA lenA indexA indexAddrA fieldAddrA fieldA weak_slice weak_nils weak_str weak_view weak_viewF weak_sliceF weak_ptr weak_cptr weak_rptr weak_sl weak_sl0 weak_any sliceFA_slice sliceFA_str sliceFA_view sliceFA_none sliceFA_some sameO sliceA convertA pickV fillA placeS cellsA setA partA loadM storeM appendM srcEls lookBox lookRow lookMap closeL closeV scalarB scalarL killed buildEls lookupA leafEq eqAll resA resL tupA retA thenA blockA isInt loA hiA foldA maxA minA okSize leafB closedB Res.foot List.getD_cons_zero List.getD_cons_succ List.set_cons_zero List.set_cons_succ List.map_cons List.map_nil List.append_nil List.nil_append List.cons_append List.length_cons List.length_nil List.take_succ_cons List.take_zero List.drop_succ_cons List.drop_zero List.take_nil List.drop_nil List.all_cons List.all_nil List.getElem?_toArray List.getElem?_cons_zero List.getElem?_cons_succ Option.bind_some Option.map_some true_and and_true true_implies ne_eq not_true_eq_false not_false_eq_true Bool.true_eq_false Bool.false_eq_true Bool.not_true Bool.not_false decide_eq_true_eq decide_eq_false_iff_not false_implies implies_true and_self ite_true ite_false cond_true cond_false Option.some.injEq List.reverse_cons List.reverse_nil Bool.and_self Bool.true_and Bool.and_true Bool.false_and Bool.and_false Bool.or_true Bool.true_or Bool.or_false Bool.false_or Bool.not_eq_eq_eq_not Bool.not_not Bool.or_self beq_self_eq_true and_false false_and or_true true_or or_false false_or not_true not_false_iff Decidable.not_not lookT lookR tabT tabR Int.toNat_natCast List.length_map List.map_append List.length_append decide_true decide_false tmod2 List.mem_singleton forall_eq elOk1 elOk3 elOk4 castn0 castn1 castn2 castn3 getD_mid getD_mid_map at_lt at_end mid_lt mid_lt' nat_ge List.size_toArray Array.size_empty Nat.add_zero Nat.zero_add
attribute [local irreducible] ASpec ACalls retA ti EqT
set_option linter.unusedSimpArgs false
set_option maxHeartbeats 4000000
set_option maxRecDepth 100000
set_option linter.unusedVariables false
attribute [local go_sem] ti2 ti3 ti4 ti5 ti9 ti21 ti22 ti24 ti26 ti27 ti28 ti30 ti34 ti52 ti68 ti69 ti73 ti78 ti86 ti89 ti99 ti122 ti123 ti124 ti144 ti173 ti174 ti190 ti191 ti199 ti288
def low5 (b : Int) : Int := bitA .or .u8 b 32
def classC (b : Int) : Int :=
  if b = 32 ∨ b = 9 ∨ b = 10 ∨ b = 13 then 1 else if b = 95 then 2 else if b = 39 then 4 else if 97 ≤ low5 b ∧ low5 b ≤ 122 then 2 else if 48 ≤ b ∧ b ≤ 57 then 3 else 0
theorem lex_class (b : Int) : ACalls Tryz.prog 233 [.int .u8 b] (.int .i64 (classC b)) := by
  have hc : classC b = if b = 32 ∨ b = 9 ∨ b = 10 ∨ b = 13 then 1 else if b = 95 then 2 else if b = 39 then 4 else if 97 ≤ bitA .or .u8 b 32 ∧ bitA .or .u8 b 32 ≤ 122 then 2 else if 48 ≤ b ∧ b ≤ 57 then 3 else 0 := rfl
  rw [hc]
  clear hc
  generalize hz : bitA .or .u8 b 32 = z
  refine acalls_k Tryz.func233 rfl (by kernel_rfl) (congrArg Array.toList Tryz.results233) Tryz.ntmps233 ?_
  intro R hR
  simp only [st0, List.length_cons, List.length_nil, Nat.reduceAdd, Nat.reduceSub, List.replicate_succ, List.replicate_zero, List.cons_append, List.nil_append]
  repeat' (first | (with_reducible refine a_seq_k ?_; intro K hK) | (with_reducible first | refine a_block ?_ | refine a_ret ?_ | refine a_exit ?_ | refine a_skip ?_ | exact ConfOk.mk (by kernel_rfl)) | ((fail_if_success with_reducible show False); with_reducible apply_assumption (exfalso := false) (symm := false) only [*, rfl, trivial, congrArg]) | with_reducible refine And.intro ?_ ?_ | (intro h; contradiction) | (intro h; subst h) | intro h | ((try (with_reducible first | refine a_region (by kernel_rfl) ?_ | (refine a_draw mixed (by kernel_rfl) ?_; intro C hC) | (refine a_cond_k ?_; intro X Y hX hY) | refine RetOk.mk ?_)); simp (maxSteps := 10000000) (implicitDefEqProofs := false) only [go_sem, hz]))
  all_goals first
    | (rw [if_pos (by omega)]; done)
    | (rw [if_neg (by omega), if_pos (by omega)]; done)
    | (rw [if_neg (by omega), if_neg (by omega), if_pos (by omega)]; done)
    | (rw [if_neg (by omega), if_neg (by omega), if_neg (by omega), if_pos (by omega)]; done)
    | (rw [if_neg (by omega), if_neg (by omega), if_neg (by omega), if_neg (by omega), if_pos (by omega)]; done)
    | (rw [if_neg (by omega), if_neg (by omega), if_neg (by omega), if_neg (by omega), if_neg (by omega)]; done)
theorem cls_ascii : ∀ b : Fin 256, clsB (classC (b.val : Int)) = true → b.val < 128 := by decide +kernel
def namedB (s : ByteArray) : Bool := decide (s ≠ ⟨#[]⟩) && decide (s.size ≤ 20) && decide (classC (bt s 0) = 2) && (List.range s.size).all fun i => clsB (classC (bt s (i : Int)))
noncomputable def isNameC (s : ByteArray) : Bool := namedB s && (decide (s = lowS s) && !(kwL.any fun x => decide (x = upS s)))
theorem named_ascii {s : ByteArray} (h : ((List.range s.size).all fun i => clsB (classC (bt s (i : Int)))) = true) : asciiB s := by
  intro j b hj
  have hl : j < s.size := by
    have := (List.getElem?_eq_some_iff.1 hj).1
    simpa using this
  have h2 := List.all_eq_true.1 h j (List.mem_range.2 hl)
  have hb : bt s (j : Int) = (b.toNat : Int) := by
    unfold bt
    rw [Int.toNat_natCast, List.getD_eq_getElem?_getD, hj]
    rfl
  rw [hb] at h2
  exact cls_ascii ⟨b.toNat, UInt8.toNat_lt b⟩ h2
theorem lex_IsName (s : ByteArray) (hs : s.size < 2 ^ 62) : ACalls Tryz.prog 138 [.str s] (.bool (isNameC s)) := by
  have kw := fun x => lex_IsKeyword rfl x
  refine acalls_k Tryz.func138 rfl (by kernel_rfl) (congrArg Array.toList Tryz.results138) Tryz.ntmps138 ?_
  intro R hR
  simp only [st0, List.length_cons, List.length_nil, Nat.reduceAdd, Nat.reduceSub, List.replicate_succ, List.replicate_zero, List.cons_append, List.nil_append]
  repeat' (first | (with_reducible refine a_seq_k ?_; intro K hK) | (with_reducible first | refine a_block ?_ | refine a_ret ?_ | refine a_exit ?_ | refine a_skip ?_ | exact ConfOk.mk (by kernel_rfl)) | ((fail_if_success with_reducible show False); with_reducible apply_assumption (exfalso := false) (symm := false) only [*, rfl, trivial, congrArg]) | with_reducible refine And.intro ?_ ?_ | (intro h; contradiction) | (intro h; subst h) | intro h | ((try (with_reducible first | refine a_region (by kernel_rfl) ?_ | (refine a_draw mixed (by kernel_rfl) ?_; intro C hC) | (refine a_cond_k ?_; intro X Y hX hY) | refine RetOk.mk ?_ | refine CallS.intro (lex_class _) ?_ | refine CallD.intro (lex_class _) ?_)); simp (maxSteps := 10000000) (implicitDefEqProofs := false) only [go_sem]))
  · have : s.size ≠ 0 := by
      intro h0
      have : s = ⟨#[]⟩ := by
        obtain ⟨⟨l⟩⟩ := s
        simp only [ByteArray.size, List.size_toArray, List.length_eq_zero_iff] at h0
        rw [h0]
      contradiction
    omega
  · simp [isNameC, namedB, *]
  · have he : s ≠ ⟨#[]⟩ := by assumption
    have hc0 : classC (bt s 0) = 2 := by assumption
    have h20' : s.size ≤ 20 := by omega
    refine a_loop_k (fun n st => (n ≤ s.size ∧ ∀ j, j < s.size - n → clsB (classC (bt s (j : Int))) = true) ∧ Has st 44 [(0, .str s), (19, .int .i64 s.size), (20, .int .i64 ((s.size - n : Nat) : Int))] []) s.size ⟨⟨Nat.le_refl _, by omega⟩, ⟨rfl, rfl, by simp, by simp⟩⟩ ?_
    rintro n st ⟨⟨h1, h2⟩, hh⟩ K hK'
    refine a_has hh fun τ σ γ => ?_
    rcases n with _ | n
    · rw [Nat.sub_zero] at h2 ⊢
      have hall : ((List.range s.size).all fun i => clsB (classC (bt s (i : Int)))) = true := List.all_eq_true.2 fun j hj => h2 j (List.mem_range.1 hj)
      have ha := named_ascii hall
      have hU := str_ToUpper s h20' ha
      have hL := str_ToLower s h20' ha
      have hN : isNameC s = (decide (s = lowS s) && !(kwL.any fun x => decide (x = upS s))) := by
        unfold isNameC namedB
        rw [hall, decide_eq_true he, decide_eq_true h20', decide_eq_true hc0]
        rfl
      repeat' (first | (with_reducible refine a_seq_k ?_; intro K hK) | (with_reducible first | refine a_block ?_ | refine a_ret ?_ | refine a_exit ?_ | refine a_skip ?_ | exact ConfOk.mk (by kernel_rfl)) | ((fail_if_success with_reducible show False); with_reducible apply_assumption (exfalso := false) (symm := false) only [*, rfl, trivial, congrArg]) | with_reducible refine And.intro ?_ ?_ | (intro h; contradiction) | (intro h; subst h) | intro h | ((try (with_reducible first | refine a_region (by kernel_rfl) ?_ | (refine a_draw mixed (by kernel_rfl) ?_; intro C hC) | (refine a_cond_k ?_; intro X Y hX hY) | refine RetOk.mk ?_ | refine CallS.intro (hU) ?_ | refine CallD.intro (hU) ?_ | refine CallS.intro (hL) ?_ | refine CallD.intro (hL) ?_ | refine CallS.intro (kw _) ?_ | refine CallD.intro (kw _) ?_)); simp (maxSteps := 10000000) (implicitDefEqProofs := false) only [go_sem]))
      all_goals (rw [hN])
      · rw [decide_eq_true (p := s = lowS s) (by assumption), Bool.true_and, Bool.not_not]
      · rw [decide_eq_false (p := s = lowS s) (by assumption)]; rfl
    · have hlt : s.size - (n + 1) < s.size := by omega
      have hw : IntKind.wrap .i64 (((s.size - (n + 1) : Nat) : Int) + 1) = ((s.size - n : Nat) : Int) := by
        rw [wrap_nat _ (by omega)]
        congr 1
        omega
      generalize hq : s.size - (n + 1) = q at *
      have hlt2 : ((q : Int) < (s.size : Int)) = True := by rw [eq_iff_iff, iff_true]; omega
      have fin : ∀ c : Int, classC (bt s (q : Int)) = c → clsB c = true → ∀ j, j < s.size - n → clsB (classC (bt s (j : Int))) = true := by
        intro c e1 e2 j hj
        by_cases hjq : j = q
        · subst hjq; rw [e1]; exact e2
        · exact h2 j (by omega)
      repeat' (first | (with_reducible refine a_seq_k ?_; intro K hK) | (with_reducible first | refine a_block ?_ | refine a_ret ?_ | refine a_exit ?_ | refine a_skip ?_ | exact ConfOk.mk (by kernel_rfl)) | ((fail_if_success with_reducible show False); with_reducible apply_assumption (exfalso := false) (symm := false) only [*, rfl, trivial, congrArg]) | with_reducible refine And.intro ?_ ?_ | (intro h; contradiction) | (intro h; subst h) | intro h | ((try (with_reducible first | refine a_region (by kernel_rfl) ?_ | (refine a_draw mixed (by kernel_rfl) ?_; intro C hC) | (refine a_cond_k ?_; intro X Y hX hY) | refine RetOk.mk ?_ | refine CallS.intro (lex_class _) ?_ | refine CallD.intro (lex_class _) ?_)); simp (maxSteps := 10000000) (implicitDefEqProofs := false) only [go_sem, hw, hlt2]))
      · have : ((List.range s.size).all fun i => clsB (classC (bt s (i : Int)))) = false := by
          rw [List.all_eq_false]
          exact ⟨q, List.mem_range.2 hlt, by simp [clsB, *]⟩
        simp only [isNameC, namedB, this, Bool.and_false, Bool.false_and]
      · exact ⟨⟨n, by omega, ⟨by omega, fin 3 (by assumption) rfl⟩, ⟨rfl, rfl, by simp, by simp⟩⟩⟩
      · exact ⟨⟨n, by omega, ⟨by omega, fin 2 (by assumption) rfl⟩, ⟨rfl, rfl, by simp, by simp⟩⟩⟩
  · simp [isNameC, namedB]; omega
end Go.Proofs.YtoggbjfjmbjegaaGreatDoor
end
end

section
section
namespace Go.Proofs
open Go.RowKit Go.Shelf
section
variable {P : Program}
theorem run_makeMap0 (t : TypeId) (W : World) : (Instr.makeMap t none).run P W = .ok (.map (some W.heap.size)) (W.alloc (.map #[] 0)) := rfl
def othersK (k : Int) : List MapEntry → Bool
  | [] => true
  | e :: r => (match e.key with | .int .u64 m => !decide (k = m) | _ => false) && othersK k r
theorem find_others {k : Int} : ∀ {es : List MapEntry} {i : Nat}, othersK k es = true → Instr.findNow (.int .u64) (.int .u64 k) es i = some none
  | [], _, _ => rfl
  | e :: r, i, h => by
    obtain ⟨key, val, born⟩ := e
    simp only [othersK, Bool.and_eq_true] at h
    obtain ⟨h1, h2⟩ := h
    split at h1
    · rename_i m
      simp only [Bool.not_eq_true', decide_eq_false_iff_not] at h1
      have hs : Instr.sameNow (.int .u64) (.int .u64 k) (.int .u64 m) = some false := by simp [Instr.sameNow, h1]
      simp only [Instr.findNow, hs]
      exact find_others h2
    · cases h1
end
def entU (k : Int) (v : Bool) (c : Nat) : MapEntry := { key := .int .u64 k, val := .bool v, born := c }
theorem othersK_nil (k : Int) : othersK k [] = true := by rw [othersK]
theorem othersK_cons (k m : Int) (v : Bool) (c : Nat) (es : List MapEntry) : othersK k (entU m v c :: es) = (!decide (k = m) && othersK k es) := by rw [othersK]; exact congrArg (· && othersK k es) rfl
theorem alloc2 (w : World) (o o' : Obj) : ((w.alloc o).alloc o').heap[w.heap.size + 1]? = some o' := by
  have := World.alloc_heap_new (w.alloc o) o'
  rwa [World.size_alloc] at this
theorem alloc3_mid (w : World) (o o' o'' : Obj) : (((w.alloc o).alloc o').alloc o'').heap[w.heap.size + 1]? = some o' := (Below.heap_alloc ((w.alloc o).alloc o') o'' _ (by simp)).trans (alloc2 w o o')
theorem alloc3_top (w : World) (o o' o'' : Obj) : (((w.alloc o).alloc o').alloc o'').heap[w.heap.size + 2]? = some o'' := by
  have := alloc2 (w.alloc o) o' o''
  rwa [World.size_alloc] at this
theorem run_ins (w : World) (o : Obj) (es : List MapEntry) (c : Nat) (k : Int) (v : Bool) (hk : othersK k es = true) :
    (Instr.mapUpdate 253 (.map (some (w.heap.size + 1))) (.int .u64 k) (.bool v)).run Tryz.prog ((w.alloc o).alloc (.map es.toArray c)) =
      .ok () ((w.alloc o).alloc (.map (es ++ [entU k v c]).toArray (c + 1))) := by
  have hh := alloc2 w o (.map es.toArray c)
  have hu : Tryz.prog.underlying 253 = some (.map 176 4) := by kernel_rfl
  have hf : Tryz.prog.underlying 176 = some (.int .u64) := by kernel_rfl
  have hfi := find_others (i := 0) hk
  simp only [Instr.mapUpdate, Sem.run_bind, run_underlying hu, Result.andThen_ok, Go.Ab.run_getObj hh, Go.Ab.checkKey_int hf, Instr.findKey, run_underlying hf, hfi, Sem.run_pure, Go.Ab.run_setObj hh]
  refine congrArg (Result.ok ()) ?_
  unfold World.alloc
  simp only [World.mk.injEq, and_true]
  apply Array.ext_getElem?
  intro i
  rw [Array.getElem?_setIfInBounds]
  simp only [Array.getElem?_push, Array.size_push, List.push_toArray, entU]
  by_cases h1 : i = w.heap.size + 1
  · simp [h1]
  · simp [h1, Ne.symm h1]
theorem run_rng (w : World) (o : Obj) (es : Array MapEntry) (c : Nat) :
    (Instr.range 253 (.map (some (w.heap.size + 1)))).run Tryz.prog ((w.alloc o).alloc (.map es c)) =
      .ok (.pointer (some ⟨w.heap.size + 2, 0, none⟩)) (((w.alloc o).alloc (.map es c)).alloc (.mapIter (some (w.heap.size + 1)) c #[] c)) := by
  have hh := alloc2 w o (.map es c)
  have hu : Tryz.prog.underlying 253 = some (.map 176 4) := by kernel_rfl
  simp only [Instr.range, Sem.run_bind, run_underlying hu, Result.andThen_ok, Go.Ab.run_getObj hh, Sem.run_pure, run_newObj_alloc, World.size_alloc]
attribute [local go_sem] run_makeMap0 run_ins run_rng othersK_nil othersK_cons
def entsU (b : Nat → Bool) : List MapEntry := [entU 1 (b 0) 0, entU 2 (b 1) 1, entU 4 (b 2) 2, entU 8 (b 3) 3, entU 16 (b 4) 4, entU 32 (b 5) 5, entU 64 (b 6) 6]
def accU (b : Nat → Bool) (seen : List Nat) : Nat := seen.foldl (fun a i => if b i = true then a ||| 2 ^ i else a) 0
theorem entsU_mem {b : Nat → Bool} {e : MapEntry} (h : e ∈ entsU b) : ∃ i, i < 7 ∧ e = entU ((2 ^ i : Nat) : Int) (b i) i := by
  simp only [entsU, List.mem_cons, List.not_mem_nil, or_false] at h
  rcases h with rfl | rfl | rfl | rfl | rfl | rfl | rfl
  · exact ⟨0, by omega, rfl⟩
  · exact ⟨1, by omega, rfl⟩
  · exact ⟨2, by omega, rfl⟩
  · exact ⟨3, by omega, rfl⟩
  · exact ⟨4, by omega, rfl⟩
  · exact ⟨5, by omega, rfl⟩
  · exact ⟨6, by omega, rfl⟩
theorem mem_entsU (b : Nat → Bool) {i : Nat} (h : i < 7) : entU ((2 ^ i : Nat) : Int) (b i) i ∈ entsU b := by
  have : i = 0 ∨ i = 1 ∨ i = 2 ∨ i = 3 ∨ i = 4 ∨ i = 5 ∨ i = 6 := by omega
  rcases this with rfl | rfl | rfl | rfl | rfl | rfl | rfl <;> simp [entsU]
theorem accU_bit (b : Nat → Bool) (l : List Nat) : ∀ (a j : Nat), (l.foldl (fun a i => if b i = true then a ||| 2 ^ i else a) a).testBit j = (a.testBit j || (decide (j ∈ l) && b j)) := by
  induction l with
  | nil => intro a j; simp
  | cons i r ih =>
    intro a j
    rw [List.foldl_cons, ih]
    by_cases hb : b i = true
    · rw [if_pos hb, Nat.testBit_or, Nat.testBit_two_pow]
      by_cases hij : i = j
      · subst hij; simp [hb]
      · simp [hij, Ne.symm hij]
    · rw [if_neg hb]
      by_cases hij : i = j
      · subst hij; simp [hb]
      · simp [Ne.symm hij]
theorem accU_lt (b : Nat → Bool) {l : List Nat} (h : ∀ i ∈ l, i < 7) : accU b l < 128 := by
  have : accU b l < 2 ^ 7 := by
    apply Nat.lt_pow_two_of_testBit
    intro j hj
    unfold accU
    rw [accU_bit]
    have : j ∉ l := fun hm => by have := h j hm; omega
    simp [this]
  exact this
theorem accU_all (b : Nat → Bool) {l : List Nat} (h : ∀ i, i < 7 → i ∈ l) (h2 : ∀ i ∈ l, i < 7) : accU b l = accU b [0, 1, 2, 3, 4, 5, 6] := by
  apply Nat.eq_of_testBit_eq
  intro j
  unfold accU
  rw [accU_bit, accU_bit]
  by_cases hj : j < 7
  · have h3 : j ∈ [0, 1, 2, 3, 4, 5, 6] := by simp; omega
    simp [h j hj, h3]
  · have h3 : j ∉ [0, 1, 2, 3, 4, 5, 6] := by simp; omega
    have h4 : j ∉ l := fun hm => hj (h2 j hm)
    simp [h4, h3]
theorem or_u64 (a c : Nat) (ha : a < 128) (hc : c < 128) : IntKind.wrap .u64 ((BitVec.ofInt 64 (a : Int) ||| BitVec.ofInt 64 (c : Int)).toNat : Int) = ((a ||| c : Nat) : Int) := by
  have h : a ||| c < 128 := Nat.or_lt_two_pow (n := 7) ha hc
  rw [BitVec.toNat_or, BitVec.ofInt_natCast, BitVec.ofInt_natCast, BitVec.toNat_ofNat, BitVec.toNat_ofNat, Nat.mod_eq_of_lt (by omega), Nat.mod_eq_of_lt (by omega)]
  show (((a ||| c : Nat) : Int) % 18446744073709551616) = _
  omega
set_option maxRecDepth 100000 in
set_option maxHeartbeats 4000000 in
theorem used_in (F : Fence) (n : Nat) (hf : F.fn 149) (hro : F.round = none) (_ : 1 ≤ n) (op table frm count : Int) (a2 a3 a4 a5 a6 a7 a8 a11 : Option Addr) (l2 l3 l4 l5 l6 l7 l8 l11 c2 c3 c4 c5 c6 c7 c8 c11 : Nat) (w : World)
    (b : Nat → Bool) (h0 : b 0 = decide (0 < wrap64 (l2 + l3))) (h1 : b 1 = (table != 0)) (h2 : b 2 = decide (0 < l4)) (h3 : b 3 = decide (0 < l5)) (h4 : b 4 = decide (0 < wrap64 (l6 + l7))) (h5 : b 5 = decide (0 < l8)) (h6 : b 6 = ((frm != 0) || (count != 0))) :
    CallsIn F n Tryz.prog 149 #[.agg #[.int .u8 op, .int .i64 table, .slice a2 l2 c2, .slice a3 l3 c3, .slice a4 l4 c4, .slice a5 l5 c5, .slice a6 l6 c6, .slice a7 l7 c7, .slice a8 l8 c8, .int .i64 frm, .int .i64 count, .slice a11 l11 c11]] w
      fun e W' => e = .returned (.int .u64 (accU b [0, 1, 2, 3, 4, 5, 6])) ∧ Below w.heap.size w W' := by
  refine callsIn_of_wp Tryz.func149 rfl hf ?_ hro
  simp only [Tryz.ntmps149, List.size_toArray, List.length_cons, List.length_nil, Nat.reduceAdd, Nat.reduceSub, Array.replicate_succ, Array.replicate_zero, List.push_toArray, List.append_toArray, List.nil_append, List.cons_append]
  gi_wp2
  all_goals
    gi_loopw [3] (fun v wr => ∃ seen : List Nat, seen.Nodup ∧ (∀ i ∈ seen, i < 7) ∧ v = .int .u64 ((accU b seen : Nat) : Int) ∧ wr.heap[w.heap.size + 1]? = some (.map (entsU b).toArray 7) ∧ wr.heap[w.heap.size + 2]? = some (.mapIter (some (w.heap.size + 1)) 7 seen.toArray 7) ∧ Below w.heap.size w wr)
      (fun v wr => 7 - (match wr.heap[w.heap.size + 2]? with | some (.mapIter _ _ seen _) => seen.size | _ => 0))
    case atStart =>
      refine ⟨[], List.nodup_nil, by simp, rfl, ?_, ?_, ?_⟩
      · rw [alloc3_mid]
        first
          | (simp [entsU, *]; done)
          | (have hfr : (frm != 0) = true := by simp; assumption
             simp [entsU, *])
      · exact alloc3_top _ _ _ _
      · exact (((Below.refl _ w).alloc (Nat.le_refl _) _).alloc (by simp) _).alloc (by simp; omega) _
    case round =>
      obtain ⟨seen, hnd, hlt, rfl, hm, hr, hB⟩ := hrel
      rcases run_next_at (P := Tryz.prog) wr 0 (w.heap.size + 2) (w.heap.size + 1) 7 7 seen.toArray (entsU b).toArray 7 hr hm (fun x hx => by obtain ⟨i, hi, rfl⟩ := entsU_mem (b := b) (by simpa using hx); exact hi) (Nat.le_refl _) with ⟨hl0, hnx⟩ | ⟨e, he, w1, hw1, hnx⟩
      · have hall : ∀ i, i < 7 → i ∈ seen := by
          intro i hi
          have hl1 : leftOf (entsU b).toArray seen.toArray = #[] := Array.eq_empty_of_size_eq_zero hl0
          unfold leftOf at hl1
          rw [Array.filter_eq_empty_iff] at hl1
          have h7 := hl1 (entU ((2 ^ i : Nat) : Int) (b i) i) (by simpa using mem_entsU b hi)
          simpa [entU] using h7
        have hfin := accU_all b hall hlt
        gi_wp2
        go_ret
        exact ⟨by rw [hfin]; rfl, hB⟩
      · obtain ⟨i, hi, rfl, hns⟩ : ∃ i, i < 7 ∧ e = entU ((2 ^ i : Nat) : Int) (b i) i ∧ i ∉ seen := by
          unfold leftOf at he
          simp only [Array.mem_toList_iff, Array.mem_filter, List.mem_toArray] at he
          obtain ⟨i, hi, rfl⟩ := entsU_mem he.1
          exact ⟨i, hi, rfl, by simpa [entU] using he.2⟩
        have hr1 : w1.heap = wr.heap := by rcases hw1 with rfl | rfl <;> rfl
        have hbl : Below w.heap.size wr w1 := by rcases hw1 with rfl | rfl; exact Below.refl _ _; exact (Below.refl _ _).drew
        have hlt2 : w.heap.size + 2 < w1.heap.size := by rw [hr1]; exact (Array.getElem?_eq_some_iff.1 hr).1
        have hm2 : (ChangeMaps.setBlock w1 (w.heap.size + 2) (.mapIter (some (w.heap.size + 1)) 7 (seen ++ [i]).toArray 7)).heap[w.heap.size + 1]? = some (.map (entsU b).toArray 7) := by
          show (w1.heap.setIfInBounds _ _)[_]? = _
          rw [Array.getElem?_setIfInBounds_ne (by omega), hr1]; exact hm
        have hr2 : (ChangeMaps.setBlock w1 (w.heap.size + 2) (.mapIter (some (w.heap.size + 1)) 7 (seen ++ [i]).toArray 7)).heap[w.heap.size + 2]? = some (.mapIter (some (w.heap.size + 1)) 7 (seen ++ [i]).toArray 7) := by
          show (w1.heap.setIfInBounds _ _)[_]? = _
          rw [Array.getElem?_setIfInBounds_self_of_lt hlt2]
        have hent := run_entry_at (P := Tryz.prog) _ (w.heap.size + 2) (w.heap.size + 1) 7 seen.toArray (entsU b).toArray 7 (entU ((2 ^ i : Nat) : Int) (b i) i) (by simpa [entU] using hr2) hm2 (by simpa using mem_entsU b hi) (by simp [entsU, entU])
        have hB2 : Below w.heap.size w (ChangeMaps.setBlock w1 (w.heap.size + 2) (.mapIter (some (w.heap.size + 1)) 7 (seen ++ [i]).toArray 7)) := by
          refine (hB.trans hbl).trans ⟨rfl, rfl, rfl, by simp [ChangeMaps.setBlock], fun k hk => ?_⟩
          show (w1.heap.setIfInBounds _ _)[_]? = _
          rw [Array.getElem?_setIfInBounds_ne (by omega)]
        have hnd2 : (seen ++ [i]).Nodup := by
          rw [List.nodup_append]
          exact ⟨hnd, by simp, by simp; exact fun a ha e => hns (e ▸ ha)⟩
        have hlt3 : ∀ j ∈ seen ++ [i], j < 7 := by
          intro j hj
          rcases List.mem_append.1 hj with h | h
          · exact hlt j h
          · rw [List.mem_singleton.1 h]; exact hi
        have hacc : accU b (seen ++ [i]) = if b i = true then accU b seen ||| 2 ^ i else accU b seen := by simp [accU]
        have hor := or_u64 (accU b seen) (2 ^ i) (accU_lt b hlt) (show 2 ^ i < 2 ^ 7 from Nat.pow_lt_pow_right (a := 2) (by omega) hi)
        have hsz : seen.length < 7 := by
          have := List.Nodup.length_le_of_subset hnd2 (fun j hj => List.mem_range.2 (hlt3 j hj))
          simp at this; omega
        simp only [entU] at hnx hent
        cases hbi : b i
        · rw [hbi] at hnx hent
          rw [hbi] at hacc
          gi_wp2
          go_roundw
          case rel => exact ⟨seen ++ [i], hnd2, hlt3, by rw [hacc]; rfl, hm2, hr2, hB2⟩
          case measure => rw [hr2, hr]; simp; omega
        · rw [hbi] at hnx hent
          rw [hbi, if_pos rfl] at hacc
          gi_wp2
          go_roundw
          case rel => exact ⟨seen ++ [i], hnd2, hlt3, by rw [hacc]; exact congrArg (Value.int .u64) (by rw [← hor, Int.natCast_pow]; rfl), hm2, hr2, hB2⟩
          case measure => rw [hr2, hr]; simp; omega
def IsSl (x : Go.Ab.AV) (n : Nat) : Prop := (∃ els, x = .slice els ∧ n = els.length) ∨ (x = .nils ∧ n = 0)
open Go.Ab in
theorem IsSl.open {x : AV} {n : Nat} {w : World} {own : Nat → Prop} {v : Value} (h : IsSl x n) (hr : RepC w own x v) : ∃ a c, v = .slice a n c := by
  rcases h with ⟨els, rfl, rfl⟩ | ⟨rfl, rfl⟩
  · cases hr with
    | slice _ _ _ _ => exact ⟨_, _, rfl⟩
    | slice0 => exact ⟨_, _, rfl⟩
  · cases hr; exact ⟨_, _, rfl⟩
def usedB (b0 b1 b2 b3 b4 b5 b6 : Bool) : Nat → Bool
  | 0 => b0 | 1 => b1 | 2 => b2 | 3 => b3 | 4 => b4 | 5 => b5 | 6 => b6 | _ => false
def usedV (b0 b1 b2 b3 b4 b5 b6 : Bool) : Int := (accU (usedB b0 b1 b2 b3 b4 b5 b6) [0, 1, 2, 3, 4, 5, 6] : Nat)
section
variable (b0 b1 b2 b3 b4 b5 b6 : Bool)
theorem us0 : usedB b0 b1 b2 b3 b4 b5 b6 0 = b0 := rfl
theorem us1 : usedB b0 b1 b2 b3 b4 b5 b6 1 = b1 := rfl
theorem us2 : usedB b0 b1 b2 b3 b4 b5 b6 2 = b2 := rfl
theorem us3 : usedB b0 b1 b2 b3 b4 b5 b6 3 = b3 := rfl
theorem us4 : usedB b0 b1 b2 b3 b4 b5 b6 4 = b4 := rfl
theorem us5 : usedB b0 b1 b2 b3 b4 b5 b6 5 = b5 := rfl
theorem us6 : usedB b0 b1 b2 b3 b4 b5 b6 6 = b6 := rfl
theorem usV : ((accU (usedB b0 b1 b2 b3 b4 b5 b6) [0, 1, 2, 3, 4, 5, 6] : Nat) : Int) = usedV b0 b1 b2 b3 b4 b5 b6 := rfl
end
theorem used_calls (op table frm count : Int) (a2 a3 a4 a5 a6 a7 a8 a11 : Option Addr) (l2 l3 l4 l5 l6 l7 l8 l11 c2 c3 c4 c5 c6 c7 c8 c11 : Nat) (w : World) :
    Calls Tryz.prog 149 #[.agg #[.int .u8 op, .int .i64 table, .slice a2 l2 c2, .slice a3 l3 c3, .slice a4 l4 c4, .slice a5 l5 c5, .slice a6 l6 c6, .slice a7 l7 c7, .slice a8 l8 c8, .int .i64 frm, .int .i64 count, .slice a11 l11 c11]] w
      fun e W' => e = .returned (.int .u64 (usedV (decide (0 < wrap64 (l2 + l3))) (table != 0) (decide (0 < l4)) (decide (0 < l5)) (decide (0 < wrap64 (l6 + l7))) (decide (0 < l8)) ((frm != 0) || (count != 0)))) ∧ Below w.heap.size w W' := by
  have h := used_in Fence.wide 6 trivial rfl (by omega) op table frm count a2 a3 a4 a5 a6 a7 a8 a11 l2 l3 l4 l5 l6 l7 l8 l11 c2 c3 c4 c5 c6 c7 c8 c11 w (usedB (decide (0 < wrap64 (l2 + l3))) (table != 0) (decide (0 < l4)) (decide (0 < l5)) (decide (0 < wrap64 (l6 + l7))) (decide (0 < l8)) ((frm != 0) || (count != 0))) (us0 _ _ _ _ _ _ _) (us1 _ _ _ _ _ _ _) (us2 _ _ _ _ _ _ _) (us3 _ _ _ _ _ _ _) (us4 _ _ _ _ _ _ _) (us5 _ _ _ _ _ _ _) (us6 _ _ _ _ _ _ _)
  rw [usV] at h
  exact (callsIn_wide (n := 6)).1 h
open Go.Ab in
theorem algebra_used (op table frm count : Int) {x2 x3 x4 x5 x6 x7 x8 x11 : AV} {l2 l3 l4 l5 l6 l7 l8 l11 : Nat} (h2 : IsSl x2 l2) (h3 : IsSl x3 l3) (h4 : IsSl x4 l4) (h5 : IsSl x5 l5) (h6 : IsSl x6 l6) (h7 : IsSl x7 l7) (h8 : IsSl x8 l8) (h11 : IsSl x11 l11) :
    ACalls Tryz.prog 149 [.agg [.int .u8 op, .int .i64 table, x2, x3, x4, x5, x6, x7, x8, .int .i64 frm, .int .i64 count, x11]] (.int .u64 (usedV (decide (0 < wrap64 (l2 + l3))) (table != 0) (decide (0 < l4)) (decide (0 < l5)) (decide (0 < wrap64 (l6 + l7))) (decide (0 < l8)) ((frm != 0) || (count != 0)))) := by
  refine ⟨by kernel_rfl, fun w own vs hown hglob hargs => ?_⟩
  obtain _ | ⟨ha, hb⟩ := hargs
  obtain _ | _ := hb
  obtain _ | _ | _ | @⟨_, us, hs⟩ := ha
  obtain _ | ⟨r0, hs⟩ := hs; obtain _ | ⟨r1, hs⟩ := hs; obtain _ | ⟨r2, hs⟩ := hs; obtain _ | ⟨r3, hs⟩ := hs; obtain _ | ⟨r4, hs⟩ := hs; obtain _ | ⟨r5, hs⟩ := hs
  obtain _ | ⟨r6, hs⟩ := hs; obtain _ | ⟨r7, hs⟩ := hs; obtain _ | ⟨r8, hs⟩ := hs; obtain _ | ⟨r9, hs⟩ := hs; obtain _ | ⟨r10, hs⟩ := hs; obtain _ | ⟨r11, hs⟩ := hs; obtain _ | _ := hs
  cases r0; cases r1; cases r9; cases r10
  obtain ⟨a2, c2, rfl⟩ := h2.open r2
  obtain ⟨a3, c3, rfl⟩ := h3.open r3
  obtain ⟨a4, c4, rfl⟩ := h4.open r4
  obtain ⟨a5, c5, rfl⟩ := h5.open r5
  obtain ⟨a6, c6, rfl⟩ := h6.open r6
  obtain ⟨a7, c7, rfl⟩ := h7.open r7
  obtain ⟨a8, c8, rfl⟩ := h8.open r8
  obtain ⟨a11, c11, rfl⟩ := h11.open r11
  refine (used_calls op table frm count a2 a3 a4 a5 a6 a7 a8 a11 l2 l3 l4 l5 l6 l7 l8 l11 c2 c3 c4 c5 c6 c7 c8 c11 w).mono ?_
  rintro e W' ⟨rfl, hB⟩
  exact ⟨_, rfl, .int _ _, hB⟩
#print axioms algebra_used
end Go.Proofs
end

section
namespace Go.Proofs
open Go Go.Ab Go.RowKit Go.Proofs.YtoggbjfjmbjegaaGreatDoor
def lenS : AV → Option Nat
  | .slice els => some els.length
  | .nils => some 0
  | .sl0 => some 0
  | .sl _ _ _ _ len => some len
  | _ => none
theorem lenS_open {x : AV} {n : Nat} {w : World} {own : Nat → Prop} {β : Nat → Nat → Ab.Loc} {ok : Nat → Nat → Prop} {v : Value} (h : lenS x = some n) (hr : RepV w own β ok x v) : ∃ a c, v = .slice a n c := by
  cases x <;> simp only [lenS] at h <;> (try (cases h; done)) <;> cases h
  · cases hr with
    | closed hr => cases hr with
      | slice _ _ _ _ => exact ⟨_, _, rfl⟩
      | slice0 => exact ⟨_, _, rfl⟩
  · rw [hr.nils_open]; exact ⟨_, _, rfl⟩
  · obtain ⟨cap, _, _, _, e⟩ := hr.sl_open; exact ⟨_, _, e⟩
  · cases hr with
    | closed hr => cases hr; exact ⟨_, _, rfl⟩
def knownU : CallG := fun f _ _ args σ _ => if f = 149 then
    match args with
    | [.agg [.int .u8 _, .int .i64 table, x2, x3, x4, x5, x6, x7, x8, .int .i64 frm, .int .i64 count, x11]] =>
      match lenS x2, lenS x3, lenS x4, lenS x5, lenS x6, lenS x7, lenS x8, lenS x11 with
      | some l2, some l3, some l4, some l5, some l6, some l7, some l8, some _ =>
        some (.int .u64 (usedV (decide (0 < wrap64 (l2 + l3))) (table != 0) (decide (0 < l4)) (decide (0 < l5)) (decide (0 < wrap64 (l6 + l7))) (decide (0 < l8)) ((frm != 0) || (count != 0))), σ, [])
      | _, _, _, _, _, _, _, _ => none
    | _ => none
  else none
theorem knownU_sound : ∀ f γ ls args σ c r σ' κ, knownU f γ ls args σ c = some (r, σ', κ) → GCalls Tryz.prog f γ κ args σ r σ' := by
  intro f γ ls args σ c r σ' κ hk
  unfold knownU at hk
  split at hk
  case isFalse => cases hk
  rename_i hf
  subst hf
  split at hk
  case h_2 => cases hk
  rename_i op table x2 x3 x4 x5 x6 x7 x8 frm count x11
  split at hk
  case h_2 => cases hk
  rename_i l2 l3 l4 l5 l6 l7 l8 l11 h2 h3 h4 h5 h6 h7 h8 h11
  simp only [Option.some.injEq, Prod.mk.injEq] at hk
  obtain ⟨rfl, rfl, rfl⟩ := hk
  refine ⟨by kernel_rfl, fun N ext β ok vs w hst hgen _ => ?_⟩
  have ht := hst.temps
  simp only at ht
  obtain _ | ⟨ha, hb⟩ := ht
  obtain _ | _ := hb
  obtain ⟨us, rfl, hs⟩ := ha.agg_open
  obtain _ | ⟨r0, hs⟩ := hs; obtain _ | ⟨r1, hs⟩ := hs; obtain _ | ⟨r2, hs⟩ := hs; obtain _ | ⟨r3, hs⟩ := hs; obtain _ | ⟨r4, hs⟩ := hs; obtain _ | ⟨r5, hs⟩ := hs
  obtain _ | ⟨r6, hs⟩ := hs; obtain _ | ⟨r7, hs⟩ := hs; obtain _ | ⟨r8, hs⟩ := hs; obtain _ | ⟨r9, hs⟩ := hs; obtain _ | ⟨r10, hs⟩ := hs; obtain _ | ⟨r11, hs⟩ := hs; obtain _ | _ := hs
  obtain rfl := r0.int_open
  obtain rfl := r1.int_open
  obtain rfl := r9.int_open
  obtain rfl := r10.int_open
  obtain ⟨a2, c2, rfl⟩ := lenS_open h2 r2
  obtain ⟨a3, c3, rfl⟩ := lenS_open h3 r3
  obtain ⟨a4, c4, rfl⟩ := lenS_open h4 r4
  obtain ⟨a5, c5, rfl⟩ := lenS_open h5 r5
  obtain ⟨a6, c6, rfl⟩ := lenS_open h6 r6
  obtain ⟨a7, c7, rfl⟩ := lenS_open h7 r7
  obtain ⟨a8, c8, rfl⟩ := lenS_open h8 r8
  obtain ⟨a11, c11, rfl⟩ := lenS_open h11 r11
  refine (used_calls op table frm count a2 a3 a4 a5 a6 a7 a8 a11 l2 l3 l4 l5 l6 l7 l8 l11 c2 c3 c4 c5 c6 c7 c8 c11 w).mono ?_
  rintro e w' ⟨rfl, hB⟩
  have h2 := hst.below hB
  exact ⟨_, β, ok, rfl, ⟨.cons (.closed (.int _ _)) .nil, h2.regs, h2.dist, h2.extlt, h2.n0le, rfl, h2.glob⟩, fun t g hk => .inl hk, fun t g hk => ⟨hk, rfl⟩, .of_below hB hst.n0le⟩
def namesT : List (FuncId × ByteArray × AV) := [(138, ⟨#[116]⟩, .bool true), (138, ⟨#[97]⟩, .bool true), (138, ⟨#[98]⟩, .bool true)]
theorem name_t : isNameC ⟨#[116]⟩ = true := by kernel_rfl
theorem name_a : isNameC ⟨#[97]⟩ = true := by kernel_rfl
theorem name_b : isNameC ⟨#[98]⟩ = true := by kernel_rfl
def knownJ : CallG := fun f γ ls args σ c => match knownS namesT f γ ls args σ c with | some x => some x | none => knownU f γ ls args σ c
theorem knownJ_sound : ∀ f γ ls args σ c r σ' κ, knownJ f γ ls args σ c = some (r, σ', κ) → GCalls Tryz.prog f γ κ args σ r σ' := by
  intro f γ ls args σ c r σ' κ hk
  unfold knownJ at hk
  split at hk
  · rename_i x hx
    cases hk
    refine knownS_sound (tab := namesT) ?_ _ _ _ _ _ _ _ _ _ hx
    intro p hp
    simp only [namesT, List.mem_cons, List.not_mem_nil, or_false] at hp
    rcases hp with rfl | rfl | rfl
    · have := lex_IsName ⟨#[116]⟩ (by decide); rwa [name_t] at this
    · have := lex_IsName ⟨#[97]⟩ (by decide); rwa [name_a] at this
    · have := lex_IsName ⟨#[98]⟩ (by decide); rwa [name_b] at this
  · exact knownU_sound _ _ _ _ _ _ _ _ _ hk
end Go.Proofs
end
end
