/- The iterator of strings.FieldsSeq over ASCII text. Names: lex.class, lex.IsName. -/
import Derived.RangeFuncNested
import Derived.RangeFuncCalls
import Derived.RangeFuncLeaves
import Derived.Shelf.Abstract
import Derived.WalkKit
import Derived.OwnWalkIn
import Derived.TacticsInMore
import Derived.LoopNIn
import Derived.LoopIn
import Derived.Test.YtleadljchhkiiaaGreatDoorAb19
import Derived.Test.YtleadljchhkiiaaGreatDoorProg
import Derived.Test.YtleadljchhkiiaaGreatDoorShf
import Derived.Test.YtleadljchhkiiaaGreatDoorT0
set_option linter.unusedSimpArgs false
set_option linter.unusedVariables false
section
namespace Go.Proofs
open Go.RowKit Go.Shelf
attribute [local go_sem] Oper.semAt_some
def blankI (j : Nat) : Int := if j = 9 ∨ j = 10 ∨ j = 11 ∨ j = 12 ∨ j = 13 ∨ j = 32 then 1 else 0
def byteN (s : ByteArray) (i : Nat) : Nat := if h : i < s.size then (s[i]'h).toNat else 0
def fldGo (s : ByteArray) : Nat → Nat → Int → List ByteArray
  | 0, i, start => if 0 ≤ start then [s.extract start.toNat i] else []
  | n + 1, i, start => if blankI (byteN s i) ≠ 0 then (if 0 ≤ start then s.extract start.toNat i :: fldGo s n (i + 1) (-1) else fldGo s n (i + 1) (-1)) else fldGo s n (i + 1) (if start < 0 then i else start)
theorem fldGo_neg (s : ByteArray) : ∀ (n i : Nat) (a b : Int), a < 0 → b < 0 → fldGo s n i a = fldGo s n i b
  | 0, i, a, b, ha, hb => by rw [fldGo, fldGo, if_neg (by omega), if_neg (by omega)]
  | n + 1, i, a, b, ha, hb => by
    rw [fldGo, fldGo, if_neg (show ¬ 0 ≤ a by omega), if_neg (show ¬ 0 ≤ b by omega), if_pos ha, if_pos hb]
set_option maxRecDepth 100000 in
set_option maxHeartbeats 2000000 in
theorem fieldsSeq1_in (F : Fence) (n : Nat) (hf : F.fn 388) (hro : F.round = none) (hn : 1 ≤ n) (l Bs n₀ : Nat) (s : ByteArray) (hs : s.size ≤ 1000000) (hasc : ∀ i, i < s.size → byteN s i < 128) (hb : Bs < n₀) (h2 : 2 < n₀) (J Jx : List ByteArray → World → Prop)
    (hY : ∀ pre x W, J pre W → pre.length < s.size + 1 → YieldAt F (n - 1) Tryz.prog l #[.string x] W fun e W' =>
      (e = .returned (.bool true) ∧ J (pre ++ [x]) W' ∧ Below n₀ W W') ∨ (e = .returned (.bool false) ∧ Jx (pre ++ [x]) W'))
    (W : World) (hBs : W.cell? ⟨Bs, 0, none⟩ = some (.string s)) (hG : ∀ j, j < 256 → W.cell? ⟨2, j, none⟩ = some (.int .u8 (blankI j))) (h0 : J [] W) :
    CallsIn F n Tryz.prog 388 #[.func (.yield l) #[] #[], .pointer (some ⟨Bs, 0, none⟩)] W fun e W' => (∃ v, e = .returned v) ∧
      ((∃ ys, ys = fldGo s s.size 0 (-1) ∧ J ys W') ∨ (∃ pre, pre <+: fldGo s s.size 0 (-1) ∧ Jx pre W')) := by
  refine callsIn_of_wp Tryz.func388 rfl hf ?_ hro
  simp only [Tryz.ntmps388, List.size_toArray, List.length_cons, List.length_nil, Nat.reduceAdd, Nat.reduceSub, Array.replicate_succ, Array.replicate_zero, List.push_toArray, List.append_toArray, List.nil_append, List.cons_append]
  gi_wp2
  gi_loopw [3, 4] (fun st i wr => ∃ (k : Nat) (start : Int) (pre : List ByteArray), k ≤ s.size ∧ start < k ∧ i = .int .i64 k ∧ st = .int .i64 start ∧ pre.length ≤ k ∧ pre ++ fldGo s (s.size - k) k start = fldGo s s.size 0 (-1) ∧ J pre wr ∧ Below n₀ W wr)
    (fun _ i _ => s.size - (intOf i).toNat)
  case atStart => exact ⟨0, -1, [], by omega, by omega, rfl, rfl, by simp, by simp, h0, Below.refl _ _⟩
  case round =>
    obtain ⟨k, start, pre, hk, hst, rfl, rfl, hpl, hpre, hJs, hnx⟩ := hrel
    have hc := (hnx.cell (p := ⟨Bs, 0, none⟩) hb).trans hBs
    by_cases hlt : k < s.size
    · have hbk : byteN s k = (s[k]'hlt).toNat := by unfold byteN; rw [dif_pos hlt]
      have ha := hasc k hlt
      rw [hbk] at ha
      have hw : wrap32 (((s[k]'hlt).toNat : Nat) : Int) = (((s[k]'hlt).toNat : Nat) : Int) := by
        unfold wrap32
        omega
      have hg : wr.cell? ⟨2, (s[k]'hlt).toNat, none⟩ = some (.int .u8 (blankI (s[k]'hlt).toNat)) := (hnx.cell (p := ⟨2, (s[k]'hlt).toNat, none⟩) h2).trans (hG _ (by omega))
      have hstep : fldGo s (s.size - k) k start = if blankI (s[k]'hlt).toNat ≠ 0 then (if 0 ≤ start then s.extract start.toNat k :: fldGo s (s.size - (k + 1)) (k + 1) (-1) else fldGo s (s.size - (k + 1)) (k + 1) (-1)) else fldGo s (s.size - (k + 1)) (k + 1) (if start < 0 then k else start) := by
        rw [show s.size - k = (s.size - (k + 1)) + 1 by omega, fldGo, hbk]
      rw [hstep] at hpre
      clear hstep
      by_cases hsn : 0 ≤ start
      · obtain ⟨st, rfl⟩ := Int.eq_ofNat_of_zero_le hsn
        have hst' : st ≤ k := by omega
        simp only [Int.toNat_natCast, hsn, if_true] at hpre
        rw [if_neg (show ¬ ((st : Int) < 0) by omega)] at hpre
        by_cases hbl : blankI (s[k]'hlt).toNat = 0
        · rw [if_neg (by simpa using hbl)] at hpre
          gi_wp2
          go_roundw
          case rel => exact ⟨k + 1, st, pre, by omega, by omega, by simp, rfl, by omega, hpre, hJs, hnx⟩
          case measure => simp [intOf]; omega
        · rw [if_pos hbl] at hpre
          obtain ⟨fn, tmps, assign, body, hy, hR⟩ := hY pre (s.extract st k) wr hJs (by omega)
          gi_wp2
          refine hR.mono ?_
          rintro e W3 (⟨rfl, hJ3, hk3⟩ | ⟨rfl, hJx3⟩)
          · gi_wp2
            go_roundw
            case rel => exact ⟨k + 1, -1, pre ++ [s.extract st k], by omega, by omega, by simp, rfl, by simp; omega, by rw [List.append_assoc]; exact hpre, hJ3, hnx.trans hk3⟩
            case measure => simp [intOf]; omega
          · gi_wp2
            refine bodyPost_ret (results_none rfl _ _ _) rfl ?_
            exact ⟨⟨_, rfl⟩, .inr ⟨_, ⟨_, by rw [List.append_assoc]; exact hpre⟩, hJx3⟩⟩
      · rw [if_neg hsn] at hpre
        rw [if_pos (show start < 0 by omega)] at hpre
        by_cases hbl : blankI (s[k]'hlt).toNat = 0
        · rw [if_neg (by simpa using hbl)] at hpre
          gi_wp2
          go_roundw
          case rel => exact ⟨k + 1, k, pre, by omega, by omega, by simp, rfl, by omega, hpre, hJs, hnx⟩
          case measure => simp [intOf]; omega
        · rw [if_pos hbl] at hpre
          gi_wp2
          go_roundw
          case rel => exact ⟨k + 1, start, pre, by omega, by omega, by simp, rfl, by omega, by rw [← hpre]; congr 1; exact fldGo_neg s _ _ _ _ (by omega) (by omega), hJs, hnx⟩
          case measure => simp [intOf]; omega
    · obtain rfl : k = s.size := by omega
      rw [Nat.sub_self, fldGo] at hpre
      by_cases hsn : 0 ≤ start
      · obtain ⟨st, rfl⟩ := Int.eq_ofNat_of_zero_le hsn
        have hst' : st ≤ s.size := by omega
        simp only [Int.toNat_natCast, hsn, if_true] at hpre
        obtain ⟨fn, tmps, assign, body, hy, hR⟩ := hY pre (s.extract st s.size) wr hJs (by omega)
        gi_wp2
        refine hR.mono ?_
        rintro e W3 (⟨rfl, hJ3, hk3⟩ | ⟨rfl, hJx3⟩)
        · gi_wp2
          go_end0
          exact ⟨⟨_, rfl⟩, .inl ⟨_, rfl, by rw [← hpre]; exact hJ3⟩⟩
        · gi_wp2
          go_end0
          exact ⟨⟨_, rfl⟩, .inr ⟨_, by rw [hpre]; exact List.prefix_rfl, hJx3⟩⟩
      · rw [if_neg hsn, List.append_nil] at hpre
        gi_wp2
        go_end0
        exact ⟨⟨_, rfl⟩, .inl (by rw [← hpre]; exact hJs)⟩

/-- strings.FieldsSeq: the text is boxed; the function value captures the box. -/
theorem fieldsSeq_in (F : Fence) (n : Nat) (hf : F.fn 338) (hro : F.round = none) (s : ByteArray) (w : World) :
    CallsIn F n Tryz.prog 338 #[.string s] w fun e w' => e = .returned (.func (.func 388) #[] #[.pointer (some ⟨w.heap.size, 0, none⟩)]) ∧ w' = w.alloc (.cells #[.string s] 9) := by
  refine callsIn_of_wp Tryz.func338 rfl hf ?_ hro
  simp only [Tryz.ntmps338, List.size_toArray, List.length_cons, List.length_nil, Nat.reduceAdd, Nat.reduceSub, Array.replicate_succ, Array.replicate_zero, List.push_toArray, List.append_toArray, List.nil_append, List.cons_append]
  gi_wp2
  go_ret
  exact ⟨rfl, rfl⟩
/-- What strings.FieldsSeq gives: the words, in order; or the first of them. -/
theorem fieldsSeq_stops (F : Fence) (n : Nat) (hf : F.fn 388) (hro : F.round = none) (hn : 1 ≤ n) (Bs n₀ : Nat) (s : ByteArray) (hs : s.size ≤ 1000000) (hasc : ∀ i, i < s.size → byteN s i < 128) (w : World) (hBs : Bs < n₀) (hn₀ : n₀ ≤ w.heap.size) (h2 : 2 < n₀)
    (hc : w.cell? ⟨Bs, 0, none⟩ = some (.string s)) (hG : ∀ j, j < 256 → w.cell? ⟨2, j, none⟩ = some (.int .u8 (blankI j))) :
    SeqStopsK F n Tryz.prog 388 #[.pointer (some ⟨Bs, 0, none⟩)] (fun x : ByteArray => #[Value.string x]) (Below n₀) (fun ys => ys = fldGo s s.size 0 (-1)) (fun pre => pre <+: fldGo s s.size 0 (-1)) (s.size + 1) w := fun l J Jx W hW _ _ hY h0 =>
  fieldsSeq1_in F n hf hro hn l Bs n₀ s hs hasc hBs h2 J Jx hY W ((hW.cell (p := ⟨Bs, 0, none⟩) (show Bs < _ by omega)).trans hc) (fun j hj => (hW.cell (p := ⟨2, j, none⟩) (show 2 < _ by omega)).trans (hG j hj)) h0
/-- The text of the keywords, as the function bears it. -/
def strArg : Op → List ByteArray
  | .call c => c.args.toList.filterMap fun x => match x with | .const (.string s) => some s | _ => none
  | _ => []
def strArgs : Code → List ByteArray
  | .region _ ops _ => ops.toList.flatMap fun o => strArg o.op
  | .seq a b | .cond _ a b => strArgs a ++ strArgs b
  | .block _ a | .loop a => strArgs a
  | _ => []
noncomputable def kwd : ByteArray := match Tryz.f273.body with | some c => (strArgs c).headD ⟨#[]⟩ | none => ⟨#[]⟩
noncomputable def kwL : List ByteArray := fldGo kwd kwd.size 0 (-1)
theorem kw_not {s : ByteArray} (h : s ∉ kwL) : (kwL.any fun x => decide (x = s)) = false := by
  rw [List.any_eq_false]
  intro x hx
  simp only [decide_eq_true_eq]
  rintro rfl
  exact h hx
theorem kw_mem {s : ByteArray} (h : s ∈ kwL) : (kwL.any fun x => decide (x = s)) = true := List.any_eq_true.2 ⟨s, h, by simp⟩
theorem kwd_size : decide (kwd.size ≤ 1000000) = true := by kernel_rfl
theorem kwd_asc : ((List.range kwd.size).all fun i => decide (byteN kwd i < 128)) = true := by kernel_rfl
set_option maxRecDepth 100000 in
set_option maxHeartbeats 2000000 in
theorem isKeyword_in (F : Fence) (n : Nat) (h3 : F.fn 273) (h5 : F.fn 338) (h7 : F.fn 388) (hro : F.round = none) (hn : 3 ≤ n) (s : ByteArray) (w : World) (h2 : 2 < w.heap.size) (hG : ∀ j, j < 256 → w.cell? ⟨2, j, none⟩ = some (.int .u8 (blankI j))) :
    CallsIn F n Tryz.prog 273 #[.string s] w fun e W' => e = .returned (.bool (kwL.any fun x => decide (x = s))) ∧ Below w.heap.size w W' := by
  have h1 : 1 ≤ n := by omega
  refine callsIn_of_wp_marks Tryz.func273 rfl h3 ?_ hro
  simp only [Tryz.ntmps273, List.size_toArray, List.length_cons, List.length_nil, Nat.reduceAdd, Nat.reduceSub, Array.replicate_succ, Array.replicate_zero, List.push_toArray, List.append_toArray, List.nil_append, List.cons_append]
  gi_wp2_with (gi_at_call 338; refine (fieldsSeq_in F (n - 1) h5 hro kwd _).mono ?_; rintro e w' ⟨rfl, rfl⟩)
  have bS := Boxed.new w 9 (.string s)
  have bR := Boxed.new (w.alloc (.cells #[.string s] 9)) 4 (.bool false)
  have bN := Boxed.new ((w.alloc (.cells #[.string s] 9)).alloc (.cells #[.bool false] 4)) 9 (.string kwd)
  rw [World.size_alloc] at bR
  rw [World.size_alloc, World.size_alloc] at bN
  have hB0 : Below w.heap.size w (((w.alloc (.cells #[.string s] 9)).alloc (.cells #[.bool false] 4)).alloc (.cells #[.string kwd] 9)) := (((Below.refl _ w).alloc (Nat.le_refl _) _).alloc (by simp) _).alloc (by simp; omega) _
  refine wpIn_rangeFunc_ownG hro h1 (gf := 388) (lb := #[.pointer (some ⟨w.heap.size + 2, 0, none⟩)]) rfl h7 (enters_of Tryz.func388 (by kernel_rfl) rfl)
    (fieldsSeq_stops F (n - 1) h7 hro (by omega) (w.heap.size + 2) (w.heap.size + 3) kwd (of_decide_eq_true kwd_size) (fun i hi => of_decide_eq_true (List.all_eq_true.1 kwd_asc i (List.mem_range.2 hi))) _ (by omega) (by simp) (by omega) bN.cell (fun j hj => (hB0.cell (p := ⟨2, j, none⟩) (show 2 < _ by omega)).trans (hG j hj))) belowK_t (belowK_b (by simp)) (Below.refl _ _) (fun _ => rfl)
    (fun pre W => ((s ∉ pre) ∧ W.cell? ⟨w.heap.size, 0, none⟩ = some (.string s) ∧ W.cell? ⟨w.heap.size + 1, 0, none⟩ = some (.bool false) ∧ W.frozen? ⟨w.heap.size + 1, 0, none⟩ = false) ∧ Below w.heap.size w W)
    (fun c pre W => (c = .ret ∧ s ∈ pre ∧ W.cell? ⟨w.heap.size + 1, 0, none⟩ = some (.bool true)) ∧ Below w.heap.size w W)
    (OwnFrom.and (Own.from (fun s A B row hs hg hr => ⟨hs.1, cell_kept hs.2.1 hg hr, cell_kept hs.2.2.1 hg hr, (frozen_kept hs.2.2.1 hg hr).trans hs.2.2.2⟩) _) (ownFrom_below (Nat.le_refl _) (by simp; omega)))
    (fun c => OwnFrom.and (Own.from (fun s A B row hs hg hr => ⟨hs.1, hs.2.1, cell_kept hs.2.2 hg hr⟩) _) (ownFrom_below (Nat.le_refl _) (by simp; omega)))
    ⟨⟨by simp, ((bS.alloc _).alloc _).cell, (bR.alloc _).cell, (bR.alloc _).frozen⟩, hB0⟩
    (fun x => { tmps := #[.string s, .pointer (some ⟨w.heap.size, 0, none⟩), .pointer (some ⟨w.heap.size + 1, 0, none⟩), .string x, .func (.func 388) #[] #[.pointer (some ⟨w.heap.size + 2, 0, none⟩)], .string x, undef, undef, undef], defers := [] }) ?assign ?body ?done ?stop
  case assign =>
    intro l x W K hK
    gi_wp2
    exact hK
  case body =>
    rintro l pre x W ⟨⟨hp, hcs, hcr, hfr⟩, hB⟩ _
    by_cases hx : x = s
    · subst hx
      gi_wp2
      exact ⟨(KeepsOthers.setCell _ _ _).from _, ⟨rfl, by simp, World.cell?_setCell_same' _ _ _ (by rw [hcr]; rfl)⟩, hB.setCell (p := ⟨w.heap.size + 1, 0, none⟩) (by simp) _⟩
    · have hxe : (x.toList == s.toList) = false := by rw [Go.Ab.str_eq, decide_eq_false hx]
      gi_wp2
      exact ⟨KeepsFrom.refl _ _, Below.refl _ _, ⟨by simp only [List.mem_append, List.mem_singleton, not_or]; exact ⟨hp, fun e => hx e.symm⟩, hcs, hcr, hfr⟩, hB⟩
  case done =>
    rintro D ys W hD rfl ⟨⟨hne, hcs, hcr, hfr⟩, hB⟩ hK
    gi_wp2
    have hK' := (KeepsOthers.setCell W ⟨w.heap.size + 1, 0, none⟩ (.bool false)).same D _ hK rfl
    refine ⟨by simp, .inl ⟨_, _, rfl, run_takeDeferred hK', ?_⟩⟩
    have hc5 := cell_kept (World.cell?_setCell_same' W ⟨w.heap.size + 1, 0, none⟩ (.bool false) (by rw [hcr]; rfl)) (grownBy_putObj' _ D (.deferred none)) (fun r e => by cases e; exact ⟨_, hK', rfl⟩)
    refine ⟨.bool false, ?_, congrArg (fun b => Ending.returned (Value.bool b)) (kw_not hne).symm, (hB.setCell (p := ⟨w.heap.size + 1, 0, none⟩) (by simp) _).trans (belowK_b (w := w) (Nat.le_refl _) _ D _ _ (by simp at hD; omega) hK' rfl rfl)⟩
    simp [results, Tryz.f273, go_sem, hc5]
  case stop =>
    rintro D c pre W hD hpre ⟨⟨rfl, hmem, hcr⟩, hB⟩ hK
    gi_wp2
    refine ⟨by simp, .inl ⟨_, _, rfl, run_takeDeferred hK, ?_⟩⟩
    have hc5 := cell_kept hcr (grownBy_putObj' _ D (.deferred none)) (fun r e => by cases e; exact ⟨_, hK, rfl⟩)
    refine ⟨.bool true, ?_, congrArg (fun b => Ending.returned (Value.bool b)) (kw_mem (hpre.subset hmem)).symm, hB.trans (belowK_b (w := w) (Nat.le_refl _) W D _ _ (by simp at hD; omega) hK rfl rfl)⟩
    simp [results, Tryz.f273, go_sem, hc5]
open Go.Ab in
/-- lex.IsKeyword. -/
theorem lex_IsKeyword (hg : gtab.lookup 2 = some asciiA) (s : ByteArray) : ACalls Tryz.prog 273 [.str s] (.bool (kwL.any fun x => decide (x = s))) := by
  refine ⟨by kernel_rfl, fun w own vs hown hglob hargs => ?_⟩
  obtain _ | ⟨h1, h2⟩ := hargs
  obtain _ | _ := h2
  cases h1
  have hG := hglob 2 asciiA hg
  obtain _ | _ | _ | _ | _ | _ | _ | @⟨_, _, vs, hr, hat⟩ := hG
  have hcell : ∀ j, j < 256 → ¬ own 2 ∧ w.cell? ⟨2, j, none⟩ = some (.int .u8 (blankI j)) := by
    intro j hj
    have hx : asciiA[j]? = some (.int .u8 (blankI j)) := by
      unfold asciiA
      rw [List.getElem?_map, List.getElem?_range hj]
      rfl
    obtain ⟨hl, he⟩ := List.getElem?_eq_some_iff.1 hx
    obtain ⟨v, hv, hr2⟩ := hr.get j hl
    rw [he] at hr2
    cases hr2
    have := hat.2 j _ hv
    simpa using this
  have h2 : 2 < w.heap.size := cell?_lt (hcell 0 (by omega)).2
  refine (callsIn_wide (n := 6)).1 ((isKeyword_in Fence.wide 6 trivial trivial trivial rfl (by omega) s w h2 (fun j hj => (hcell j hj).2)).mono ?_)
  rintro e W' ⟨rfl, hB⟩
  exact ⟨_, rfl, .bool _, hB⟩
#print axioms lex_IsKeyword
end Go.Proofs
end

section
namespace Go.Proofs.YtleadljchhkiiaaGreatDoor
open Go Go.Ab
def clsB (c : Int) : Bool := decide (c = 2) || decide (c = 3)
def upS (s : ByteArray) : ByteArray := ⟨(Lib.toUpperA s.data.toList).toArray⟩
def lowS (s : ByteArray) : ByteArray := ⟨(Lib.toLowerA s.data.toList).toArray⟩
def asciiB (s : ByteArray) : Prop := ∀ (j : Nat) (b : UInt8), s.data.toList[j]? = some b → b.toNat < 128
theorem str_ToUpper (s : ByteArray) (hs : s.size ≤ 20) (ha : asciiB s) : ACalls Tryz.prog 274 [.str s] (.str (upS s)) := by
  refine ⟨by kernel_rfl, fun w own vs hown hglob hargs => ?_⟩
  obtain _ | ⟨h1, h2⟩ := hargs
  obtain _ | _ := h2
  cases h1
  refine (Tryz.strings_ToUpper_ascii s w (by omega) ha).mono ?_
  rintro e W' ⟨rfl, hB⟩
  exact ⟨_, rfl, .str _, hB⟩
theorem str_ToLower (s : ByteArray) (hs : s.size ≤ 20) (ha : asciiB s) : ACalls Tryz.prog 272 [.str s] (.str (lowS s)) := by
  refine ⟨by kernel_rfl, fun w own vs hown hglob hargs => ?_⟩
  obtain _ | ⟨h1, h2⟩ := hargs
  obtain _ | _ := h2
  cases h1
  refine (Tryz.strings_ToLower_ascii s w (by omega) ha).mono ?_
  rintro e W' ⟨rfl, hB⟩
  exact ⟨_, rfl, .str _, hB⟩
attribute [local go_sem ↓] parts_tt parts_ff parts_tf parts_ft
attribute [local go_sem] parts_eq learnT aops_nil aops_cons aopsD_nil aopsD_cons stepS stepD gval St.learn skipR St.after putτ applyUpd List.foldl_cons List.foldl_nil pureOp memOp callOf litA closeO closeK List.flatMap_cons List.flatMap_nil Option.map_none decide_false opnd ofConst leaf binA unA lenA indexA indexAddrA fieldAddrA fieldA sliceA convertA pickV fillA placeS cellsA setA partA loadM storeM appendM srcEls lookBox lookRow lookMap closeL closeV scalarB scalarL killed buildEls lookupA leafEq eqAll resA resL tupA retA thenA blockA isInt loA hiA foldA maxA minA okSize leafB closedB Res.foot List.getD_cons_zero List.getD_cons_succ List.set_cons_zero List.set_cons_succ List.map_cons List.map_nil List.append_nil List.nil_append List.cons_append List.length_cons List.length_nil List.take_succ_cons List.take_zero List.drop_succ_cons List.drop_zero List.take_nil List.drop_nil List.all_cons List.all_nil List.getElem?_toArray List.getElem?_cons_zero List.getElem?_cons_succ Option.bind_some Option.map_some true_and and_true true_implies ne_eq not_true_eq_false not_false_eq_true Bool.true_eq_false Bool.false_eq_true Bool.not_true Bool.not_false decide_eq_true_eq decide_eq_false_iff_not false_implies implies_true and_self ite_true ite_false cond_true cond_false Option.some.injEq List.reverse_cons List.reverse_nil Bool.and_self Bool.true_and Bool.and_true Bool.false_and Bool.and_false Bool.or_true Bool.true_or Bool.or_false Bool.false_or Bool.not_eq_eq_eq_not Bool.not_not Bool.or_self beq_self_eq_true and_false false_and or_true true_or or_false false_or not_true not_false_iff Decidable.not_not lookT lookR tabT tabR Int.toNat_natCast List.length_map List.map_append List.length_append decide_true decide_false tmod2 List.mem_singleton forall_eq elOk1 elOk3 elOk4 castn0 castn1 castn2 castn3 getD_mid getD_mid_map at_lt at_end mid_lt mid_lt' nat_ge List.size_toArray Array.size_empty Nat.add_zero Nat.zero_add
attribute [local irreducible] ASpec ACalls retA ti EqT
set_option linter.unusedSimpArgs false
set_option maxHeartbeats 4000000
set_option maxRecDepth 100000
set_option linter.unusedVariables false
attribute [local go_sem] ti2 ti3 ti4 ti5 ti9 ti21 ti22 ti24 ti26 ti34 ti42 ti55 ti71 ti72 ti81 ti103 ti134 ti146 ti153 ti161 ti165 ti176 ti205 ti221 ti222 ti247
def low5 (b : Int) : Int := bitA .or .u8 b 32
def classC (b : Int) : Int :=
  if b = 32 ∨ b = 9 ∨ b = 10 ∨ b = 13 then 1 else if b = 95 then 2 else if b = 39 then 4 else if 97 ≤ low5 b ∧ low5 b ≤ 122 then 2 else if 48 ≤ b ∧ b ≤ 57 then 3 else 0
theorem lex_class (b : Int) : ACalls Tryz.prog 271 [.int .u8 b] (.int .i64 (classC b)) := by
  have hc : classC b = if b = 32 ∨ b = 9 ∨ b = 10 ∨ b = 13 then 1 else if b = 95 then 2 else if b = 39 then 4 else if 97 ≤ bitA .or .u8 b 32 ∧ bitA .or .u8 b 32 ≤ 122 then 2 else if 48 ≤ b ∧ b ≤ 57 then 3 else 0 := rfl
  rw [hc]
  clear hc
  generalize hz : bitA .or .u8 b 32 = z
  refine acalls_k Tryz.func271 rfl (by kernel_rfl) (congrArg Array.toList Tryz.results271) Tryz.ntmps271 ?_
  intro R hR
  simp only [st0, List.length_cons, List.length_nil, Nat.reduceAdd, Nat.reduceSub, List.replicate_succ, List.replicate_zero, List.cons_append, List.nil_append]
  repeat' (first
      | (with_reducible refine a_seq_k ?_; intro K hK)
      | ((first | with_reducible refine a_region (by kernel_rfl) ?_ | (with_reducible refine a_draw mixed (by kernel_rfl) ?_; intro C hC) | (with_reducible refine a_cond_k ?_; intro X Y hX hY) | with_reducible refine RetOk.mk ?_); simp (maxSteps := 10000000) (implicitDefEqProofs := false) only [go_sem, hz,  ↓reduceIte, reduceCtorEq, Nat.reduceAdd, Nat.reduceSub, Nat.reduceLeDiff, Nat.reduceEqDiff, Nat.reduceMul, Nat.reduceLT, Nat.reducePow, Int.reduceEq, Int.reduceLT, Int.reduceLE, Int.reduceGT, Int.reduceGE, Int.reduceAdd, Int.reduceSub, Int.reduceNeg, Int.reduceToNat])
      | with_reducible refine a_block ?_
      | with_reducible refine a_ret ?_
      | with_reducible refine a_exit ?_
      | with_reducible refine a_skip ?_
      | with_reducible exact ConfOk.mk (by kernel_rfl)
      | (with_reducible refine eqT_of (eq33 _ _ _ _ _ _) ?_; simp)
      | (with_reducible refine eqT_of (eq35 _ _ _ _ _ _ _ _) ?_; simp)
      | ((fail_if_success with_reducible show False); with_reducible apply_assumption (exfalso := false) (symm := false) only [*, rfl, trivial, congrArg])
      | with_reducible refine And.intro ?_ ?_
      | (intro h; contradiction)
      | (intro h; subst h)
      | intro h
      | simp (maxSteps := 10000000) (implicitDefEqProofs := false) only [go_sem, hz,  ↓reduceIte, reduceCtorEq, Nat.reduceAdd, Nat.reduceSub, Nat.reduceLeDiff, Nat.reduceEqDiff, Nat.reduceMul, Nat.reduceLT, Nat.reducePow, Int.reduceEq, Int.reduceLT, Int.reduceLE, Int.reduceGT, Int.reduceGE, Int.reduceAdd, Int.reduceSub, Int.reduceNeg, Int.reduceToNat])
  all_goals first
    | (rw [if_pos (by omega)]; done)
    | (rw [if_neg (by omega), if_pos (by omega)]; done)
    | (rw [if_neg (by omega), if_neg (by omega), if_pos (by omega)]; done)
    | (rw [if_neg (by omega), if_neg (by omega), if_neg (by omega), if_pos (by omega)]; done)
    | (rw [if_neg (by omega), if_neg (by omega), if_neg (by omega), if_neg (by omega), if_pos (by omega)]; done)
    | (rw [if_neg (by omega), if_neg (by omega), if_neg (by omega), if_neg (by omega), if_neg (by omega)]; done)
theorem cls_ascii : ∀ b : Fin 256, clsB (classC (b.val : Int)) = true → b.val < 128 := by decide +kernel
def namedB (s : ByteArray) : Bool := decide (s ≠ ⟨#[]⟩) && decide (s.size ≤ 20) && decide (classC (bt s 0) = 2) && (List.range s.size).all fun i => clsB (classC (bt s (i : Int)))
noncomputable def isNameC (s : ByteArray) : Bool := namedB s && (decide (s = lowS s) && !(kwL.any fun x => decide (x = upS s)))
theorem named_ascii {s : ByteArray} (h : ((List.range s.size).all fun i => clsB (classC (bt s (i : Int)))) = true) : asciiB s := by
  intro j b hj
  have hl : j < s.size := by
    have := (List.getElem?_eq_some_iff.1 hj).1
    simpa using this
  have h2 := List.all_eq_true.1 h j (List.mem_range.2 hl)
  have hb : bt s (j : Int) = (b.toNat : Int) := by
    unfold bt
    rw [Int.toNat_natCast, List.getD_eq_getElem?_getD, hj]
    rfl
  rw [hb] at h2
  exact cls_ascii ⟨b.toNat, UInt8.toNat_lt b⟩ h2
theorem lex_IsName (s : ByteArray) (hs : s.size < 2 ^ 62) : ACalls Tryz.prog 169 [.str s] (.bool (isNameC s)) := by
  have kw := fun x => lex_IsKeyword rfl x
  refine acalls_k Tryz.func169 rfl (by kernel_rfl) (congrArg Array.toList Tryz.results169) Tryz.ntmps169 ?_
  intro R hR
  simp only [st0, List.length_cons, List.length_nil, Nat.reduceAdd, Nat.reduceSub, List.replicate_succ, List.replicate_zero, List.cons_append, List.nil_append]
  repeat' (first
      | (with_reducible refine a_seq_k ?_; intro K hK)
      | ((first | with_reducible refine a_region (by kernel_rfl) ?_ | (with_reducible refine a_draw mixed (by kernel_rfl) ?_; intro C hC) | (with_reducible refine a_cond_k ?_; intro X Y hX hY) | with_reducible refine RetOk.mk ?_ | with_reducible refine CallS.intro (lex_class _) ?_ | with_reducible refine CallD.intro (lex_class _) ?_); simp (maxSteps := 10000000) (implicitDefEqProofs := false) only [go_sem,  ↓reduceIte, reduceCtorEq, Nat.reduceAdd, Nat.reduceSub, Nat.reduceLeDiff, Nat.reduceEqDiff, Nat.reduceMul, Nat.reduceLT, Nat.reducePow, Int.reduceEq, Int.reduceLT, Int.reduceLE, Int.reduceGT, Int.reduceGE, Int.reduceAdd, Int.reduceSub, Int.reduceNeg, Int.reduceToNat])
      | with_reducible refine a_block ?_
      | with_reducible refine a_ret ?_
      | with_reducible refine a_exit ?_
      | with_reducible refine a_skip ?_
      | with_reducible exact ConfOk.mk (by kernel_rfl)
      | (with_reducible refine eqT_of (eq33 _ _ _ _ _ _) ?_; simp)
      | (with_reducible refine eqT_of (eq35 _ _ _ _ _ _ _ _) ?_; simp)
      | ((fail_if_success with_reducible show False); with_reducible apply_assumption (exfalso := false) (symm := false) only [*, rfl, trivial, congrArg])
      | with_reducible refine And.intro ?_ ?_
      | (intro h; contradiction)
      | (intro h; subst h)
      | intro h
      | simp (maxSteps := 10000000) (implicitDefEqProofs := false) only [go_sem,  ↓reduceIte, reduceCtorEq, Nat.reduceAdd, Nat.reduceSub, Nat.reduceLeDiff, Nat.reduceEqDiff, Nat.reduceMul, Nat.reduceLT, Nat.reducePow, Int.reduceEq, Int.reduceLT, Int.reduceLE, Int.reduceGT, Int.reduceGE, Int.reduceAdd, Int.reduceSub, Int.reduceNeg, Int.reduceToNat])
  · have : s.size ≠ 0 := by
      intro h0
      have : s = ⟨#[]⟩ := by
        obtain ⟨⟨l⟩⟩ := s
        simp only [ByteArray.size, List.size_toArray, List.length_eq_zero_iff] at h0
        rw [h0]
      contradiction
    omega
  · simp [isNameC, namedB, *]
  · have he : s ≠ ⟨#[]⟩ := by assumption
    have hc0 : classC (bt s 0) = 2 := by assumption
    have h20' : s.size ≤ 20 := by omega
    refine a_loop_k (fun n st => (n ≤ s.size ∧ ∀ j, j < s.size - n → clsB (classC (bt s (j : Int))) = true) ∧ Has st 44 [(0, .str s), (19, .int .i64 s.size), (20, .int .i64 ((s.size - n : Nat) : Int))] []) s.size ⟨⟨Nat.le_refl _, by omega⟩, ⟨rfl, rfl, by simp, by simp⟩⟩ ?_
    rintro n st ⟨⟨h1, h2⟩, hh⟩ K hK'
    refine a_has hh fun τ σ γ => ?_
    rcases n with _ | n
    · rw [Nat.sub_zero] at h2 ⊢
      have hall : ((List.range s.size).all fun i => clsB (classC (bt s (i : Int)))) = true := List.all_eq_true.2 fun j hj => h2 j (List.mem_range.1 hj)
      have ha := named_ascii hall
      have hU := str_ToUpper s h20' ha
      have hL := str_ToLower s h20' ha
      have hN : isNameC s = (decide (s = lowS s) && !(kwL.any fun x => decide (x = upS s))) := by
        unfold isNameC namedB
        rw [hall, decide_eq_true he, decide_eq_true h20', decide_eq_true hc0]
        rfl
      repeat' (first
          | (with_reducible refine a_seq_k ?_; intro K hK)
          | ((first | with_reducible refine a_region (by kernel_rfl) ?_ | (with_reducible refine a_draw mixed (by kernel_rfl) ?_; intro C hC) | (with_reducible refine a_cond_k ?_; intro X Y hX hY) | with_reducible refine RetOk.mk ?_ | with_reducible refine CallS.intro (hU) ?_ | with_reducible refine CallD.intro (hU) ?_ | with_reducible refine CallS.intro (hL) ?_ | with_reducible refine CallD.intro (hL) ?_ | with_reducible refine CallS.intro (kw _) ?_ | with_reducible refine CallD.intro (kw _) ?_); simp (maxSteps := 10000000) (implicitDefEqProofs := false) only [go_sem,  ↓reduceIte, reduceCtorEq, Nat.reduceAdd, Nat.reduceSub, Nat.reduceLeDiff, Nat.reduceEqDiff, Nat.reduceMul, Nat.reduceLT, Nat.reducePow, Int.reduceEq, Int.reduceLT, Int.reduceLE, Int.reduceGT, Int.reduceGE, Int.reduceAdd, Int.reduceSub, Int.reduceNeg, Int.reduceToNat])
          | with_reducible refine a_block ?_
          | with_reducible refine a_ret ?_
          | with_reducible refine a_exit ?_
          | with_reducible refine a_skip ?_
          | with_reducible exact ConfOk.mk (by kernel_rfl)
          | (with_reducible refine eqT_of (eq33 _ _ _ _ _ _) ?_; simp)
          | (with_reducible refine eqT_of (eq35 _ _ _ _ _ _ _ _) ?_; simp)
          | ((fail_if_success with_reducible show False); with_reducible apply_assumption (exfalso := false) (symm := false) only [*, rfl, trivial, congrArg])
          | with_reducible refine And.intro ?_ ?_
          | (intro h; contradiction)
          | (intro h; subst h)
          | intro h
          | simp (maxSteps := 10000000) (implicitDefEqProofs := false) only [go_sem,  ↓reduceIte, reduceCtorEq, Nat.reduceAdd, Nat.reduceSub, Nat.reduceLeDiff, Nat.reduceEqDiff, Nat.reduceMul, Nat.reduceLT, Nat.reducePow, Int.reduceEq, Int.reduceLT, Int.reduceLE, Int.reduceGT, Int.reduceGE, Int.reduceAdd, Int.reduceSub, Int.reduceNeg, Int.reduceToNat])
      all_goals (rw [hN])
      · rw [decide_eq_true (p := s = lowS s) (by assumption), Bool.true_and, Bool.not_not]
      · rw [decide_eq_false (p := s = lowS s) (by assumption)]; rfl
    · have hlt : s.size - (n + 1) < s.size := by omega
      have hw : IntKind.wrap .i64 (((s.size - (n + 1) : Nat) : Int) + 1) = ((s.size - n : Nat) : Int) := by
        rw [wrap_nat _ (by omega)]
        congr 1
        omega
      generalize hq : s.size - (n + 1) = q at *
      have hlt2 : ((q : Int) < (s.size : Int)) = True := by rw [eq_iff_iff, iff_true]; omega
      have fin : ∀ c : Int, classC (bt s (q : Int)) = c → clsB c = true → ∀ j, j < s.size - n → clsB (classC (bt s (j : Int))) = true := by
        intro c e1 e2 j hj
        by_cases hjq : j = q
        · subst hjq; rw [e1]; exact e2
        · exact h2 j (by omega)
      repeat' (first
          | (with_reducible refine a_seq_k ?_; intro K hK)
          | ((first | with_reducible refine a_region (by kernel_rfl) ?_ | (with_reducible refine a_draw mixed (by kernel_rfl) ?_; intro C hC) | (with_reducible refine a_cond_k ?_; intro X Y hX hY) | with_reducible refine RetOk.mk ?_ | with_reducible refine CallS.intro (lex_class _) ?_ | with_reducible refine CallD.intro (lex_class _) ?_); simp (maxSteps := 10000000) (implicitDefEqProofs := false) only [go_sem, hw, hlt2,  ↓reduceIte, reduceCtorEq, Nat.reduceAdd, Nat.reduceSub, Nat.reduceLeDiff, Nat.reduceEqDiff, Nat.reduceMul, Nat.reduceLT, Nat.reducePow, Int.reduceEq, Int.reduceLT, Int.reduceLE, Int.reduceGT, Int.reduceGE, Int.reduceAdd, Int.reduceSub, Int.reduceNeg, Int.reduceToNat])
          | with_reducible refine a_block ?_
          | with_reducible refine a_ret ?_
          | with_reducible refine a_exit ?_
          | with_reducible refine a_skip ?_
          | with_reducible exact ConfOk.mk (by kernel_rfl)
          | (with_reducible refine eqT_of (eq33 _ _ _ _ _ _) ?_; simp)
          | (with_reducible refine eqT_of (eq35 _ _ _ _ _ _ _ _) ?_; simp)
          | ((fail_if_success with_reducible show False); with_reducible apply_assumption (exfalso := false) (symm := false) only [*, rfl, trivial, congrArg])
          | with_reducible refine And.intro ?_ ?_
          | (intro h; contradiction)
          | (intro h; subst h)
          | intro h
          | simp (maxSteps := 10000000) (implicitDefEqProofs := false) only [go_sem, hw, hlt2,  ↓reduceIte, reduceCtorEq, Nat.reduceAdd, Nat.reduceSub, Nat.reduceLeDiff, Nat.reduceEqDiff, Nat.reduceMul, Nat.reduceLT, Nat.reducePow, Int.reduceEq, Int.reduceLT, Int.reduceLE, Int.reduceGT, Int.reduceGE, Int.reduceAdd, Int.reduceSub, Int.reduceNeg, Int.reduceToNat])
      · have : ((List.range s.size).all fun i => clsB (classC (bt s (i : Int)))) = false := by
          rw [List.all_eq_false]
          exact ⟨q, List.mem_range.2 hlt, by simp [clsB, *]⟩
        simp only [isNameC, namedB, this, Bool.and_false, Bool.false_and]
      · exact ⟨⟨n, by omega, ⟨by omega, fin 3 (by assumption) rfl⟩, ⟨rfl, rfl, by simp, by simp⟩⟩⟩
      · exact ⟨⟨n, by omega, ⟨by omega, fin 2 (by assumption) rfl⟩, ⟨rfl, rfl, by simp, by simp⟩⟩⟩
  · simp [isNameC, namedB]; omega
end Go.Proofs.YtleadljchhkiiaaGreatDoor
end
