/- Append, what is read of a view, maps. What is read of a view; maps. One operation on a state of trees, whatever it is; a region without a draw. -/
import Derived.Test.YtoggbjfjmbjegaaGreatDoorAb8
set_option linter.unusedSimpArgs false
set_option linter.unusedVariables false
section
namespace Go.Ab
open Go.RowKit

section
variable {P : Program} {n0 : Nat → Prop} {ext : Nat → Prop} {β : Nat → Nat → Loc} {ok : Nat → Nat → Prop} {st : St} {a : Act} {w w' : World} {own : Nat → Prop}

theorem row_cells {g : Nat} {es : Nat} {els : List (List AV)} {t : Nat} (h : RegOk n0 w own β ok t (.row g es els)) (hn : (β t g).isNil = false) :
    ∃ vs, RepCL w own els.flatten vs ∧ vs.length = els.length * es ∧ ∀ j v, vs[j]? = some v → w.cell? ⟨(β t g).block, j, none⟩ = some v := by
  obtain ⟨_, hes, _, h4⟩ := h
  rcases h4 with ⟨h5, _⟩ | ⟨_, _, c, ty, vs, rest, hh, hcl, hre, _⟩
  · rw [hn] at h5; cases h5
  · refine ⟨vs, hre, by rw [← hre.length, length_flatten_const hes], fun j v hj => ?_⟩
    rw [cell?_heap hh]
    have : c.toList[j]? = some v := by
      rw [hcl, List.getElem?_append_left]
      · exact hj
      · rcases Nat.lt_or_ge j vs.length with hq | hq
        · exact hq
        · rw [List.getElem?_eq_none hq] at hj; cases hj
    simpa using this

theorem add_zero_block (b j : Nat) : (⟨b, 0, none⟩ : Addr).add j = ⟨b, j, none⟩ := by
  unfold Addr.add; split
  · rename_i e; rw [e]
  · simp

theorem srcEls_sound (h : StRel n0 ext β ok st a w) {x : AV} {vx : Value} (hx : RepV w (ownOf ext β st.σ) β ok x vx) {els : List (List AV)} {ks : List Nat} (he : srcEls st.σ x = some (els, ks)) {s : Nat} (hel : ∀ y ∈ els, elOk s y = true) :
    ∃ o m c news, vx = .slice o m c ∧ m = els.length ∧ (∀ w2 : World, w2.heap = w.heap → (Builtin.firstCells s m vx).run P w2 = .ok news.toArray w2) ∧ RepCL w (ownOf ext β st.σ) els.flatten news ∧ news.length = m * s ∧ ∀ u ∈ news, u.oneCell' = true := by
  have hs : ∀ y ∈ els, y.length = s := fun y hy => by have := hel y hy; simp [elOk] at this; exact this.1
  have hone : ∀ news, RepCL w (ownOf ext β st.σ) els.flatten news → ∀ u ∈ news, u.oneCell' = true := by
    intro news hn
    refine leafs_one (w := w) (own := ownOf ext β st.σ) (β := β) (ok := ok) (xs := els.flatten) ?_ hn.toV
    simp only [List.all_flatten, List.all_eq_true]
    intro y hy; have := hel y hy; simp [elOk] at this; simpa using this.2
  unfold srcEls at he
  split at he
  · cases he
    cases hx.slice_open with
    | slice0 => exact ⟨none, 0, 0, [], rfl, rfl, fun _ _ => rfl, .nil, by simp, by simp⟩
    | @slice _ es cap A vs k1 k2 k3 k4 =>
      have hlen : vs.length = els.length * s := by rw [← k2.length, length_flatten_const hs]
      refine ⟨some A, _, cap, vs, rfl, rfl, ?_, k2, hlen, hone _ k2⟩
      intro w2 hw2
      refine run_firstCells_some w2 s _ A _ cap vs hlen (fun j v hj => ?_)
      have h1 : w2.cell? ⟨A.block, A.off + j, none⟩ = some v := by unfold World.cell?; rw [hw2]; exact (k3.2 j v hj).2
      have hsp := k3.1 (by intro e; simp [e] at hj)
      obtain ⟨b, o, sp⟩ := A
      simp only at hsp; subst hsp
      unfold Addr.add; split
      · rename_i e; subst e; simpa using h1
      · exact h1
  · cases he
    have hw := hx.weak
    cases hx.sliceF_open with
    | sliceF0 => exact ⟨none, 0, 0, [], rfl, rfl, fun _ _ => rfl, .nil, by simp, by simp⟩
    | @sliceF _ es A vs k1 k2 k3 =>
      have hlen : vs.length = els.length * s := by rw [← k2.length, length_flatten_const hs]
      refine ⟨some A, _, _, vs, rfl, rfl, ?_, k2, hlen, hone _ k2⟩
      intro w2 hw2
      refine run_firstCells_some w2 s _ A _ _ vs hlen (fun j v hj => ?_)
      have h1 : w2.cell? ⟨A.block, A.off + j, none⟩ = some v := by unfold World.cell?; rw [hw2]; exact (k3.2 j v hj).2
      have hsp := k3.1 (by intro e; simp [e] at hj)
      obtain ⟨b, o, sp⟩ := A
      simp only at hsp; subst hsp
      unfold Addr.add; split
      · rename_i e; subst e; simpa using h1
      · exact h1
  · cases he
    obtain rfl := hx.nils_open
    exact ⟨none, 0, 0, [], rfl, rfl, fun _ _ => rfl, .nil, by simp, by simp⟩
  · rename_i k g
    split at he
    · rename_i es els' hl
      cases he
      obtain ⟨_, rfl⟩ := hx.view_open
      obtain ⟨_, hreg⟩ := h.regs _ _ (lookRow_some hl)
      cases hn : (β k g).isNil with
      | true =>
        obtain ⟨h1, _, _, h4⟩ := hreg
        rcases h4 with ⟨_, e0, hc⟩ | ⟨h5, _⟩
        · subst e0
          refine ⟨none, 0, 0, [], ?_, rfl, ?_, .nil, by simp, by simp⟩
          · simp at h1; rw [h1, hc]; rfl
          · simp at h1; rw [h1]; exact fun _ _ => rfl
        · rw [hn] at h5; cases h5
      | false =>
        obtain ⟨vs, hre, _, hcell⟩ := row_cells hreg hn
        obtain ⟨h1, _⟩ := hreg
        have hlen : vs.length = els.length * s := by rw [← hre.length, length_flatten_const hs]
        refine ⟨some ⟨(β k g).block, 0, none⟩, (β k g).len, (β k g).cap, vs, rfl, h1, ?_, hre, by rw [h1]; exact hlen, hone _ hre⟩
        exact fun w2 hw2 => run_firstCells_some w2 s _ _ _ _ vs (by rw [h1]; exact hlen) (fun j v hj => by
          rw [add_zero_block]
          have : w2.cell? ⟨(β k g).block, j, none⟩ = some v := by unfold World.cell?; rw [hw2]; exact hcell j v hj
          exact this)
    · cases he
  · rename_i k g
    split at he
    · rename_i es els' hl
      cases he
      obtain ⟨_, _, rfl⟩ := hx.viewF_open
      obtain ⟨_, hreg⟩ := h.regs _ _ (lookRow_some hl)
      cases hn : (β k g).isNil with
      | true =>
        obtain ⟨h1, _, _, h4⟩ := hreg
        rcases h4 with ⟨_, e0, hc⟩ | ⟨h5, _⟩
        · subst e0
          refine ⟨none, 0, 0, [], ?_, rfl, ?_, .nil, by simp, by simp⟩
          · simp at h1; rw [h1, hc]; rfl
          · simp at h1; rw [h1]; exact fun _ _ => rfl
        · rw [hn] at h5; cases h5
      | false =>
        obtain ⟨vs, hre, _, hcell⟩ := row_cells hreg hn
        obtain ⟨h1, _⟩ := hreg
        have hlen : vs.length = els.length * s := by rw [← hre.length, length_flatten_const hs]
        refine ⟨some ⟨(β k g).block, 0, none⟩, (β k g).len, (β k g).cap, vs, rfl, h1, ?_, hre, by rw [h1]; exact hlen, hone _ hre⟩
        exact fun w2 hw2 => run_firstCells_some w2 s _ _ _ _ vs (by rw [h1]; exact hlen) (fun j v hj => by
          rw [add_zero_block]
          have : w2.cell? ⟨(β k g).block, j, none⟩ = some v := by unfold World.cell?; rw [hw2]; exact hcell j v hj
          exact this)
    · cases he
  · cases he

theorem run_append_fit {ts tx ty e ex : TypeId} {i : TypeInfo} (ht : P.underlying ts = some (.slice e)) (htx : P.underlying tx = some (.slice ex)) (hi : P.info? e = some i) {o : Option Addr} {m c : Nat} {news : List Value} {g n cap : Nat} {cur : Array Value} {ty' : TypeId}
    (hf : (Builtin.firstCells i.size m (.slice o m c)).run P w = .ok news.toArray w) (hg : w.heap[g]? = some (.cells cur ty' (0, 0))) (h1 : ∀ u ∈ news, u.oneCell' = true) (hroom : n + m ≤ cap) (hfit : n * i.size + news.length ≤ cur.size) :
    (Builtin.append_ #[ts, tx] ty #[.slice (some ⟨g, 0, none⟩) n cap, .slice o m c]).run P w = .ok (.slice (some ⟨g, 0, none⟩) (n + m) cap) (w.setRow g (cur.toList.take (n * i.size) ++ news ++ cur.toList.drop (n * i.size + news.length)).toArray) := by
  have hst := run_storeCells_at P g (n * i.size) ty' news 0 cur w hg (by simpa using hfit) h1
  simp only [Nat.add_zero] at hst
  simp [Builtin.append_, run_underlying ht, run_underlying htx, sizeOf, typeInfo, hi, Builtin.lenOf, hroom, hf, add_zero_block, hst]
theorem run_append_none {ts tx ty e ex : TypeId} {i : TypeInfo} (ht : P.underlying ts = some (.slice e)) (htx : P.underlying tx = some (.slice ex)) (hi : P.info? e = some i) {o : Option Addr} {c : Nat}
    (hf : (Builtin.firstCells i.size 0 (.slice o 0 c)).run P w = .ok #[] w) :
    (Builtin.append_ #[ts, tx] ty #[.slice none 0 0, .slice o 0 c]).run P w = .ok (.slice none 0 0) w := by
  simp [Builtin.append_, run_underlying ht, run_underlying htx, sizeOf, typeInfo, hi, Builtin.lenOf, hf]
theorem run_append_grow {ts tx ty e ex : TypeId} {i : TypeInfo} {z : Value} (ht : P.underlying ts = some (.slice e)) (htx : P.underlying tx = some (.slice ex)) (hi : P.info? e = some i) (hz : i.zero = some z) {o : Option Addr} {m c : Nat} {olds news : List Value} {base : Option Addr} {n cap : Nat}
    (hf0 : (Builtin.firstCells i.size n (.slice base n cap)).run P w.drew = .ok olds.toArray w.drew) (hf : (Builtin.firstCells i.size m (.slice o m c)).run P w.drew = .ok news.toArray w.drew) (hroom : cap < n + m)
    (hb : (n + m) * i.bytes ≤ 70368744177664) (hm : n + m ≤ 70368744177664) :
    (Builtin.append_ #[ts, tx] ty #[.slice base n cap, .slice o m c]).run P w =
      .ok (.slice (some ⟨w.heap.size, 0, none⟩) (n + m) (grownCap w (n + m) cap e)) (w.drew.alloc (.cells (olds.toArray ++ news.toArray ++ Builtin.zeroCells z.cells (grownCap w (n + m) cap e - (n + m))) e)) := by
  have hb' : (n + m) * i.bytes ≤ 70368744177664 := hb
  have hm' : n + m ≤ 70368744177664 := hm
  have h1 : ¬ (n + m ≤ cap) := by omega
  have h63' : ¬ (9223372036854775807 < ((n : Int) + (m : Int))) := by omega
  have h48' : ¬ (281474976710656 < Builtin.nextslicecap (n + m) cap * i.bytes) := by
    have := Nat.mul_le_mul_right i.bytes (nextslicecap_le hroom)
    have e : 2 * (n + m) * i.bytes = 2 * ((n + m) * i.bytes) := by rw [Nat.mul_assoc]
    omega
  clear hb hm hb' hm'
  simp [Builtin.append_, run_underlying ht, run_underlying htx, sizeOf, typeInfo, zeroValue, hi, hz, Builtin.lenOf, h1, h63', h48', Question.forced, hf0, hf, newRow, grownCap]
  congr 2
  apply Array.toList_inj.mp; simp

theorem StRel.drew (h : StRel n0 ext β ok st a w) : StRel n0 ext β ok st a w.drew := by
  have hg : Grows w w.drew (ownOf ext β st.σ) (ownOf ext β st.σ) := fun _ _ _ h1 h2 => ⟨h1, h2⟩
  exact ⟨h.temps.mono hg (fun _ _ x => x) (fun _ _ _ => rfl), fun t r hr => let ⟨h1, h2⟩ := h.regs t r hr; ⟨h1, h2.mono (fun _ _ _ => rfl) h1 (fun _ _ x => x) hg (fun _ => rfl)⟩, h.dist, h.extlt, h.n0le, h.defers, h.glob.mono hg⟩
theorem Laid.drew {dst : Option Tmp} {r : Res} {run : Result Value} (h : Laid n0 ext β ok st dst r a w.drew run) : Laid n0 ext β ok st dst r a w run := by
  obtain ⟨v, w', β', ok', h1, h2, h3, h4⟩ := h
  exact ⟨v, w', β', ok', h1, h2, ⟨h3.os, h3.tape, h3.output, h3.size, h3.block⟩, h4⟩

theorem laid_nil (h : StRel n0 ext β ok st a w) {d : Nat} (hf : ¬ ok d st.gen) {es : Nat} {reads : List Nat} {run : Result Value} {upd : List (Nat × Option Reg)}
    (hσ : ∀ t r', (applyUpd st.σ upd)[t]? = some (some r') → (t = d ∧ r' = .row st.gen es []) ∨ (t ≠ d ∧ st.σ[t]? = some (some r')))
    (hrun : run = .ok (.slice none 0 0) w) : Laid n0 ext β ok st (some d) ⟨.view d st.gen, upd, reads⟩ a w run := by
  have L : Lays n0 β ok st w w d (.row st.gen es []) (applyUpd st.σ upd) ⟨0, 0, 0, true⟩ := ⟨hf, rfl, hσ, Nat.le_refl _, fun _ _ _ => rfl, fun e => by cases e⟩
  have R := L.rel h (by simp only [RegOk, layβ_new]; exact ⟨rfl, by simp, by simp, .inl ⟨trivial, trivial, trivial⟩⟩)
  refine ⟨.slice none 0 0, w, layβ β d st.gen ⟨0, 0, 0, true⟩, layok ok d st.gen, hrun, ?_, Bel.refl _ _, ?_, exts_lay hf⟩
  · have hv := RepV.view (w := w) (own := ownOf ext (layβ β d st.gen ⟨0, 0, 0, true⟩) (applyUpd st.σ upd)) (β := layβ β d st.gen ⟨0, 0, 0, true⟩) (ok := layok ok d st.gen) (t := d) (g := st.gen) (.inr ⟨rfl, rfl⟩)
    rw [layβ_new] at hv
    have := R.still (some d) (x := .view d st.gen) hv
    exact this
  · rintro t g (hk | ⟨rfl, rfl⟩)
    · exact .inl hk
    · exact .inr ⟨rfl, rfl⟩

theorem set2_sto {σ : Sto} {k d : Nat} {r : Reg} : ∀ t r', (applyUpd σ [(k, none), (d, some r)])[t]? = some (some r') → (t = d ∧ r' = r) ∨ (t ≠ d ∧ σ[t]? = some (some r')) := by
  intro t r' h
  rcases set_sto t r' h with h | ⟨h1, h2⟩
  · exact .inl h
  · refine .inr ⟨h1, ?_⟩
    simp only [List.getElem?_set] at h2
    split at h2
    · split at h2
      · simp at h2
      · cases h2
    · exact h2

theorem grow_laid (h : StRel n0 ext β ok st a w) {d : Nat} (hf : ¬ ok d st.gen) {e : TypeId} {i : TypeInfo} {zv : Value} (hzs : zv.cells.size = i.size) {els els2 : List (List AV)} {olds news : List Value} {cap : Nat} (ho : RepCL w (ownOf ext β st.σ) els.flatten olds) (hn : RepCL w (ownOf ext β st.σ) els2.flatten news)
    (hes : ∀ x ∈ els, x.length = i.size) (hes2 : ∀ x ∈ els2, x.length = i.size) {reads : List Nat} {run : Result Value} {upd : List (Nat × Option Reg)}
    (hσ : ∀ t r', (applyUpd st.σ upd)[t]? = some (some r') → (t = d ∧ r' = .row st.gen i.size (els ++ els2)) ∨ (t ≠ d ∧ st.σ[t]? = some (some r')))
    (hrun : run = .ok (.slice (some ⟨w.heap.size, 0, none⟩) (els.length + els2.length) (grownCap w (els.length + els2.length) cap e)) (w.drew.alloc (.cells (olds.toArray ++ news.toArray ++ Builtin.zeroCells zv.cells (grownCap w (els.length + els2.length) cap e - (els.length + els2.length))) e))) :
    Laid n0 ext β ok st (some d) ⟨.view d st.gen, upd, reads⟩ a w run := by
  have hg : Grows w w.drew (ownOf ext β st.σ) (ownOf ext β st.σ) := fun _ _ _ h1 h2 => ⟨h1, h2⟩
  have hcap := grownCap_ge w (els.length + els2.length) cap e
  have hes' : ∀ x ∈ els ++ els2, x.length = i.size := fun x hx => (List.mem_append.mp hx).elim (hes x) (hes2 x)
  have l1 := ho.length; have l2 := hn.length
  rw [length_flatten_const hes] at l1; rw [length_flatten_const hes2] at l2
  refine Laid.drew (laid_row' (e := e) h.drew hf (els := els ++ els2) (vs := olds ++ news) (rest := (Builtin.zeroCells zv.cells (grownCap w (els.length + els2.length) cap e - (els.length + els2.length))).toList) (c := olds.toArray ++ news.toArray ++ Builtin.zeroCells zv.cells (grownCap w (els.length + els2.length) cap e - (els.length + els2.length))) (cap := grownCap w (els.length + els2.length) cap e) (by simp) ?_ hes' (by simpa using hcap) ?_ hσ ?_)
  · rw [List.flatten_append]; exact (ho.append hn).mono hg
  · simp only [Array.size_append, List.size_toArray, size_zeroCells, hzs, ← l1, ← l2, ← Nat.add_mul]
    exact Nat.mul_le_mul_right _ (by omega)
  · rw [hrun, List.length_append]; rfl

theorem appendM_sound (h : StRel n0 ext β ok st a w) {d : Nat} (hf : ¬ ok d st.gen) {ts tx ty e ex : TypeId} {s x : AV} {vs vx : Value} {pre : Prop} {r : Res} (hts : (ti P ts).d = .slice e) (htx : (ti P tx).d = .slice ex)
    (hs : RepV w (ownOf ext β st.σ) β ok s vs) (hx : RepV w (ownOf ext β st.σ) β ok x vx) (he : appendM P st.σ st.gen d e s x = some (pre, r)) (hpre : pre) :
    Laid n0 ext β ok st (some d) r a w ((Builtin.append_ #[ts, tx] ty #[vs, vx]).run P w) := by
  unfold appendM at he
  split at he
  · rename_i els2 ks hsrc
    split at he
    · rename_i hk
      simp only [Option.some.injEq, Prod.mk.injEq] at he; obtain ⟨rfl, rfl⟩ := he
      obtain ⟨hk, hz0⟩ := hk
      obtain ⟨h1, h2, h3⟩ := hpre
      obtain ⟨i, dd, hi, hsz, hb, _, _, hzero⟩ := okSize_info hk
      obtain ⟨z, hz⟩ : ∃ z, (ti P e).zero = some z := by cases hq : (ti P e).zero with | none => rw [hq] at hz0; cases hz0 | some z => exact ⟨z, rfl⟩
      rw [hz] at hz0
      obtain ⟨zv, hzv, rfl⟩ := ti_zero hz hzero
      have hzs : zv.cells.size = i.size := by simp at hz0; omega
      rw [← hsz] at h1 ⊢; rw [← hb] at h2
      obtain rfl := hs.nils_open
      obtain ⟨o, m, c, news, rfl, rfl, hf1, hre, hl, hone⟩ := srcEls_sound (P := P) h hx hsrc h1
      have hes2 : ∀ y ∈ els2, y.length = i.size := fun y hy => by have := h1 y hy; simp [elOk] at this; exact this.1
      by_cases hm : els2.length = 0
      · have : els2 = [] := List.length_eq_zero_iff.mp hm
        subst this
        have hn0 : news = [] := List.length_eq_zero_iff.mp (by simpa using hl)
        subst hn0
        exact laid_nil h hf set1_sto (run_append_none (ti_slice hts) (ti_slice htx) hi (hf1 w rfl))
      · have hdummy : True := trivial
        have hrun := run_append_grow (ty := ty) (base := none) (n := 0) (cap := 0) (olds := []) (ti_slice hts) (ti_slice htx) hi hzv (by rfl) (hf1 w.drew rfl) (by omega) (by simpa using h2) (by simpa using h3)
        have := grow_laid (e := e) (els := []) (els2 := els2) (cap := 0) (reads := ks) h hf hzs .nil hre (by simp) hes2 (upd := [(d, some (.row st.gen i.size els2))]) set1_sto (by simpa using hrun)
        exact this
    · cases he
  · rename_i els2 ks k g hsrc
    split at he
    · rename_i es els hlk
      split at he
      · rename_i hk
        simp only [Option.some.injEq, Prod.mk.injEq] at he; obtain ⟨rfl, rfl⟩ := he
        obtain ⟨hes0, hk, hz0⟩ := hk
        obtain ⟨h1, h2, h3⟩ := hpre
        obtain ⟨i, dd, hi, hsz, hb, _, _, hzero⟩ := okSize_info hk
        obtain ⟨z, hz⟩ : ∃ z, (ti P e).zero = some z := by cases hq : (ti P e).zero with | none => rw [hq] at hz0; cases hz0 | some z => exact ⟨z, rfl⟩
        rw [hz] at hz0
        obtain ⟨zv, hzv, rfl⟩ := ti_zero hz hzero
        have hzs : zv.cells.size = i.size := by simp at hz0; omega
        rw [← hsz] at h1 hes0; rw [← hb] at h2
        subst hes0
        obtain ⟨hokk, rfl⟩ := hs.view_open
        have hb0 := lookRow_some hlk
        obtain ⟨_, hreg⟩ := h.regs _ _ hb0
        obtain ⟨o, m, c, news, rfl, rfl, hf1, hre, hl, hone⟩ := srcEls_sound (P := P) h hx hsrc h1
        have hes2 : ∀ y ∈ els2, y.length = i.size := fun y hy => by have := h1 y hy; simp [elOk] at this; exact this.1
        cases hn : (β k g).isNil with
        | true =>
          obtain ⟨hlen, hes, _, h4⟩ := hreg
          rcases h4 with ⟨_, e0, hc⟩ | ⟨h5, _⟩
          · subst e0
            simp at hlen
            rw [hlen, hc]
            simp only [if_true]
            by_cases hm : els2.length = 0
            · have : els2 = [] := List.length_eq_zero_iff.mp hm
              subst this
              have hn0 : news = [] := List.length_eq_zero_iff.mp (by simpa using hl)
              subst hn0
              exact laid_nil h hf set2_sto (run_append_none (ti_slice hts) (ti_slice htx) hi (hf1 w rfl))
            · have hrun := run_append_grow (ty := ty) (base := none) (n := 0) (cap := 0) (olds := []) (ti_slice hts) (ti_slice htx) hi hzv (by rfl) (hf1 w.drew rfl) (by omega) (by simpa using h2) (by simpa using h3)
              exact grow_laid (e := e) (els := []) (els2 := els2) (cap := 0) h hf hzs .nil hre (by simp) hes2 set2_sto (by simpa using hrun)
          · rw [hn] at h5; cases h5
        | false =>
          obtain ⟨hlen, hes, hcap, h4⟩ := hreg
          rcases h4 with ⟨h5, _⟩ | ⟨_, hn0, cur, ty', ovs, rest, hh, hcl, hore, hcsz⟩
          · rw [hn] at h5; cases h5
          · have hol : ovs.length = els.length * i.size := by rw [← hore.length, length_flatten_const hes]
            simp only [Bool.false_eq_true, if_false, hlen]
            by_cases hroom : els.length + els2.length ≤ (β k g).cap
            · have hcurl : cur.toList.length = cur.size := by simp
              have hfit : els.length * i.size + news.length ≤ cur.size := by
                rw [hl, ← Nat.add_mul]; exact Nat.le_trans (Nat.mul_le_mul_right _ hroom) hcsz
              have hrun := run_append_fit (ty := ty) (ti_slice hts) (ti_slice htx) hi (hf1 w rfl) hh hone hroom hfit
              have htk : cur.toList.take (els.length * i.size) = ovs := by rw [hcl, ← hol, List.take_left']; rfl
              rw [htk] at hrun
              have L : Lays n0 β ok st w (w.setRow (β k g).block (ovs ++ news ++ cur.toList.drop (els.length * i.size + news.length)).toArray) d (.row st.gen i.size (els ++ els2)) (applyUpd st.σ [(k, none), (d, some (.row st.gen i.size (els ++ els2)))]) ⟨(β k g).block, (β k g).cap, els.length + els2.length, false⟩ := by
                refine ⟨hf, rfl, set2_sto, by simp [World.setRow], fun b _ hb => setRow_other _ _ _ _ (hb.resolve_left (by simp)), fun _ => ⟨hn0, .inr ⟨k, _, hb0, hn, rfl, ?_⟩⟩⟩
                by_cases hkd : k = d
                · exact .inl hkd
                · refine .inr fun r' hr' => ?_
                  have hlt : k < st.σ.length := by
                    rcases Nat.lt_or_ge k st.σ.length with hq | hq
                    · exact hq
                    · rw [List.getElem?_eq_none hq] at hb0; cases hb0
                  simp only [applyUpd, List.foldl_cons, List.foldl_nil] at hr'
                  rw [List.getElem?_set_ne (fun e => hkd e.symm), List.getElem?_set_self hlt] at hr'
                  cases hr'
              have R := L.rel h (by
                have hg := L.grows h
                simp only [RegOk, layβ_new]
                refine ⟨by simp, ?_, by simpa using hroom, .inr ⟨trivial, hn0, _, ty', ovs ++ news, cur.toList.drop (els.length * i.size + news.length), setRow_heap _ _ _ _ _ _ hh, by simp, ?_, ?_⟩⟩
                · exact fun x hx => (List.mem_append.mp hx).elim (hes x) (hes2 x)
                · rw [List.flatten_append]; exact (hore.append hre).mono hg
                · simp only [List.size_toArray, List.length_append, List.length_drop, hcurl]; omega)
              refine ⟨.slice (some ⟨(β k g).block, 0, none⟩) (els.length + els2.length) (β k g).cap, _, layβ β d st.gen ⟨(β k g).block, (β k g).cap, els.length + els2.length, false⟩, layok ok d st.gen, hrun, ?_, below_setRow hn0 _, ?_, exts_lay hf⟩
              · have hv := RepV.view (w := w.setRow (β k g).block (ovs ++ news ++ cur.toList.drop (els.length * i.size + news.length)).toArray) (own := ownOf ext (layβ β d st.gen ⟨(β k g).block, (β k g).cap, els.length + els2.length, false⟩) (applyUpd st.σ [(k, none), (d, some (.row st.gen i.size (els ++ els2)))])) (β := layβ β d st.gen ⟨(β k g).block, (β k g).cap, els.length + els2.length, false⟩) (ok := layok ok d st.gen) (t := d) (g := st.gen) (.inr ⟨rfl, rfl⟩)
                rw [layβ_new] at hv
                have := R.still (some d) (x := .view d st.gen) hv
                exact this
              · rintro t g (hk | ⟨rfl, rfl⟩)
                · exact .inl hk
                · exact .inr ⟨rfl, rfl⟩
            · have hf0 := run_firstCells_some (P := P) w.drew i.size els.length ⟨(β k g).block, 0, none⟩ els.length (β k g).cap ovs hol (fun j v hj => by
                rw [add_zero_block]
                have : w.cell? ⟨(β k g).block, j, none⟩ = some v := by
                  rw [cell?_heap hh]
                  have : cur.toList[j]? = some v := by
                    rw [hcl, List.getElem?_append_left]
                    · exact hj
                    · rcases Nat.lt_or_ge j ovs.length with hq | hq
                      · exact hq
                      · rw [List.getElem?_eq_none hq] at hj; cases hj
                  simpa using this
                exact this)
              have hrun := run_append_grow (ty := ty) (ti_slice hts) (ti_slice htx) hi hzv hf0 (hf1 w.drew rfl) (by omega) h2 h3
              exact grow_laid (e := e) h hf hzs hore hre hes hes2 set2_sto hrun
      · cases he
    · cases he
  · rename_i els2 ks els hsrc
    split at he
    · rename_i hk
      simp only [Option.some.injEq, Prod.mk.injEq] at he; obtain ⟨rfl, rfl⟩ := he
      obtain ⟨hk, hz0⟩ := hk
      obtain ⟨hne, h0, h1, h2, h3⟩ := hpre
      obtain ⟨i, dd, hi, hsz, hb, _, _, hzero⟩ := okSize_info hk
      obtain ⟨z, hz⟩ : ∃ z, (ti P e).zero = some z := by cases hq : (ti P e).zero with | none => rw [hq] at hz0; cases hz0 | some z => exact ⟨z, rfl⟩
      rw [hz] at hz0
      obtain ⟨zv, hzv, rfl⟩ := ti_zero hz hzero
      have hzs : zv.cells.size = i.size := by simp at hz0; omega
      rw [← hsz] at h0 h1 ⊢; rw [← hb] at h2
      obtain ⟨bo, bm, bc, olds, rfl, rfl, hf0, hore, hol, _⟩ := srcEls_sound (P := P) (ks := []) h hs rfl h0
      obtain ⟨bo', hbc⟩ := hs.sliceF_open' rfl
      cases hbc
      obtain ⟨o, m, c, news, rfl, rfl, hf1, hre, hl, hone⟩ := srcEls_sound (P := P) h hx hsrc h1
      have hes : ∀ y ∈ els, y.length = i.size := fun y hy => by have := h0 y hy; simp [elOk] at this; exact this.1
      have hes2 : ∀ y ∈ els2, y.length = i.size := fun y hy => by have := h1 y hy; simp [elOk] at this; exact this.1
      have hpos : 0 < els2.length := List.length_pos_iff.mpr hne
      have hrun := run_append_grow (ty := ty) (ti_slice hts) (ti_slice htx) hi hzv (hf0 w.drew rfl) (hf1 w.drew rfl) (by omega) h2 h3
      exact grow_laid (e := e) h hf hzs hore hre hes hes2 set1_sto hrun
    · cases he
  · cases he
end
end Go.Ab
end

section
set_option linter.unusedSimpArgs false
set_option linter.unusedVariables false
namespace Go.Ab
open Go.RowKit

section
variable {P : Program} {n0 : Nat → Prop} {ext : Nat → Prop} {β : Nat → Nat → Loc} {ok : Nat → Nat → Prop} {st : St} {a : Act} {w w' : World} {own : Nat → Prop}

theorem viewLen_sound (h : StRel n0 ext β ok st a w) {t ty e : TypeId} {k g es : Nat} {els : List (List AV)} {vx : Value} (ht : (ti P t).d = .slice e) (hx : RepV w (ownOf ext β st.σ) β ok (.view k g) vx) (hl : lookRow st.σ k g = some (es, els)) :
    (Builtin.len_ #[t] ty #[vx]).run P w = .ok (.int .i64 els.length) w := by
  obtain ⟨_, rfl⟩ := hx.view_open
  obtain ⟨_, hreg⟩ := h.regs _ _ (lookRow_some hl)
  obtain ⟨h1, _⟩ := hreg
  simp [Builtin.len_, run_underlying (ti_slice ht), goInt, h1]

theorem viewIndex_sound (h : StRel n0 ext β ok st a w) {t e : TypeId} {k g es : Nat} {els : List (List AV)} {vx vi : Value} {ki : IntKind} {n : Int} (ht : (ti P t).d = .slice e) (hx : RepV w (ownOf ext β st.σ) β ok (.view k g) vx) (hi : vi = .int ki n) (hl : lookRow st.σ k g = some (es, els))
    (he : es = (ti P e).size) (hk : okSize P e = true) (h0 : 0 ≤ n) (h1 : n < els.length) :
    ∃ v, (Instr.indexAt t vx vi).run P w = .ok v w ∧ RepV w (ownOf ext β st.σ) β ok (.rptr k g es n.toNat 0) v := by
  subst hi
  obtain ⟨hok, rfl⟩ := hx.view_open
  obtain ⟨_, hreg⟩ := h.regs _ _ (lookRow_some hl)
  obtain ⟨i, d, hinf, hs, _⟩ := okSize_info hk
  obtain ⟨hlen, _, _, h4⟩ := hreg
  cases hn : (β k g).isNil with
  | true =>
    rcases h4 with ⟨_, e0, _⟩ | ⟨h5, _⟩
    · subst e0; simp at h1; omega
    · rw [hn] at h5; cases h5
  | false =>
    refine ⟨_, ?_, .rptr hok⟩
    simp only [Instr.indexAt, asIntOf, Sem.run_bind, Sem.run_pure, Result.andThen_ok, run_underlying (ti_slice ht), Bool.false_eq_true, if_false]
    rw [if_pos ⟨h0, by rw [hlen]; exact h1⟩]
    simp only [Sem.run_bind, run_sizeOf hinf, Result.andThen_ok, hs, Sem.run_pure, he, add_zero_block, Nat.add_zero]

/-! Maps. -/
theorem makeMap_sound (h : StRel n0 ext β ok st a w) {d : Nat} (hf : ¬ ok d st.gen) {t kt e : TypeId} {r : Option Value} (ht : (ti P t).d = .map kt e) (hr : r = none ∨ ∃ k n, r = some (.int k n)) :
    Laid n0 ext β ok st (some d) ⟨.mref d st.gen, [(d, some (.mapr st.gen []))], []⟩ a w ((Instr.makeMap t r).run P w) := by
  refine laid_new (o := .map #[] 0) (loc := ⟨w.heap.size, 0, 0, false⟩) h hf rfl rfl (fun own' hg => ?_) (v := .map (some w.heap.size)) (fun own' => ?_) ?_
  · simp only [RegOk, layβ_new]
    exact ⟨trivial, h.n0le _ (Nat.le_refl _), #[], 0, by simp, .nil⟩
  · have := RepV.mref (w := { w with heap := w.heap.push (.map #[] 0) }) (own := own') (β := layβ β d st.gen ⟨w.heap.size, 0, 0, false⟩) (ok := layok ok d st.gen) (t := d) (g := st.gen) (.inr ⟨rfl, rfl⟩)
    rw [layβ_new] at this; exact this
  · rcases hr with rfl | ⟨k, n, rfl⟩
    · simp [Instr.makeMap, newObj, Sem.run]
    · simp [Instr.makeMap, newObj, Sem.run, run_underlying (ti_map ht), asInt, asIntOf]

theorem checkKey_int {b : Bool} {n : Nat} {kt : TypeId} {k : IntKind} {v : Value} (h : P.underlying kt = some (.int k)) : (Instr.checkKey b (n + 1) kt v).run P w = .ok () w := by
  simp only [Instr.checkKey, Sem.run_bind, run_underlying h, Result.andThen_ok]
  cases v <;> rfl

theorem leafEq_int {kk : IntKind} {n : Int} {x : AV} {b : Bool} (h : leafEq (.int kk n) x = some b) : ∃ m, x = .int kk m ∧ b = decide (n = m) := by
  cases x <;> simp [leafEq] at h
  obtain ⟨rfl, rfl⟩ := h
  exact ⟨_, rfl, rfl⟩

theorem run_getObj {r : Nat} {es : Array MapEntry} {c : Nat} (h : w.heap[r]? = some (.map es c)) : (getObj r).run P w = .ok (.map es c) w := by simp [getObj, Sem.run, h]
theorem run_setObj {r : Nat} {es : Array MapEntry} {c : Nat} {o : Obj} (h : w.heap[r]? = some (.map es c)) : (setObj r o).run P w = .ok () { w with heap := w.heap.setIfInBounds r o } := by simp [setObj, Sem.run, h]
theorem run_zero {e : TypeId} {i : TypeInfo} {z : Value} (h : P.info? e = some i) (hz : i.zero = some z) : (zeroValue e).run P w = .ok z w := by simp [zeroValue, typeInfo, h, hz]

structure KeyOk (P : Program) (kt : TypeId) (kd : TypeDesc) (ka : AV) (vk : Value) : Prop where
  und : P.underlying kt = some kd
  chk : ∀ (q : Bool) (w : World), (Instr.checkKey q 10000 kt vk).run P w = .ok () w
  same : ∀ {w : World} {own : Nat → Prop} {x : AV} {v : Value} {b : Bool}, RepC w own x v → leafEq ka x = some b → Instr.sameNow kd vk v = some b
  rep : ∀ (w : World) (own : Nat → Prop), RepC w own ka vk
theorem keyOk_int {kt : TypeId} {kd kk : IntKind} {n : Int} (h : (ti P kt).d = .int kd) : KeyOk P kt (.int kd) (.int kk n) (.int kk n) where
  und := ti_int h
  chk := fun _ _ => checkKey_int (ti_int h)
  same := by
    intro w own x v b hx he
    obtain ⟨m, rfl, rfl⟩ := leafEq_int he
    have := (RepV.closed (β := fun _ _ => default) (ok := fun _ _ => False) hx).int_open
    subst this
    by_cases e : n = m
    · subst e; simp [Instr.sameNow]
    · simp [Instr.sameNow, e]
  rep := fun _ _ => .int _ _
theorem checkKey_str {b : Bool} {n : Nat} {kt : TypeId} {v : Value} (h : P.underlying kt = some .string) : (Instr.checkKey b (n + 1) kt v).run P w = .ok () w := by
  simp only [Instr.checkKey, Sem.run_bind, run_underlying h, Result.andThen_ok]
  cases v <;> rfl
theorem ba_beq (a b : ByteArray) : (a == b) = decide (a = b) := by
  cases a with | mk x => cases b with | mk y =>
  show (x == y) = _
  by_cases e : x = y
  · subst e; simp
  · have : ¬ (ByteArray.mk x = ByteArray.mk y) := fun h => e (by injection h)
    simp [e, this]
theorem keyOk_str {kt : TypeId} {s : ByteArray} (h : (ti P kt).d = .str) : KeyOk P kt .string (.str s) (.string s) where
  und := ti_str h
  chk := fun _ _ => checkKey_str (ti_str h)
  same := by
    intro w own x v b hx he
    cases x <;> simp [leafEq] at he
    subst he
    have := (RepV.closed (β := fun _ _ => default) (ok := fun _ _ => False) hx).str_open
    subst this
    simp only [Instr.sameNow, Option.some.injEq]
    rename_i s'
    by_cases e : s = s'
    · subst e; simp [ba_beq]
    · simp [ba_beq, e]
  rep := fun _ _ => .str _

theorem find_none {kt : TypeId} {kd : TypeDesc} {ka : AV} {vk : Value} (hk0 : KeyOk P kt kd ka vk) : ∀ {ents : List (AV × AV)} {es : List MapEntry} {i : Nat}, Both (fun (a : AV × AV) (b : MapEntry) => RepC w own a.1 b.key ∧ RepC w own a.2 b.val) ents es → (∀ e ∈ ents, leafEq ka e.1 = some false) →
    Instr.findNow kd vk es i = some none
  | [], _, _, h, _ => by cases h; rfl
  | e :: ents, _, i, h, hk => by
    cases h with
    | @cons _ b _ bs hab hrest =>
      simp only [Instr.findNow, hk0.same hab.1 (hk e (by simp))]
      exact find_none hk0 hrest (fun x hx => hk x (by simp [hx]))

theorem find_some {kt : TypeId} {kd : TypeDesc} {ka : AV} {vk : Value} (hk0 : KeyOk P kt kd ka vk) {z : AV} {zv : Value} (hz : RepC w own z zv) : ∀ {ents : List (AV × AV)} {es : List MapEntry} {i : Nat} {v : AV} {f : Bool}, Both (fun (a : AV × AV) (b : MapEntry) => RepC w own a.1 b.key ∧ RepC w own a.2 b.val) ents es → lookupA ka z ents = some (v, f) →
    ∃ r, Instr.findNow kd vk es i = some r ∧ f = r.isSome ∧ RepV w own β ok v (match r with | some (_, u) => u | none => zv)
  | [], _, _, v, f, h, hl => by
    cases h
    simp only [lookupA, Option.some.injEq, Prod.mk.injEq] at hl
    obtain ⟨rfl, rfl⟩ := hl
    exact ⟨none, rfl, rfl, .closed hz⟩
  | (k0, v0) :: ents, _, i, v, f, h, hl => by
    cases h with
    | @cons _ b _ bs hab hrest =>
      simp only [lookupA] at hl
      split at hl
      · rename_i q v' f' hq hr
        simp only [Option.some.injEq, Prod.mk.injEq] at hl
        obtain ⟨rfl, rfl⟩ := hl
        have hs := hk0.same hab.1 hq
        obtain ⟨r, h1, h2, h3⟩ := find_some hk0 hz (i := i + 1) hrest hr
        have hp := pickV_sound (t := q) (RepV.closed (β := β) (ok := ok) hab.2) h3
        cases q with
        | true =>
          refine ⟨some (i, b.val), ?_, by simp, ?_⟩
          · simp only [Instr.findNow, hs]
          · simp only [if_true] at hp ⊢; exact hp
        | false =>
          refine ⟨r, ?_, by rw [h2]; simp, ?_⟩
          · simp only [Instr.findNow, hs, h1]
          · simp only [Bool.false_eq_true, if_false] at hp ⊢; exact hp
      · cases hl

theorem insert_sound (h : StRel n0 ext β ok st a w) {t kt e : TypeId} {kd : TypeDesc} {ka : AV} {key g : Nat} {ents : List (AV × AV)} {m x : AV} {vm vk vx : Value} (ht : (ti P t).d = .map kt e) (hk0 : KeyOk P kt kd ka vk)
    (hm : RepV w (ownOf ext β st.σ) β ok (.mref key g) vm) (hx : RepV w (ownOf ext β st.σ) β ok x vx) (hl : lookMap st.σ key g = some ents) (hc : closedB x = true) (hne : ∀ e ∈ ents, leafEq ka e.1 = some false) :
    Stored n0 ext β ok st ⟨.any, [(key, some (.mapr g (ents ++ [(ka, x)])))], [key]⟩ a w ((Instr.mapUpdate t vm vk vx).run P w) := by
  obtain ⟨_, rfl⟩ := hm.mref_open
  have hb := lookMap_some hl
  obtain ⟨_, hreg⟩ := h.regs _ _ hb
  obtain ⟨hn, hn0, es, clock, hh, hboth⟩ := hreg
  have hf := find_none hk0 (i := 0) hboth hne
  have hlt := heap_lt hh
  refine ⟨{ w with heap := w.heap.setIfInBounds (β key g).block (.map (es.push { key := vk, val := vx, born := clock }) (clock + 1)) }, ?_, ?_, ⟨rfl, rfl, rfl, by simp, fun b hb => by rw [Array.getElem?_setIfInBounds_ne (by rintro rfl; exact hb hn0)]⟩, rfl⟩
  · simp only [Instr.mapUpdate, Sem.run_bind, run_underlying (ti_map ht), Result.andThen_ok, run_getObj hh, hk0.chk, Instr.findKey, run_underlying hk0.und, hf, Sem.run_pure, run_setObj hh]
  · refine h.inplace hb rfl hn (by simp) (fun b hb => by exact Array.getElem?_setIfInBounds_ne (fun e => hb e.symm)) (fun own' hg => ?_)
    refine ⟨hn, hn0, es.push { key := vk, val := vx, born := clock }, clock + 1, by simp [hlt], ?_⟩
    have hxc := closed_rep hc hx
    simp only [Array.toList_push]
    clear hf hh hb
    have app : ∀ {l : List (AV × AV)} {k : List MapEntry}, Both (fun (a : AV × AV) (b : MapEntry) => RepC w (ownOf ext β st.σ) a.1 b.key ∧ RepC w (ownOf ext β st.σ) a.2 b.val) l k →
        Both (fun (a : AV × AV) (b : MapEntry) => RepC { w with heap := w.heap.setIfInBounds (β key g).block (.map (es.push { key := vk, val := vx, born := clock }) (clock + 1)) } own' a.1 b.key ∧ RepC { w with heap := w.heap.setIfInBounds (β key g).block (.map (es.push { key := vk, val := vx, born := clock }) (clock + 1)) } own' a.2 b.val) (l ++ [(ka, x)]) (k ++ [{ key := vk, val := vx, born := clock }]) := by
      intro l k hlk
      induction hlk with
      | nil => exact .cons ⟨hk0.rep _ _, hxc.mono hg⟩ .nil
      | cons h _ ih => exact .cons ⟨h.1.mono hg, h.2.mono hg⟩ ih
    exact app hboth

theorem lookup_sound (h : StRel n0 ext β ok st a w) {t kt e : TypeId} {kd : TypeDesc} {ka : AV} {key g : Nat} {ents : List (AV × AV)} {z v : AV} {f cok : Bool} {vm vk : Value} (ht : (ti P t).d = .map kt e) (hk0 : KeyOk P kt kd ka vk)
    (hm : RepV w (ownOf ext β st.σ) β ok (.mref key g) vm) (hl : lookMap st.σ key g = some ents) (hz : zeroA P e = some z) (hlook : lookupA ka z ents = some (v, f)) :
    ∃ u, (Instr.lookup t vm vk cok).run P w = .ok u w ∧ RepV w (ownOf ext β st.σ) β ok (if cok then .tuple [v, .bool f] else v) u := by
  obtain ⟨_, rfl⟩ := hm.mref_open
  have hb := lookMap_some hl
  obtain ⟨_, hreg⟩ := h.regs _ _ hb
  obtain ⟨hn, hn0, es, clock, hh, hboth⟩ := hreg
  obtain ⟨i, zv, hi, hzv, rfl⟩ : ∃ i zv, P.info? e = some i ∧ i.zero = some zv ∧ z = ofConst zv := by
    unfold zeroA at hz
    cases hq : P.info? e with
    | none => rw [hq] at hz; cases hz
    | some i =>
      rw [hq] at hz
      cases hq2 : i.zero with
      | none => simp [hq2] at hz
      | some zv => simp [hq2] at hz; exact ⟨i, zv, rfl, hq2, hz.symm⟩
  obtain ⟨r, h1, h2, h3⟩ := find_some hk0 (β := β) (ok := ok) (ofConst_rep w (ownOf ext β st.σ) zv) (i := 0) hboth hlook
  cases r with
  | none =>
    refine ⟨if cok then .tuple #[zv, .bool false] else zv, ?_, ?_⟩
    · simp only [Instr.lookup, Sem.run_bind, run_underlying (ti_map ht), Result.andThen_ok, run_getObj hh, Sem.run_pure, hk0.chk, Instr.findKey, run_underlying hk0.und, h1, run_zero hi hzv]
    · simp only at h2 h3; subst h2
      cases cok
      · exact h3
      · exact .tuple (.cons h3 (.cons (.closed (.bool _)) .nil))
  | some p =>
    obtain ⟨j, u⟩ := p
    refine ⟨if cok then .tuple #[u, .bool true] else u, ?_, ?_⟩
    · simp only [Instr.lookup, Sem.run_bind, run_underlying (ti_map ht), Result.andThen_ok, run_getObj hh, Sem.run_pure, hk0.chk, Instr.findKey, run_underlying hk0.und, h1]
    · simp only at h2 h3; subst h2
      cases cok
      · exact h3
      · exact .tuple (.cons h3 (.cons (.closed (.bool _)) .nil))
end

/-! Slices whose elements lie in a box. -/
def buildElsS (ρ : Operand → AV) (es : Nat) : Nat → List (Nat × Operand) → Option (List AV)
  | _, [] => some []
  | i, (j, x) :: rest =>
    match cellsA (ρ x), buildElsS ρ es (i + 1) rest with
    | some xs, some l => if i = j ∧ xs.length = es then some (xs ++ l) else none
    | _, _ => none
def srcS (σ : Sto) : AV → Option (List AV × Nat × List Nat)
  | .slice els => some (els.flatten, els.length, [])
  | .nils => some ([], 0, [])
  | .sl0 => some ([], 0, [])
  | .sl k g es off len => match lookBox σ k g with
    | some cs => if off + len * es ≤ cs.length then some ((cs.drop off).take (len * es), len, [k]) else none
    | none => none
  | _ => none
def zeroNum : Option Operand → (Operand → AV) → Bool
  | none, _ => true
  | some x, ρ => match ρ x with | .int _ n => decide (n = 0) | _ => false

def sliceB : AV → Bool
  | .slice _ | .nils | .sl0 | .sl .. => true
  | _ => false

def keyB (P : Program) (kt : TypeId) (k : AV) : Bool :=
  match (ti P kt).d, k with
  | .int _, .int _ _ => true
  | .str, .str _ => true
  | _, _ => false
def insS (P : Program) (σ : Sto) (t : TypeId) (m k x : AV) : Option (Bool × Res) :=
  match (ti P t).d, m with
  | .map kt _, .mref key g =>
    match lookMap σ key g with
    | some ents => if keyB P kt k = true ∧ closedB x = true ∧ (ents.all fun e => decide (leafEq k e.1 = some false)) = true then some (true, ⟨.any, [(key, some (.mapr g (ents ++ [(k, x)])))], [key]⟩) else none
    | none => none
  | _, _ => none
def lookS (P : Program) (σ : Sto) (t : TypeId) (m k : AV) (ok : Bool) : Option (Bool × Res) :=
  match (ti P t).d, m with
  | .map kt e, .mref key g =>
    match lookMap σ key g, zeroA P e with
    | some ents, some z => match lookupA k z ents with
      | some (v, f) => if keyB P kt k = true then some (true, ⟨if ok then .tuple [v, .bool f] else v, [], [key]⟩) else none
      | none => none
    | _, _ => none
  | _, _ => none
def memS0 (P : Program) (ρ : Operand → AV) (σ : Sto) (gen : Nat) (dst : Option Tmp) (op : Op) : Option (Bool × Res) :=
  match op, dst with
  | .makeSlice t l c, some d =>
    match (ti P t).d, ρ l, ρ c with
    | .slice e, .int _ n, .int _ m =>
      match (ti P e).zero with
      | some z => if okSize P e = true ∧ z.length = (ti P e).size then some (decide (0 ≤ n ∧ n ≤ m ∧ m * (ti P e).bytes ≤ 2 ^ 46 ∧ m ≤ 2 ^ 46), ⟨.sl d gen (ti P e).size 0 n.toNat, [(d, some (.box gen (List.replicate n.toNat z).flatten))], []⟩) else none
      | none => none
    | _, _, _ => none
  | .buildSlice t len parts, some d =>
    match (ti P t).d with
    | .slice e =>
      match buildElsS ρ (ti P e).size 0 parts.toList, (ti P e).zero with
      | some cs, some z => if parts.toList.length = len ∧ okSize P e = true ∧ len * (ti P e).size ≤ 2 ^ 24 ∧ z.length = (ti P e).size then some (true, ⟨.sl d gen (ti P e).size 0 len, [(d, some (.box gen cs))], []⟩) else none
      | _, _ => none
    | _ => none
  | .indexAddr t x i, some _ =>
    match (ti P t).d, ρ x, ρ i with
    | .slice e, .sl k g es off len, .int _ n => if es = (ti P e).size ∧ okSize P e = true then some (decide (0 ≤ n ∧ n < len), ⟨.ptr k g (off + n.toNat * es), [], []⟩) else none
    | _, _, _ => none
  | .slice t x lo hi none, some _ =>
    match (ti P t).d, ρ x with
    | .slice e, .sl k g es off len =>
      match loA (lo.map ρ), hiA len (hi.map ρ) with
      | some l, some h => if es = (ti P e).size ∧ okSize P e = true ∧ l < h then some (decide (0 ≤ l ∧ h ≤ len), ⟨.sl k g es (off + l.toNat * es) (h - l).toNat, [], []⟩) else
          if okSize P e = true ∧ l = h then some (decide (0 ≤ l ∧ h ≤ len), ⟨.slice [], [], []⟩) else none
      | _, _ => none
    | _, _ => none
  | .slice t x lo (some hi) (some mx), some _ =>
    match (ti P t).d with
    | .slice e => if okSize P e = true ∧ sliceB (ρ x) = true ∧ zeroNum lo ρ = true ∧ zeroNum (some hi) ρ = true ∧ zeroNum (some mx) ρ = true then some (true, ⟨.sl0, [], []⟩) else none
    | _ => none
  | .insert t m k x, _ => insS P σ t (ρ m) (ρ k) (ρ x)
  | .mapUpdate t m k x, _ => insS P σ t (ρ m) (ρ k) (ρ x)
  | .lookup t m k ok, _ => lookS P σ t (ρ m) (ρ k) ok
  | .call c, some d =>
    match c.callee, c.args.toList, c.argTypes.toList with
    | .builtin .len, [x], [t] =>
      match (ti P t).d, ρ x with
      | .slice _, .sl _ _ _ _ len => some (true, ⟨.int .i64 len, [], []⟩)
      | .slice _, .sl0 => some (true, ⟨.int .i64 0, [], []⟩)
      | _, _ => none
    | .builtin .append, [s, x], [ts, tx] =>
      match (ti P ts).d, (ti P tx).d with
      | .slice e, .slice _ =>
        match srcS σ (ρ x), (ti P e).zero with
        | some (xs, n, ks), some z =>
          if okSize P e = true ∧ z.length = (ti P e).size ∧ xs.length = n * (ti P e).size ∧ xs.all leafB = true then
            match ρ s with
            | .nils => if n = 0 then some (true, ⟨.nils, [], ks⟩) else some (decide (n * (ti P e).bytes ≤ 70368744177664 ∧ n ≤ 70368744177664), ⟨.sl d gen (ti P e).size 0 n, [(d, some (.box gen xs))], ks⟩)
            | .sl0 => if n = 0 then some (true, ⟨.sl0, [], ks⟩) else some (decide (n * (ti P e).bytes ≤ 70368744177664 ∧ n ≤ 70368744177664), ⟨.sl d gen (ti P e).size 0 n, [(d, some (.box gen xs))], ks⟩)
            | .sl k g es off len => match lookBox σ k g with
              | some cs => if es = (ti P e).size ∧ off = 0 ∧ len * es ≤ cs.length then
                  some (decide ((len + n) * (ti P e).bytes ≤ 70368744177664 ∧ len + n ≤ 70368744177664), ⟨.sl d gen es 0 (len + n), [(k, none), (d, some (.box gen (cs.take (len * es) ++ xs)))], k :: ks⟩) else none
              | none => none
            | _ => none
          else none
        | _, _ => none
      | _, _ => none
    | _, _, _ => none
  | _, _ => none

def memT (P : Program) (ρ : Operand → AV) (gen : Nat) (dst : Option Tmp) (op : Op) : Option (Bool × Res) :=
  match op, dst with
  | .slice t x lo hi none, some _ =>
    match (ti P t).d, ρ x with
    | .slice e, .nils =>
      match loA (lo.map ρ), hiA 0 (hi.map ρ) with
      | some l, some h => if okSize P e = true ∧ l = 0 ∧ h = 0 then some (true, ⟨.nils, [], []⟩) else none
      | _, _ => none
    | .slice e, .sl k g es off len =>
      match loA (lo.map ρ), hiA len (hi.map ρ) with
      | some l, some h => if okSize P e = true ∧ l = 0 ∧ h = 0 then some (true, ⟨.sl k g es off 0, [], []⟩) else none
      | _, _ => none
    | _, _ => none
  | .call c, some d =>
    match c.callee, c.args.toList, c.argTypes.toList with
    | .builtin .cap, [x], [t] =>
      match (ti P t).d, ρ x with
      | .slice _, .nils => some (true, ⟨.int .i64 0, [], []⟩)
      | _, _ => none
    | .builtin .append, [s, x], [ts, tx] =>
      match (ti P ts).d, (ti P tx).d, ρ s, ρ x with
      | .slice e, .int _, .nils, .int _ n =>
        match (ti P e).zero with
        | some z => if okSize P e = true ∧ z.length = (ti P e).size ∧ 0 ≤ n then
            if n = 0 then some (true, ⟨.nils, [], []⟩) else
              some (decide (n * (ti P e).bytes ≤ 70368744177664 ∧ n ≤ 70368744177664), ⟨.sl d gen (ti P e).size 0 n.toNat, [(d, some (.box gen (List.replicate n.toNat z).flatten))], []⟩)
          else none
        | none => none
      | _, _, _, _ => none
    | _, _, _ => none
  | _, _ => none
def memS (P : Program) (ρ : Operand → AV) (σ : Sto) (gen : Nat) (dst : Option Tmp) (op : Op) : Option (Bool × Res) :=
  match memT P ρ gen dst op with
  | some x => some x
  | none => memS0 P ρ σ gen dst op

section
variable {P : Program} {n0 : Nat → Prop} {ext : Nat → Prop} {β : Nat → Nat → Loc} {ok : Nat → Nat → Prop} {st : St} {a : Act} {w w' : World} {own : Nat → Prop}
theorem keyB_ok {kt : TypeId} {k : AV} {own : Nat → Prop} {vk : Value} (h : keyB P kt k = true) (hr : RepV w own β ok k vk) : ∃ kd, KeyOk P kt kd k vk := by
  unfold keyB at h
  split at h
  · rename_i hkt; rw [hr.int_open]; exact ⟨_, keyOk_int hkt⟩
  · rename_i hkt; rw [hr.str_open]; exact ⟨_, keyOk_str hkt⟩
  · cases h
theorem insS_sound (h : StRel n0 ext β ok st a w) {t : TypeId} {m k x : AV} {vm vk vx : Value} {r : Res} (he : insS P st.σ t m k x = some (true, r)) (hm : RepV w (ownOf ext β st.σ) β ok m vm) (hk : RepV w (ownOf ext β st.σ) β ok k vk) (hx : RepV w (ownOf ext β st.σ) β ok x vx) :
    Stored n0 ext β ok st r a w ((Instr.mapUpdate t vm vk vx).run P w) := by
  unfold insS at he
  split at he
  · rename_i kt e key g ht
    split at he
    · rename_i ents hl
      split at he
      · rename_i hc
        simp only [Option.some.injEq, Prod.mk.injEq] at he; obtain ⟨_, rfl⟩ := he
        obtain ⟨kd, hk0⟩ := keyB_ok hc.1 hk
        exact insert_sound (m := .any) h ht hk0 hm hx hl hc.2.1 fun e he => of_decide_eq_true (List.all_eq_true.mp hc.2.2 e he)
      · cases he
    · cases he
  · cases he
theorem lookS_sound (h : StRel n0 ext β ok st a w) {t : TypeId} {m k : AV} {cok : Bool} {vm vk : Value} {r : Res} (he : lookS P st.σ t m k cok = some (true, r)) (hm : RepV w (ownOf ext β st.σ) β ok m vm) (hk : RepV w (ownOf ext β st.σ) β ok k vk) :
    r.upd = [] ∧ ∃ u, (Instr.lookup t vm vk cok).run P w = .ok u w ∧ RepV w (ownOf ext β st.σ) β ok r.v u := by
  unfold lookS at he
  split at he
  · rename_i kt e key g ht
    split at he
    · rename_i ents z hl hz
      split at he
      · rename_i v f hlook
        split at he
        · rename_i hc
          simp only [Option.some.injEq, Prod.mk.injEq] at he; obtain ⟨_, rfl⟩ := he
          obtain ⟨kd, hk0⟩ := keyB_ok hc hk
          exact ⟨rfl, lookup_sound h ht hk0 hm hl hz hlook⟩
        · cases he
      · cases he
    · cases he
  · cases he
theorem laid_sl (h : StRel n0 ext β ok st a w) {d : Nat} (hf : ¬ ok d st.gen) {e : TypeId} {es len cap : Nat} {cs : List AV} {vs rest : List Value} {c : Array Value} (hc : c.toList = vs ++ rest)
    (hrep : RepVL w (ownOf ext β st.σ) β ok cs vs) (hcap : len ≤ cap) (hsz : cap * es ≤ c.size) {reads : List Nat} {run : Result Value} {upd : List (Nat × Option Reg)}
    (hσ : ∀ t r', (applyUpd st.σ upd)[t]? = some (some r') → (t = d ∧ r' = .box st.gen cs) ∨ (t ≠ d ∧ st.σ[t]? = some (some r')))
    (hrun : run = .ok (.slice (some ⟨w.heap.size, 0, none⟩) len cap) { w with heap := w.heap.push (.cells c e) }) :
    Laid n0 ext β ok st (some d) ⟨.sl d st.gen es 0 len, upd, reads⟩ a w run := by
  have hok : ∀ t g, ok t g → layok ok d st.gen t g := fun _ _ => .inl
  refine laid_new' (o := .cells c e) (loc := ⟨w.heap.size, c.size, 0, false⟩) h hf rfl rfl hσ (fun own' hg => ?_) (fun own' => ?_) hrun
  · simp only [RegOk, layβ_new]
    exact ⟨trivial, h.n0le _ (Nat.le_refl _), c, e, vs, rest, by simp, hc, hrep.mono hg hok (fun _ _ => layβ_old hf), Nat.le_refl _⟩
  · have := RepV.sl (w := { w with heap := w.heap.push (.cells c e) }) (own := own') (β := layβ β d st.gen ⟨w.heap.size, c.size, 0, false⟩) (ok := layok ok d st.gen) (t := d) (g := st.gen) (es := es) (off := 0) (len := len) (cap := cap) (.inr ⟨rfl, rfl⟩) hcap (by rw [layβ_new]; simpa using hsz)
    rw [layβ_new] at this; exact this

theorem makeS_sound (h : StRel n0 ext β ok st a w) {d : Nat} (hf : ¬ ok d st.gen) {t e : TypeId} {kl kc : IntKind} {n m : Int} {z : List AV} (ht : (ti P t).d = .slice e) (hz : (ti P e).zero = some z) (hk : okSize P e = true) (hl : z.length = (ti P e).size)
    (h0 : 0 ≤ n) (h1 : n ≤ m) (h2 : m * (ti P e).bytes ≤ 2 ^ 46) (h3 : m ≤ 2 ^ 46) :
    Laid n0 ext β ok st (some d) ⟨.sl d st.gen (ti P e).size 0 n.toNat, [(d, some (.box st.gen (List.replicate n.toNat z).flatten))], []⟩ a w ((Instr.makeSlice t (.int kl n) (.int kc m)).run P w) := by
  obtain ⟨i, dd, hi, hs, hb, _, _, hzero⟩ := okSize_info hk
  obtain ⟨zv, hzv, rfl⟩ := ti_zero hz hzero
  have hrun := run_make (P := P) w t e i zv (ti_slice ht) hi hzv kl kc n m h0 h1 (by rw [hb, Int.mul_comm]; omega) (by omega)
  have hrep : RepCL w (ownOf ext β st.σ) (zv.cells.toList.map leaf) zv.cells.toList := leafs_rep _ _ _
  have hpart := madeCells_rep hrep hl n.toNat
  have hnm : n.toNat * i.size ≤ m.toNat * i.size := Nat.mul_le_mul_right _ (by omega)
  rw [← hs] at hl hpart ⊢
  have esplit : (madeCells zv.cells (m.toNat * i.size)).toList = (madeCells zv.cells (n.toNat * i.size)).toList ++ (madeCells zv.cells (m.toNat * i.size)).toList.drop (n.toNat * i.size) := by
    have : (madeCells zv.cells (n.toNat * i.size)).toList = (madeCells zv.cells (m.toNat * i.size)).toList.take (n.toNat * i.size) := by
      simp only [madeCells, Array.toList_map, Array.toList_range, ← List.map_take, List.take_range, Nat.min_eq_left hnm]
    rw [this, List.take_append_drop]
  refine laid_sl (e := e) h hf (c := madeCells zv.cells (m.toNat * i.size)) (cap := m.toNat) (vs := (madeCells zv.cells (n.toNat * i.size)).toList) esplit hpart.toV (by omega) (by rw [size_madeCells]; exact Nat.le_refl _) set1_sto ?_
  rw [hrun]; rfl

theorem buildElsS_sound {ρA : Operand → AV} {ρ : Operand → Value} (hρ : ∀ x, RepV w own β ok (ρA x) (ρ x)) {es : Nat} : ∀ {ps : List (Nat × Operand)} {k : Nat} {cs : List AV} (cells : Array Value), buildElsS ρA es k ps = some cs →
    (k + ps.length) * es = cells.size →
    ∃ out vs, Instr.fill (fun i => some (i * es, es)) cells (ps.map fun p => (p.1, ρ p.2)) = some out ∧ out.toList = cells.toList.take (k * es) ++ vs ∧ RepVL w own β ok cs vs ∧ cs.length = ps.length * es
  | [], k, cs, cells, h, hs => by
    simp only [buildElsS, Option.some.injEq] at h; subst h
    refine ⟨cells, [], rfl, ?_, .nil, by simp⟩
    simp at hs; rw [hs, List.append_nil, List.take_of_length_le (by simp)]
  | (j, x) :: ps, k, cs, cells, h, hs => by
    simp only [buildElsS] at h
    split at h
    · rename_i xs l hc hr
      split at h
      · rename_i hcond
        obtain ⟨rfl, hlen⟩ := hcond
        simp only [Option.some.injEq] at h; subst h
        have hx := cellsA_rep hc (hρ x)
        have e1 := hx.length
        have hsz : (ρ x).cells.size = es := by simp at e1; omega
        have hk1 : (k + 1) * es = k * es + es := by rw [Nat.add_mul]; omega
        have hle : (k + 1) * es ≤ cells.size := by rw [← hs]; exact Nat.mul_le_mul_right _ (by simp only [List.length_cons]; omega)
        have hset := foldl_set (k * es) (ρ x).cells.toList 0 cells (by simp; omega)
        have hfold : ((ρ x).cells.zipIdx.foldl (fun cs (c, j) => cs.setIfInBounds (k * es + j) c) cells) = (((ρ x).cells.toList.zipIdx 0).foldl (fun cs (c, j) => cs.setIfInBounds (k * es + j) c) cells) := by
          rw [← Array.foldl_toList]; simp
        obtain ⟨out, vs, ho, he, hre, hll⟩ := buildElsS_sound hρ (((ρ x).cells.zipIdx.foldl (fun cs (c, j) => cs.setIfInBounds (k * es + j) c) cells)) hr (by
          have : (((ρ x).cells.zipIdx.foldl (fun cs (c, j) => cs.setIfInBounds (k * es + j) c) cells)).size = cells.size := by
            rw [hfold]; exact foldl_size _ _ _
          rw [this, ← hs]; congr 1; simp only [List.length_cons]; omega)
        refine ⟨out, (ρ x).cells.toList ++ vs, ?_, ?_, hx.append hre, ?_⟩
        · simp only [List.map_cons, Instr.fill]
          rw [if_neg (by simp; omega)]
          exact ho
        · rw [he, hfold, hset]
          simp only [Nat.add_zero]
          have e2 : (ρ x).cells.toList.length = es := by simpa using hsz
          rw [List.take_append_of_le_length (by simp; omega), List.take_of_length_le (by simp; omega), List.append_assoc]
        · rw [List.length_append, hll, hlen, List.length_cons, Nat.add_mul]; omega
      · cases h
    · cases h

theorem buildS_sound (h : StRel n0 ext β ok st a w) {d : Nat} (hf : ¬ ok d st.gen) {t e : TypeId} {len : Nat} {parts : Array (Nat × Operand)} {cs : List AV} {z : List AV} {ρ : Operand → AV} (hρ : ∀ x, RepV w (ownOf ext β st.σ) β ok (ρ x) (a.eval x)) (ht : (ti P t).d = .slice e)
    (hb : buildElsS ρ (ti P e).size 0 parts.toList = some cs) (hz : (ti P e).zero = some z) (hpl : parts.toList.length = len) (hk : okSize P e = true) (hmax : len * (ti P e).size ≤ 2 ^ 24) (hzl : z.length = (ti P e).size) :
    Laid n0 ext β ok st (some d) ⟨.sl d st.gen (ti P e).size 0 len, [(d, some (.box st.gen cs))], []⟩ a w ((Instr.buildSlice t len (parts.map fun (i, x) => (i, a.eval x))).run P w) := by
  obtain ⟨i, dd, hi, hs, hby, _, _, hzero⟩ := okSize_info hk
  obtain ⟨zv, hzv, rfl⟩ := ti_zero hz hzero
  have hzs : zv.cells.size = i.size := by simp at hzl; omega
  rw [← hs] at hb hmax ⊢
  have hel : (parts.map fun (x : Nat × Operand) => (x.1, a.eval x.2)).toList = parts.toList.map fun p => (p.1, a.eval p.2) := by simp
  have key : ∀ zero : Array Value, ∃ c vs, Instr.fill (fun i' => some (i' * i.size, i.size)) ((Array.range (len * i.size)).map (zero[· % zero.size]!)) (parts.map fun (x : Nat × Operand) => (x.1, a.eval x.2)).toList = some c ∧ c.toList = vs ∧ RepVL w (ownOf ext β st.σ) β ok cs vs ∧ cs.length = len * i.size := by
    intro zero
    obtain ⟨out, vs, ho, he, hre, hll⟩ := buildElsS_sound hρ ((Array.range (len * i.size)).map (zero[· % zero.size]!)) hb (by simp only [Nat.zero_add, hpl, Array.size_map, Array.size_range])
    rw [hel]
    exact ⟨out, vs, ho, by simpa using he, hre, by rw [hll, hpl]⟩
  have fin : ∀ zero : Array Value, ∃ c vs, (Instr.buildSlice t len (parts.map fun (x : Nat × Operand) => (x.1, a.eval x.2))).run P w = .ok (.slice (some ⟨w.heap.size, 0, none⟩) len len) { w with heap := w.heap.push (.cells c e) } ∧ c.toList = vs ∧ RepVL w (ownOf ext β st.σ) β ok cs vs ∧ cs.length = len * i.size := by
    intro _
    have hn : ¬ (len * i.size > 2 ^ 24) := by omega
    by_cases h0 : len * i.size = 0
    · obtain ⟨c, vs, hc, hcl, hre, hes⟩ := key #[]
      refine ⟨c, vs, ?_, hcl, hre, hes⟩
      simp only [Instr.buildSlice, Sem.run_bind, run_underlying (ti_slice ht), Result.andThen_ok, run_sizeOf hi]
      rw [if_neg hn, if_pos h0]
      simp only [pure_bind, hc, Sem.run_bind, newRow_run, Result.andThen_ok, Sem.run_pure]
    · obtain ⟨c, vs, hc, hcl, hre, hes⟩ := key zv.cells
      refine ⟨c, vs, ?_, hcl, hre, hes⟩
      simp only [Instr.buildSlice, Sem.run_bind, run_underlying (ti_slice ht), Result.andThen_ok, run_sizeOf hi]
      rw [if_neg hn, if_neg h0]
      simp only [Sem.run_bind, Sem.run_pure, Result.andThen_ok, zeroValue, typeInfo, Sem.run, program, hi, hzv]
      simp only [pure, Sem.run, Result.andThen_ok, Sem.run_bind, hc, newRow_run]
  obtain ⟨c, vs, hrun, hcl, hre, hes⟩ := fin #[]
  have hsz : c.size = len * i.size := by
    have := hre.length; rw [hes, ← hcl] at this; simp at this; omega
  exact laid_sl (e := e) h hf (c := c) (cap := len) (vs := vs) (rest := []) (by rw [hcl]; simp) hre (Nat.le_refl _) (by omega) set1_sto hrun
theorem first0 (s : Nat) (o : Option Addr) (w2 : World) : (Builtin.firstCells s 0 (.slice o 0 0)).run P w2 = .ok #[] w2 := by
  cases o with
  | none => rfl
  | some A => exact run_firstCells_some w2 s 0 A 0 0 [] (by simp) (fun j v hj => by simp at hj)
theorem srcS_sound (h : StRel n0 ext β ok st a w) {x : AV} {vx : Value} (hx : RepV w (ownOf ext β st.σ) β ok x vx) {xs : List AV} {n : Nat} {ks : List Nat} (he : srcS st.σ x = some (xs, n, ks)) {s : Nat} (hl : xs.length = n * s) (hleaf : xs.all leafB = true) :
    ∃ o c news, vx = .slice o n c ∧ (∀ w2 : World, w2.heap = w.heap → (Builtin.firstCells s n vx).run P w2 = .ok news.toArray w2) ∧ RepVL w (ownOf ext β st.σ) β ok xs news ∧ news.length = n * s ∧ ∀ u ∈ news, u.oneCell' = true := by
  have hone : ∀ news, RepVL w (ownOf ext β st.σ) β ok xs news → ∀ u ∈ news, u.oneCell' = true := fun news hn => leafs_one hleaf hn
  unfold srcS at he
  split at he
  · cases he
    cases hx.slice_open with
    | slice0 => exact ⟨none, 0, [], rfl, fun _ _ => rfl, .nil, by simp, by simp⟩
    | @slice _ es cap A vs k1 k2 k3 k4 =>
      rename_i els
      have hlen : vs.length = els.length * s := by rw [← k2.length, hl]
      refine ⟨some A, cap, vs, rfl, ?_, k2.toV, hlen, hone _ k2.toV⟩
      intro w2 hw2
      refine run_firstCells_some w2 s _ A _ cap vs hlen (fun j v hj => ?_)
      have h1 : w2.cell? ⟨A.block, A.off + j, none⟩ = some v := by unfold World.cell?; rw [hw2]; exact (k3.2 j v hj).2
      have hsp := k3.1 (by intro e; simp [e] at hj)
      obtain ⟨b, o, sp⟩ := A
      simp only at hsp; subst hsp
      unfold Addr.add; split
      · rename_i e; subst e; simpa using h1
      · exact h1
  · cases he
    obtain rfl := hx.nils_open
    exact ⟨none, 0, [], rfl, fun _ _ => rfl, .nil, by simp, by simp⟩
  · cases he
    obtain ⟨o, rfl⟩ := hx.sl0_open
    exact ⟨o, 0, [], rfl, fun _ _ => first0 _ _ _, .nil, by simp, by simp⟩
  · rename_i k g es off len
    split at he
    · rename_i cs hl0
      split at he
      · rename_i hfit
        cases he
        obtain ⟨cap, hokk, hcap, hroom, rfl⟩ := hx.sl_open
        obtain ⟨_, hreg⟩ := h.regs _ _ (lookBox_some hl0)
        obtain ⟨hn, _, c, ty, vs, rest, hh, hcl, hrep, _⟩ := hreg
        have hvl := hrep.length
        have hsub := (hrep.drop off).take (n * es)
        have hsl := hsub.length
        have hle : n * es = n * s := by rw [List.length_take, List.length_drop] at hl; omega
        refine ⟨_, cap, (vs.drop off).take (n * es), rfl, ?_, hsub, by rw [← hsl, hl], hone _ hsub⟩
        intro w2 hw2
        refine run_firstCells_some w2 s _ _ _ cap _ (by rw [← hsl, hl]) (fun j v hj => ?_)
        rw [List.getElem?_take] at hj
        split at hj
        · rw [List.getElem?_drop] at hj
          have h1 : w2.cell? ⟨(β k g).block, off + j, none⟩ = some v := by
            unfold World.cell?; rw [hw2]
            have := cells_at hh (off + j) v (prefix_at hcl hj)
            rw [Nat.zero_add] at this; exact this
          unfold Addr.add; split
          · rename_i e; subst e; simpa using h1
          · exact h1
        · cases hj
      · cases he
    · cases he
  · cases he

theorem grow_sl (h : StRel n0 ext β ok st a w) {d : Nat} (hf : ¬ ok d st.gen) {e : TypeId} {i : TypeInfo} {zv : Value} (hzs : zv.cells.size = i.size) {cs xs : List AV} {olds news : List Value} {len n cap : Nat} (ho : RepVL w (ownOf ext β st.σ) β ok cs olds) (hn : RepVL w (ownOf ext β st.σ) β ok xs news)
    (l1 : olds.length = len * i.size) (l2 : news.length = n * i.size) {reads : List Nat} {run : Result Value} {upd : List (Nat × Option Reg)}
    (hσ : ∀ t r', (applyUpd st.σ upd)[t]? = some (some r') → (t = d ∧ r' = .box st.gen (cs ++ xs)) ∨ (t ≠ d ∧ st.σ[t]? = some (some r')))
    (hrun : run = .ok (.slice (some ⟨w.heap.size, 0, none⟩) (len + n) (grownCap w (len + n) cap e)) (w.drew.alloc (.cells (olds.toArray ++ news.toArray ++ Builtin.zeroCells zv.cells (grownCap w (len + n) cap e - (len + n))) e))) :
    Laid n0 ext β ok st (some d) ⟨.sl d st.gen i.size 0 (len + n), upd, reads⟩ a w run := by
  have hg : Grows w w.drew (ownOf ext β st.σ) (ownOf ext β st.σ) := fun _ _ _ h1 h2 => ⟨h1, h2⟩
  have hcap := grownCap_ge w (len + n) cap e
  refine Laid.drew (laid_sl (e := e) h.drew hf (vs := olds ++ news) (rest := (Builtin.zeroCells zv.cells (grownCap w (len + n) cap e - (len + n))).toList) (c := olds.toArray ++ news.toArray ++ Builtin.zeroCells zv.cells (grownCap w (len + n) cap e - (len + n))) (cap := grownCap w (len + n) cap e) (by simp) ?_ (by simpa using hcap) ?_ hσ ?_)
  · exact (ho.append hn).mono hg (fun _ _ x => x) (fun _ _ _ => rfl)
  · simp only [Array.size_append, List.size_toArray, size_zeroCells, hzs, l1, l2, ← Nat.add_mul]
    exact Nat.mul_le_mul_right _ (by omega)
  · rw [hrun]; rfl

theorem appendS_grow (h : StRel n0 ext β ok st a w) {d : Nat} (hf : ¬ ok d st.gen) {ts tx ty e ex : TypeId} {x : AV} {vx : Value} (hts : (ti P ts).d = .slice e) (htx : (ti P tx).d = .slice ex) (hx : RepV w (ownOf ext β st.σ) β ok x vx)
    {xs : List AV} {n : Nat} {ks : List Nat} {z : List AV} (he : srcS st.σ x = some (xs, n, ks)) (hz : (ti P e).zero = some z) (hk : okSize P e = true) (hzl : z.length = (ti P e).size) (hl : xs.length = n * (ti P e).size) (hleaf : xs.all leafB = true) (hn : n ≠ 0)
    (h2 : n * (ti P e).bytes ≤ 70368744177664) (h3 : n ≤ 70368744177664) (base : Option Addr) :
    Laid n0 ext β ok st (some d) ⟨.sl d st.gen (ti P e).size 0 n, [(d, some (.box st.gen xs))], ks⟩ a w ((Builtin.append_ #[ts, tx] ty #[.slice base 0 0, vx]).run P w) := by
  obtain ⟨i, dd, hi, hsz, hb, _, _, hzero⟩ := okSize_info hk
  obtain ⟨zv, hzv, rfl⟩ := ti_zero hz hzero
  have hzs : zv.cells.size = i.size := by simp at hzl; omega
  rw [← hsz] at hl ⊢; rw [← hb] at h2
  obtain ⟨o, c, news, rfl, hf1, hre, hln, hone⟩ := srcS_sound (P := P) h hx he hl hleaf
  have hrun := run_append_grow (ty := ty) (base := base) (n := 0) (cap := 0) (olds := []) (ti_slice hts) (ti_slice htx) hi hzv (first0 _ _ _) (hf1 w.drew rfl) (by omega) (by simpa using h2) (by simpa using h3)
  have := grow_sl (e := e) (cs := []) (xs := xs) (len := 0) (n := n) (cap := 0) (reads := ks) h hf hzs .nil hre (by simp) hln (upd := [(d, some (.box st.gen xs))]) set1_sto (by simpa using hrun)
  simpa using this

theorem appendS_sl (h : StRel n0 ext β ok st a w) {d : Nat} (hf : ¬ ok d st.gen) {ts tx ty e ex : TypeId} {x : AV} {vs vx : Value} (hts : (ti P ts).d = .slice e) (htx : (ti P tx).d = .slice ex) (hx : RepV w (ownOf ext β st.σ) β ok x vx)
    {xs cs : List AV} {n k g len : Nat} {ks : List Nat} {z : List AV} (hs : RepV w (ownOf ext β st.σ) β ok (.sl k g (ti P e).size 0 len) vs) (hlk : lookBox st.σ k g = some cs) (hfitc : len * (ti P e).size ≤ cs.length)
    (he : srcS st.σ x = some (xs, n, ks)) (hz : (ti P e).zero = some z) (hk : okSize P e = true) (hzl : z.length = (ti P e).size) (hl : xs.length = n * (ti P e).size) (hleaf : xs.all leafB = true)
    (h2 : (len + n) * (ti P e).bytes ≤ 70368744177664) (h3 : len + n ≤ 70368744177664) :
    Laid n0 ext β ok st (some d) ⟨.sl d st.gen (ti P e).size 0 (len + n), [(k, none), (d, some (.box st.gen (cs.take (len * (ti P e).size) ++ xs)))], k :: ks⟩ a w ((Builtin.append_ #[ts, tx] ty #[vs, vx]).run P w) := by
  obtain ⟨i, dd, hi, hsz, hb, _, _, hzero⟩ := okSize_info hk
  obtain ⟨zv, hzv, rfl⟩ := ti_zero hz hzero
  have hzs : zv.cells.size = i.size := by simp at hzl; omega
  rw [← hsz] at hl hs hfitc ⊢; rw [← hb] at h2
  obtain ⟨o, c, news, rfl, hf1, hre, hln, hone⟩ := srcS_sound (P := P) h hx he hl hleaf
  obtain ⟨cap, hokk, hcap, hroom, rfl⟩ := hs.sl_open
  have hb0 := lookBox_some hlk
  obtain ⟨_, hreg⟩ := h.regs _ _ hb0
  obtain ⟨hn, hn0, cur, ty', ovs, rest, hh, hcl, hore, hcsz⟩ := hreg
  have hol := hore.length
  have htake := hore.take (len * i.size)
  have htl : (ovs.take (len * i.size)).length = len * i.size := by rw [List.length_take]; omega
  by_cases hrm : len + n ≤ cap
  · have hcurl : cur.toList.length = cur.size := by simp
    have hmul : (len + n) * i.size ≤ cap * i.size := Nat.mul_le_mul_right _ hrm
    have hmul2 : (len + n) * i.size = len * i.size + n * i.size := Nat.add_mul _ _ _
    have hfit : len * i.size + news.length ≤ cur.size := by rw [hln]; omega
    have hrun := run_append_fit (ty := ty) (ti_slice hts) (ti_slice htx) hi (hf1 w rfl) hh hone hrm hfit
    have htk : cur.toList.take (len * i.size) = ovs.take (len * i.size) := by rw [hcl, List.take_append_of_le_length (by omega)]
    rw [htk] at hrun
    have L : Lays n0 β ok st w (w.setRow (β k g).block (ovs.take (len * i.size) ++ news ++ cur.toList.drop (len * i.size + news.length)).toArray) d (.box st.gen (cs.take (len * i.size) ++ xs)) (applyUpd st.σ [(k, none), (d, some (.box st.gen (cs.take (len * i.size) ++ xs)))]) ⟨(β k g).block, (β k g).cap, 0, false⟩ := by
      refine ⟨hf, rfl, set2_sto, by simp [World.setRow], fun b _ hb => setRow_other _ _ _ _ (hb.resolve_left (by simp)), fun _ => ⟨hn0, .inr ⟨k, _, hb0, hn, rfl, ?_⟩⟩⟩
      by_cases hkd : k = d
      · exact .inl hkd
      · refine .inr fun r' hr' => ?_
        have hlt : k < st.σ.length := by
          rcases Nat.lt_or_ge k st.σ.length with hq | hq
          · exact hq
          · rw [List.getElem?_eq_none hq] at hb0; cases hb0
        simp only [applyUpd, List.foldl_cons, List.foldl_nil] at hr'
        rw [List.getElem?_set_ne (fun e => hkd e.symm), List.getElem?_set_self hlt] at hr'
        cases hr'
    have hg := L.grows h
    have hok : ∀ t g, ok t g → layok ok d st.gen t g := fun _ _ => .inl
    have R := L.rel h (by
      simp only [RegOk, layβ_new]
      refine ⟨trivial, hn0, _, ty', ovs.take (len * i.size) ++ news, cur.toList.drop (len * i.size + news.length), setRow_heap _ _ _ _ _ _ hh, by simp, (htake.append hre).mono hg hok (fun _ _ => layβ_old hf), ?_⟩
      simp only [List.size_toArray, List.length_append, List.length_drop, hcurl, htl]; omega)
    refine ⟨.slice (some ⟨(β k g).block, 0, none⟩) (len + n) cap, _, layβ β d st.gen ⟨(β k g).block, (β k g).cap, 0, false⟩, layok ok d st.gen, hrun, ?_, below_setRow hn0 _, ?_, exts_lay hf⟩
    · have hv := RepV.sl (w := w.setRow (β k g).block (ovs.take (len * i.size) ++ news ++ cur.toList.drop (len * i.size + news.length)).toArray) (own := ownOf ext (layβ β d st.gen ⟨(β k g).block, (β k g).cap, 0, false⟩) (applyUpd st.σ [(k, none), (d, some (.box st.gen (cs.take (len * i.size) ++ xs)))])) (β := layβ β d st.gen ⟨(β k g).block, (β k g).cap, 0, false⟩) (ok := layok ok d st.gen) (t := d) (g := st.gen) (es := i.size) (off := 0) (len := len + n) (cap := cap) (.inr ⟨rfl, rfl⟩) hrm (by rw [layβ_new]; exact hroom)
      rw [layβ_new] at hv
      have := R.still (some d) (x := .sl d st.gen i.size 0 (len + n)) hv
      exact this
    · rintro t g (hk | ⟨rfl, rfl⟩)
      · exact .inl hk
      · exact .inr ⟨rfl, rfl⟩
  · have hf0 := run_firstCells_some (P := P) w.drew i.size len ⟨(β k g).block, 0, none⟩ len cap (ovs.take (len * i.size)) htl (fun j v hj => by
      rw [add_zero_block]
      have hj' : ovs[j]? = some v := by
        rw [List.getElem?_take] at hj
        split at hj
        · exact hj
        · cases hj
      have := cells_at hh j v (prefix_at hcl hj')
      rw [Nat.zero_add] at this
      exact this)
    have hrun := run_append_grow (ty := ty) (ti_slice hts) (ti_slice htx) hi hzv hf0 (hf1 w.drew rfl) (by omega) h2 h3
    exact grow_sl (e := e) h hf hzs htake hre htl hln set2_sto hrun
theorem slIndex_sound {t e : TypeId} {k g es off len : Nat} {vx vi : Value} {ki : IntKind} {n : Int} (ht : (ti P t).d = .slice e) (hx : RepV w own β ok (.sl k g es off len) vx) (hi : vi = .int ki n) (he : es = (ti P e).size) (hk : okSize P e = true) (h0 : 0 ≤ n) (h1 : n < len) :
    ∃ v, (Instr.indexAt t vx vi).run P w = .ok v w ∧ RepV w own β ok (.ptr k g (off + n.toNat * es)) v := by
  subst hi
  obtain ⟨cap, hok, hcap, hroom, rfl⟩ := hx.sl_open
  obtain ⟨i, d, hinf, hs, _⟩ := okSize_info hk
  refine ⟨_, ?_, .ptr hok⟩
  simp only [Instr.indexAt, asIntOf, Sem.run_bind, Sem.run_pure, Result.andThen_ok, run_underlying (ti_slice ht)]
  rw [if_pos ⟨h0, h1⟩]
  simp only [Sem.run_bind, run_sizeOf hinf, Result.andThen_ok, hs, Sem.run_pure, he]
  have e : (⟨(β k g).block, off, none⟩ : Addr).add (n.toNat * (ti P e).size) = ⟨(β k g).block, off + n.toNat * (ti P e).size, none⟩ := by unfold Addr.add; split <;> simp_all
  rw [e]
theorem slCut_sound {t e : TypeId} {k g es off len : Nat} {vx : Value} {lo hi : Option AV} {lov hiv : Option Value} {l h : Int} (ht : (ti P t).d = .slice e) (hx : RepV w own β ok (.sl k g es off len) vx) (rl : RepO w own β ok lo lov) (rh : RepO w own β ok hi hiv) (hl : loA lo = some l) (hh : hiA len hi = some h)
    (hk : okSize P e = true) (h0 : 0 ≤ l) (h1 : l ≤ h) (h2 : h ≤ len) :
    ∃ v, (Instr.sliceAt t vx lov hiv none).run P w = .ok v w ∧ (l = h → RepV w own β ok (.slice []) v) ∧ (l < h → es = (ti P e).size → RepV w own β ok (.sl k g es (off + l.toNat * es) (h - l).toNat) v) := by
  obtain ⟨cap, hok, hcap, hroom, rfl⟩ := hx.sl_open
  obtain ⟨i, d, hinf, hs, _⟩ := okSize_info hk
  have hu := ti_slice ht
  have hrun : (Instr.sliceAt t (.slice (some ⟨(β k g).block, off, none⟩) len cap) lov hiv none).run P w =
      .ok (.slice (if cap = l.toNat then some ⟨(β k g).block, off, none⟩ else (some (⟨(β k g).block, off, none⟩ : Addr)).map (·.add (l.toNat * (ti P e).size))) (h.toNat - l.toNat) (cap - l.toNat)) w := by
    simp only [Instr.sliceAt, Sem.run_bind, run_underlying hu, Result.andThen_ok, Instr.slice]
    rw [bounds_sound hl hh rl rh h0 h1 h2 hcap]
    simp only [Result.andThen_ok, run_sizeOf hinf, Sem.run_pure, hs]
  refine ⟨_, hrun, fun e => ?_, fun hlt hes => ?_⟩
  · have e0 : h.toNat - l.toNat = ([] : List (List AV)).length := by simp; omega
    rw [e0]
    have key : ∀ o : Option Addr, o ≠ none → ∀ c : Nat, RepC w own (.slice []) (.slice o ([] : List (List AV)).length c) := by
      intro o ho c
      cases o with
      | none => exact absurd rfl ho
      | some A => exact .slice (es := 0) (vs := []) (by simp) .nil ⟨fun h => absurd rfl h, fun j v hj => by simp at hj⟩ (by simp)
    refine .closed (key _ ?_ _)
    split <;> simp
  · rw [if_neg (by omega)]
    have ea : (⟨(β k g).block, off, none⟩ : Addr).add (l.toNat * (ti P e).size) = ⟨(β k g).block, off + l.toNat * (ti P e).size, none⟩ := by unfold Addr.add; split <;> simp_all
    simp only [Option.map_some, ea, hes]
    have e2 : (h - l).toNat = h.toNat - l.toNat := by omega
    rw [e2]
    refine .sl hok (by omega) ?_
    have : (cap - l.toNat) * (ti P e).size + l.toNat * (ti P e).size = cap * (ti P e).size := by rw [← Nat.add_mul]; congr 1; omega
    rw [hes] at hroom
    omega
theorem zeroNum_open {o : Option Operand} {ρA : Operand → AV} {ρ : Operand → Value} (hρ : ∀ x, RepV w own β ok (ρA x) (ρ x)) (h : zeroNum o ρA = true) : o.map ρ = none ∨ ∃ k, o.map ρ = some (.int k 0) := by
  cases o with
  | none => exact .inl rfl
  | some x =>
    right
    simp only [zeroNum] at h
    split at h
    · rename_i k n hx
      simp only [decide_eq_true_eq] at h
      subst h
      have := hρ x
      rw [hx] at this
      exact ⟨k, by simp [this.int_open]⟩
    · cases h
theorem sliceB_open {x : AV} {v : Value} (hb : sliceB x = true) (hx : RepV w own β ok x v) : ∃ o len cap, v = .slice o len cap ∧ len ≤ cap := by
  cases x <;> simp [sliceB] at hb
  · cases hx.slice_open with
    | slice0 => exact ⟨_, _, _, rfl, Nat.le_refl _⟩
    | slice _ _ _ h4 => exact ⟨_, _, _, rfl, h4⟩
  · rw [hx.nils_open]; exact ⟨_, _, _, rfl, Nat.le_refl _⟩
  · obtain ⟨cap, _, h1, _, rfl⟩ := hx.sl_open; exact ⟨_, _, _, rfl, h1⟩
  · obtain ⟨o, rfl⟩ := hx.sl0_open; exact ⟨_, _, _, rfl, Nat.le_refl _⟩
theorem cut0_sound {t e : TypeId} {o : Option Addr} {len cap : Nat} {lov : Option Value} {k1 k2 : IntKind} (ht : (ti P t).d = .slice e) (hk : okSize P e = true) (hl : lov = none ∨ ∃ k, lov = some (.int k 0)) :
    (Instr.sliceAt t (.slice o len cap) lov (some (.int k1 0)) (some (.int k2 0))).run P w = .ok (.slice o 0 0) w := by
  obtain ⟨i, d, hinf, hs, _⟩ := okSize_info hk
  have hu := ti_slice ht
  have e1 := run_sliceBound (P := P) (w := w) k2 0 cap .slice3Acap (Int.le_refl _) (by omega)
  have e2 := run_sliceBound (P := P) (w := w) k1 0 0 .slice3B (Int.le_refl _) (by omega)
  simp only [Instr.sliceAt, Sem.run_bind, run_underlying hu, Result.andThen_ok, Instr.slice, Instr.sliceBounds, if_true, e1, Int.toNat_zero, e2]
  rcases hl with rfl | ⟨k, rfl⟩
  · simp only [Sem.run_pure, Result.andThen_ok, run_sizeOf hinf, if_true, Sem.run_bind]
  · have e3 := run_sliceBound (P := P) (w := w) k 0 0 .slice3C (Int.le_refl _) (by omega)
    simp only [Option.isSome_some, if_true, e3, Int.toNat_zero, Sem.run_pure, Result.andThen_ok, run_sizeOf hinf, Sem.run_bind]
end
end Go.Ab
end

section
namespace Go.Ab
open Go.RowKit

def allocB : Op → Bool
  | .alloc _ | .box .. | .makeSlice .. | .buildSlice .. | .makeMap .. => true
  | .call c => match c.callee with | .builtin .append => true | .value _ => true | _ => false
  | _ => false
def killed (ks : List Nat) : List (Nat × Option Reg) := ks.map fun k => (k, none)

def closeO (σ : Sto) (x : AV) : AV := match closeV σ 4 x with | some (y, _) => y | none => .any
def closeK (σ : Sto) (x : AV) : List Nat := match closeV σ 4 x with | some (_, ks) => ks | none => []
def litA (P : Program) (ρ : Operand → AV) (σ : Sto) (gen : Nat) : Option Tmp → Op → Option Res
  | some d, .buildSlice t len parts =>
    match (ti P t).d with
    | .slice e =>
      match buildEls (fun x => closeO σ (ρ x)) (ti P e).size 0 parts.toList, (ti P e).zero with
      | some els, some z =>
        if els.length = len ∧ okSize P e = true ∧ len * (ti P e).size ≤ 2 ^ 24 ∧ z.length = (ti P e).size then
          some ⟨.view d gen, killed (parts.toList.flatMap fun p => closeK σ (ρ p.2)) ++ [(d, some (.row gen (ti P e).size els))], parts.toList.flatMap fun p => closeK σ (ρ p.2)⟩
        else none
      | _, _ => none
    | _ => none
  | _, _ => none

def extB (P : Program) (f : FuncId) (args : List AV) : Option AV :=
  match P.funcs[f]? with
  | some fn => if fn.body.isNone = true ∧ fn.origin = "" then
    match fn.name, args with
    | "math/bits.Add64", [.int .u64 x, .int .u64 y, .int .u64 c] => if 0 ≤ x ∧ 0 ≤ y ∧ 0 ≤ c ∧ c ≤ 1 then some (.tuple [.int .u64 ((x.toNat + y.toNat + c.toNat) % 18446744073709551616 : Nat), .int .u64 ((x.toNat + y.toNat + c.toNat) / 18446744073709551616 : Nat)]) else none
    | "math/bits.Sub64", [.int .u64 x, .int .u64 y, .int .u64 c] => if 0 ≤ x ∧ 0 ≤ y ∧ 0 ≤ c ∧ c ≤ 1 then some (.tuple [.int .u64 ((x.toNat + 18446744073709551616 - y.toNat - c.toNat) % 18446744073709551616 : Nat), .int .u64 ((if x.toNat < y.toNat + c.toNat then 1 else 0 : Nat) : Int)]) else none
    | _, _ => none
    else none
  | none => none
inductive Exec (P : Program) (rs : List Nat) (st : St) (o : Oper) : Res → Prop where
  | pure {pre : Prop} {v : AV} : pureOp P (opnd st.τ) o.op = some (pre, v) → pre → Exec P rs st o ⟨v, [], []⟩
  | mem {pre : Prop} {r : Res} : memOp P (opnd st.τ) st.σ st.gen o.dst o.op = some (pre, r) → pre → (allocB o.op = true → ∀ d, o.dst = some d → d ∈ rs) → Exec P rs st o r
  | call {f : FuncId} {args args' : List AV} {ks : List Nat} {r : AV} : callOf (opnd st.τ) o.op = some (f, args) → closeL (closeV st.σ 4) args = some (args', ks) → ACalls P f args' r →
      Exec P rs st o ⟨r, if scalarB r then [] else killed ks, ks⟩
  | lit {r : Res} : litA P (opnd st.τ) st.σ st.gen o.dst o.op = some r → (allocB o.op = true → ∀ d, o.dst = some d → d ∈ rs) → Exec P rs st o r
  | fcall {f : FuncId} {args args' : List AV} {ks : List Nat} {es : Nat} {els : List (List AV)} {d : Tmp} : callOf (opnd st.τ) o.op = some (f, args) → closeL (closeV st.σ 4) args = some (args', ks) → FCalls P f args' es els → o.dst = some d → d ∈ rs →
      Exec P rs st o ⟨.view d st.gen, (if scalarL els.flatten = true then [] else killed ks) ++ [(d, some (.row st.gen es els))], ks⟩
  | ext {f : FuncId} {args : List AV} {r : AV} : callOf (opnd st.τ) o.op = some (f, args) → extB P f args = some r → Exec P rs st o ⟨r, [], []⟩
  | cell {r : Res} : memS P (opnd st.τ) st.σ st.gen o.dst o.op = some (true, r) → allocB o.op = false → Exec P rs st o r
  | lay {r : Res} {k : Nat} : k ∈ rs → memS P (opnd st.τ) st.σ st.gen (some k) o.op = some (true, r) → Exec P rs st o r
  | layM {pre : Prop} {r : Res} {k : Nat} : k ∈ rs → memOp P (opnd st.τ) st.σ st.gen (some k) o.op = some (pre, r) → pre → Exec P rs st o r
  | gcall {f : FuncId} {args : List AV} {r : AV} {σ' : Sto} {ls ms : List Nat} {n : Nat} : callOf (opnd st.τ) o.op = some (f, args) → GCalls P f st.gen rs args (lend st.σ ls n) r σ' →
      (∀ k ∈ ls, k ∉ ms → σ'.getD k none = (lend st.σ ls n).getD k none) → Exec P rs st o ⟨r, (ms ++ rs).map fun k => (k, σ'.getD k none), ls⟩
  | mcall {f : FuncId} {args : List AV} {r : AV} {σ' : Sto} {ks : List Nat} {n : Nat} : callOf (opnd st.τ) o.op = some (f, args) → MCalls P f st.gen args (lend st.σ ks n) r σ' →
      Exec P rs st o ⟨r, ks.map fun k => (k, σ'.getD k none), ks⟩

section
variable {P : Program} {n0 : Nat → Prop} {ext : Nat → Prop} {β : Nat → Nat → Loc} {ok : Nat → Nat → Prop} {st : St} {a : Act} {w w' : World} {own : Nat → Prop}

def Goes (P : Program) (n0 : Nat → Prop) (ext : Nat → Prop) (β : Nat → Nat → Loc) (ok : Nat → Nat → Prop) (st : St) (o : Oper) (r : Res) (a : Act) (w : World) : Prop :=
  ∃ nxt v w' β' ok', (execOp a.eval o).run P w = .ok nxt w' ∧ (nxt = .value v ∨ (nxt = .skip ∧ v = undef)) ∧ StRel n0 ext β' ok' (st.after o.dst r) (a.put o.dst v) w' ∧ Bel n0 w w' ∧
    (∀ t g, ok' t g → ok t g ∨ (allocB o.op = true ∧ o.dst = some t ∧ g = st.gen)) ∧ Exts β ok β' ok'

theorem Laid.goes {o : Oper} {r : Res} {s : Sem Value} (hal : allocB o.op = true) (h : Laid n0 ext β ok st o.dst r a w (s.run P w)) (he : execOp a.eval o = (do pure (Next.value (← s)) : Sem Next)) : Goes P n0 ext β ok st o r a w := by
  obtain ⟨v, w', β', ok', h1, h2, h3, h4⟩ := h
  refine ⟨.value v, v, w', β', ok', ?_, .inl rfl, h2, h3, fun t g hk => (h4.1 t g hk).imp id fun h => ⟨hal, h⟩, h4.2⟩
  rw [he]; simp only [Sem.run_bind, h1, Result.andThen_ok, Sem.run_pure]
theorem Stored.goes {o : Oper} {r : Res} {s : Sem Unit} (h : Stored n0 ext β ok st r a w (s.run P w)) (he : execOp a.eval o = (do s; pure Next.skip : Sem Next)) : Goes P n0 ext β ok st o r a w := by
  obtain ⟨w', h1, h2, h3, h4⟩ := h
  refine ⟨.skip, undef, w', β, ok, ?_, .inr ⟨rfl, rfl⟩, ?_, h3, fun t g hk => .inl hk, .refl _ _⟩
  · rw [he]; simp only [Sem.run_bind, h1, Result.andThen_ok, Sem.run_pure]
  · have := h2.still o.dst (x := r.v) (v := undef) (by rw [h4]; exact .closed (.any _))
    exact this
theorem Goes.still {o : Oper} {x : AV} {reads : List Nat} {s : Sem Value} {v : Value} (h : StRel n0 ext β ok st a w) (h1 : s.run P w = .ok v w) (hr : RepV w (ownOf ext β st.σ) β ok x v) (he : execOp a.eval o = (do pure (Next.value (← s)) : Sem Next)) : Goes P n0 ext β ok st o ⟨x, [], reads⟩ a w := by
  refine ⟨.value v, v, w, β, ok, ?_, .inl rfl, h.still o.dst hr, Bel.refl _ _, fun t g hk => .inl hk, .refl _ _⟩
  rw [he]; simp only [Sem.run_bind, h1, Result.andThen_ok, Sem.run_pure]

theorem isInt_open {x : AV} {v : Value} {own : Nat → Prop} (hr : RepV w own β ok x v) (h : (isInt x).isSome = true) : ∃ k n, x = .int k n ∧ v = .int k n := by
  cases x <;> simp [isInt] at h
  exact ⟨_, _, rfl, hr.int_open⟩

theorem memOp_sound (h : StRel n0 ext β ok st a w) {o : Oper} {pre : Prop} {r : Res} (he : memOp P (opnd st.τ) st.σ st.gen o.dst o.op = some (pre, r)) (hp : pre) (hf : allocB o.op = true → ∀ d, o.dst = some d → ¬ ok d st.gen) : Goes P n0 ext β ok st o r a w := by
  obtain ⟨dst, op, ty, pos, after, guard⟩ := o
  simp only at he hf
  unfold memOp at he
  split at he
  · -- load
    rename_i t x
    obtain ⟨v, hv, hr, hu⟩ := loadM_sound (P := P) h (h.opnd x) he
    obtain ⟨rv, ru, rr⟩ := r
    simp only at hu hr; subst hu
    exact Goes.still h hv hr rfl
  · rename_i t x y
    exact (storeM_sound (P := P) h (h.opnd _) (h.opnd _) he hp).goes rfl
  · rename_i t d
    split at he
    · rename_i z hz
      split at he
      · rename_i hk
        simp only [Option.some.injEq, Prod.mk.injEq] at he; obtain ⟨_, rfl⟩ := he
        exact (alloc_sound h (hf rfl d rfl) hz hk).goes rfl rfl
      · cases he
    · cases he
  · rename_i t x d
    split at he
    · rename_i xs hc
      split at he
      · simp only [Option.some.injEq, Prod.mk.injEq] at he; obtain ⟨_, rfl⟩ := he
        exact (box_sound (P := P) h (hf rfl d rfl) (h.opnd x) hc).goes rfl rfl
      · cases he
    · cases he
  · rename_i t l c d
    split at he
    · rename_i e kl n kc m ht hl hc
      split at he
      · rename_i z hz
        split at he
        · rename_i hcond
          obtain ⟨hk, hzl, hzc⟩ := hcond
          simp only [Option.some.injEq, Prod.mk.injEq] at he; obtain ⟨rfl, rfl⟩ := he
          obtain ⟨h0, h1, h2, h3⟩ := hp
          have el : a.eval l = .int kl n := by have := h.opnd l; rw [hl] at this; exact this.int_open
          have ec : a.eval c = .int kc m := by have := h.opnd c; rw [hc] at this; exact this.int_open
          by_cases hs : sameO l c = true
          · obtain rfl : l = c := by
              unfold sameO at hs
              split at hs
              · simp only [beq_iff_eq] at hs; rw [hs]
              · cases hs
            have hnm : n = m := by rw [el] at ec; cases ec; rfl
            subst hnm
            rw [if_pos hs]
            refine (makeSliceF_sound (P := P) (kl := kl) (kc := kc) h (hf rfl d rfl) ht hz hk hzl hzc h0 h2 h3).goes rfl ?_
            simp only [execOp, el]
            rw [el] at ec; cases ec; rfl
          · rw [if_neg hs]
            refine (makeSlice_sound (P := P) (kl := kl) (kc := kc) h (hf rfl d rfl) ht hz hk hzl hzc h0 h1 h2 h3).goes rfl ?_
            simp only [execOp, el, ec]
        · cases he
      · cases he
    · cases he
  · rename_i t len parts d
    split at he
    · rename_i e ht
      split at he
      · rename_i els z hb hz
        split at he
        · rename_i hcond
          obtain ⟨h1, h2, h3, h4⟩ := hcond
          simp only [Option.some.injEq, Prod.mk.injEq] at he; obtain ⟨_, rfl⟩ := he
          exact (buildSlice_sound (P := P) h (hf rfl d rfl) (fun x => h.opnd x) ht hb hz h1 h2 h3 h4).goes rfl rfl
        · cases he
      · cases he
    · cases he
  · rename_i t x i d
    split at he
    · rename_i e k g ki n ht hx hi
      split at he
      · rename_i es els hl
        split at he
        · rename_i hcond
          simp only [Option.some.injEq, Prod.mk.injEq] at he; obtain ⟨rfl, rfl⟩ := he
          have ei : a.eval i = .int ki n := by have := h.opnd i; rw [hi] at this; exact this.int_open
          have hxr := (h.opnd x).weak; rw [hx] at hxr
          obtain ⟨v, hv, hr⟩ := viewIndex_sound (P := P) h ht hxr ei hl hcond.1 hcond.2 hp.1 hp.2
          exact Goes.still h hv hr rfl
        · cases he
      · cases he
    · cases he
  · rename_i c d
    split at he
    · rename_i s x ts tx hc ha hty
      have ea : c.args = #[s, x] := by apply Array.toList_inj.mp; simpa using ha
      have et : c.argTypes = #[ts, tx] := by apply Array.toList_inj.mp; simpa using hty
      split at he
      · rename_i e ex hts htx
        have hal : allocB (.call c) = true := by simp [allocB, hc]
        refine (appendM_sound (P := P) (ty := ty) h (hf hal d rfl) hts htx (h.opnd s) (h.opnd x) he hp).goes hal ?_
        simp only [execOp, resolve, hc, ea, et]
        simp [invoke, builtin]
      · cases he
    · rename_i x t hc ha hty
      have ea : c.args = #[x] := by apply Array.toList_inj.mp; simpa using ha
      have et : c.argTypes = #[t] := by apply Array.toList_inj.mp; simpa using hty
      split at he
      · rename_i e k g ht hx
        split at he
        · rename_i es els hl
          simp only [Option.some.injEq, Prod.mk.injEq] at he; obtain ⟨_, rfl⟩ := he
          have hxr := (h.opnd x).weak; rw [hx] at hxr
          refine Goes.still (s := Builtin.len_ #[t] ty #[a.eval x]) h (viewLen_sound h ht hxr hl) (.closed (.int _ _)) ?_
          simp only [execOp, resolve, hc, ea, et]
          simp [invoke, builtin]
        · cases he
      · cases he
    · cases he
  · rename_i t r0 d
    split at he
    · rename_i kt e ht
      simp only [Option.some.injEq, Prod.mk.injEq] at he; obtain ⟨_, rfl⟩ := he
      exact (makeMap_sound (P := P) h (hf rfl d rfl) ht (.inl rfl)).goes rfl rfl
    · rename_i kt e x ht
      split at he
      · rename_i ki n hx
        simp only [Option.some.injEq, Prod.mk.injEq] at he; obtain ⟨_, rfl⟩ := he
        have ex : a.eval x = .int ki n := by have := h.opnd x; rw [hx] at this; exact this.int_open
        exact (makeMap_sound (P := P) (r := some (a.eval x)) h (hf rfl d rfl) ht (.inr ⟨_, _, by rw [ex]⟩)).goes rfl rfl
      · cases he
    · cases he
  · rename_i t m k x
    split at he
    · rename_i kt e key g ht hm
      split at he
      · rename_i kd ents hkt hl
        split at he
        · rename_i hc
          simp only [Option.some.injEq, Prod.mk.injEq] at he; obtain ⟨rfl, rfl⟩ := he
          obtain ⟨hne, hint⟩ := hp
          obtain ⟨kk, n, hk1, hk2⟩ := isInt_open (h.opnd k) hint
          rw [hk1] at hne ⊢
          have hmr := h.opnd m; rw [hm] at hmr
          exact (insert_sound (P := P) (m := .any) (vk := a.eval k) h ht (by rw [hk2]; exact keyOk_int hkt) hmr (h.opnd x) hl hc hne).goes rfl
        · cases he
      · cases he
    · cases he
  · rename_i t m k cok
    split at he
    · rename_i kt e key g ht hm
      split at he
      · rename_i kd ents z hkt hl hz
        split at he
        · rename_i v f hlook
          simp only [Option.some.injEq, Prod.mk.injEq] at he; obtain ⟨rfl, rfl⟩ := he
          obtain ⟨kk, n, hk1, hk2⟩ := isInt_open (h.opnd k) hp
          rw [hk1] at hlook
          have hmr := h.opnd m; rw [hm] at hmr
          obtain ⟨u, hu, hr⟩ := lookup_sound (P := P) (cok := cok) (vk := a.eval k) h ht (by rw [hk2]; exact keyOk_int hkt) hmr hl hz hlook
          exact Goes.still h hu hr rfl
        · cases he
      · cases he
    · cases he
  · cases he
theorem memS0_sound (h : StRel n0 ext β ok st a w) {o : Oper} {r : Res} (he : memS0 P (opnd st.τ) st.σ st.gen o.dst o.op = some (true, r)) (hf : allocB o.op = true → ∀ d, o.dst = some d → ¬ ok d st.gen) : Goes P n0 ext β ok st o r a w := by
  obtain ⟨dst, op, ty, pos, after, guard⟩ := o
  simp only at he hf
  unfold memS0 at he
  split at he
  · rename_i t l c d
    split at he
    · rename_i e kl n kc m ht hl hc
      split at he
      · rename_i z hz
        split at he
        · rename_i hcond
          simp only [Option.some.injEq, Prod.mk.injEq, decide_eq_true_eq] at he
          obtain ⟨⟨h0, h1, h2, h3⟩, rfl⟩ := he
          have el : a.eval l = .int kl n := by have := h.opnd l; rw [hl] at this; exact this.int_open
          have ec : a.eval c = .int kc m := by have := h.opnd c; rw [hc] at this; exact this.int_open
          refine (makeS_sound (P := P) (kl := kl) (kc := kc) h (hf rfl d rfl) ht hz hcond.1 hcond.2 h0 h1 h2 h3).goes rfl ?_
          simp only [execOp, el, ec]
        · cases he
      · cases he
    · cases he
  · rename_i t len parts d
    split at he
    · rename_i e ht
      split at he
      · rename_i cs z hb hz
        split at he
        · rename_i hcond
          obtain ⟨h1, h2, h3, h4⟩ := hcond
          simp only [Option.some.injEq, Prod.mk.injEq] at he; obtain ⟨_, rfl⟩ := he
          exact (buildS_sound (P := P) h (hf rfl d rfl) (fun x => h.opnd x) ht hb hz h1 h2 h3 h4).goes rfl rfl
        · cases he
      · cases he
    · cases he
  · rename_i t x i d
    split at he
    · rename_i e k g es off len ki n ht hx hi
      split at he
      · rename_i hcond
        simp only [Option.some.injEq, Prod.mk.injEq, decide_eq_true_eq] at he; obtain ⟨hp, rfl⟩ := he
        have ei : a.eval i = .int ki n := by have := h.opnd i; rw [hi] at this; exact this.int_open
        have hxr := h.opnd x; rw [hx] at hxr
        obtain ⟨v, hv, hr⟩ := slIndex_sound (P := P) ht hxr ei hcond.1 hcond.2 hp.1 hp.2
        exact Goes.still h hv hr rfl
      · cases he
    · cases he
  · rename_i t x lo hi d
    split at he
    · rename_i e k g es off len ht hx
      split at he
      · rename_i l hh hl hh2
        have hxr := h.opnd x; rw [hx] at hxr
        split at he
        · rename_i hcond
          obtain ⟨c1, c2, c3⟩ := hcond
          simp only [Option.some.injEq, Prod.mk.injEq, decide_eq_true_eq] at he; obtain ⟨hp, rfl⟩ := he
          obtain ⟨v, hv, _, hr⟩ := slCut_sound (P := P) ht hxr (RepO.map (fun x => h.opnd x) lo) (RepO.map (fun x => h.opnd x) hi) hl hh2 c2 hp.1 (by omega) hp.2
          exact Goes.still h hv (hr c3 c1) rfl
        · split at he
          · rename_i hcond
            obtain ⟨c2, c3⟩ := hcond
            simp only [Option.some.injEq, Prod.mk.injEq, decide_eq_true_eq] at he; obtain ⟨hp, rfl⟩ := he
            obtain ⟨v, hv, hr, _⟩ := slCut_sound (P := P) ht hxr (RepO.map (fun x => h.opnd x) lo) (RepO.map (fun x => h.opnd x) hi) hl hh2 c2 hp.1 (by omega) hp.2
            exact Goes.still h hv (hr c3) rfl
          · cases he
      · cases he
    · cases he
  · rename_i t x lo hi mx d
    split at he
    · rename_i e ht
      split at he
      · rename_i hcond
        obtain ⟨c1, c2, c3, c4, c5⟩ := hcond
        simp only [Option.some.injEq, Prod.mk.injEq] at he; obtain ⟨_, rfl⟩ := he
        obtain ⟨ov, len, cap, ev, hle⟩ := sliceB_open c2 (h.opnd x)
        have hlo := zeroNum_open (fun x => h.opnd x) c3
        rcases zeroNum_open (fun x => h.opnd x) c4 with h4 | ⟨k4, h4⟩
        · simp at h4
        · rcases zeroNum_open (fun x => h.opnd x) c5 with h5 | ⟨k5, h5⟩
          · simp at h5
          · have hrun := cut0_sound (P := P) (w := w) (o := ov) (len := len) (cap := cap) (k1 := k4) (k2 := k5) ht c1 hlo
            refine Goes.still (s := Instr.sliceAt t (a.eval x) (lo.map a.eval) ((some hi).map a.eval) ((some mx).map a.eval)) (v := .slice ov 0 0) h ?_ (.closed .sl0) rfl
            rw [ev, h4, h5]; exact hrun
      · cases he
    · cases he
  · rename_i t m k x
    exact (insS_sound (P := P) h he (h.opnd m) (h.opnd k) (h.opnd x)).goes rfl
  · rename_i t m k x
    exact (insS_sound (P := P) h he (h.opnd m) (h.opnd k) (h.opnd x)).goes rfl
  · rename_i t m k cok
    obtain ⟨e, u, hu, hr⟩ := lookS_sound (P := P) h he (h.opnd m) (h.opnd k)
    obtain ⟨rv, ru, rr⟩ := r
    simp only at e; subst e
    exact Goes.still h hu hr rfl
  · rename_i c d
    split at he
    · rename_i x t hc ha hty
      have ea : c.args = #[x] := by apply Array.toList_inj.mp; simpa using ha
      have et : c.argTypes = #[t] := by apply Array.toList_inj.mp; simpa using hty
      split at he
      · rename_i e k g es off len ht hx
        simp only [Option.some.injEq, Prod.mk.injEq] at he; obtain ⟨_, rfl⟩ := he
        have hxr := h.opnd x; rw [hx] at hxr
        obtain ⟨cap, _, _, _, ev⟩ := hxr.sl_open
        refine Goes.still (s := Builtin.len_ #[t] ty #[a.eval x]) h (v := .int .i64 len) ?_ (.closed (.int _ _)) ?_
        · rw [ev]; simp [Builtin.len_, run_underlying (ti_slice ht), goInt]
        · simp only [execOp, resolve, hc, ea, et]
          simp [invoke, builtin]
      · rename_i e ht hx
        simp only [Option.some.injEq, Prod.mk.injEq] at he; obtain ⟨_, rfl⟩ := he
        have hxr := h.opnd x; rw [hx] at hxr
        obtain ⟨ov, ev⟩ := hxr.sl0_open
        refine Goes.still (s := Builtin.len_ #[t] ty #[a.eval x]) h (v := .int .i64 0) ?_ (.closed (.int _ _)) ?_
        · rw [ev]; simp [Builtin.len_, run_underlying (ti_slice ht), goInt]
        · simp only [execOp, resolve, hc, ea, et]
          simp [invoke, builtin]
      · cases he
    · rename_i s x ts tx hc ha hty
      have ea : c.args = #[s, x] := by apply Array.toList_inj.mp; simpa using ha
      have et : c.argTypes = #[ts, tx] := by apply Array.toList_inj.mp; simpa using hty
      have hal : allocB (.call c) = true := by simp [allocB, hc]
      have hex : execOp a.eval ⟨some d, .call c, ty, pos, after, guard⟩ = (do pure (Next.value (← Builtin.append_ #[ts, tx] ty #[a.eval s, a.eval x])) : Sem Next) := by
        simp only [execOp, resolve, hc, ea, et]
        simp [invoke, builtin]
      split at he
      · rename_i e ex hts htx
        split at he
        · rename_i xs n ks z hsrc hz
          split at he
          · rename_i hcond
            obtain ⟨c1, c2, c3, c4⟩ := hcond
            have hxr := h.opnd x
            have hsr := h.opnd s
            split at he
            · rename_i hs
              rw [hs] at hsr
              have es0 := hsr.nils_open
              split at he
              · rename_i hn
                subst hn
                simp only [Option.some.injEq, Prod.mk.injEq] at he; obtain ⟨_, rfl⟩ := he
                obtain ⟨i, dd, hi, hsz, _⟩ := okSize_info c1
                obtain ⟨ov, c, news, ev, hf1, hre, hln, _⟩ := srcS_sound (P := P) h hxr hsrc c3 c4
                have hnil : news = [] := List.length_eq_zero_iff.mp (by simpa using hln)
                subst hnil
                rw [← hsz] at hf1
                refine Goes.still h (v := .slice none 0 0) ?_ (.closed .nils) hex
                rw [es0]
                have h1 := hf1 w rfl
                rw [ev] at h1 ⊢
                exact run_append_none (ti_slice hts) (ti_slice htx) hi h1
              · rename_i hn
                simp only [Option.some.injEq, Prod.mk.injEq, decide_eq_true_eq] at he; obtain ⟨hp, rfl⟩ := he
                have := appendS_grow (P := P) (ty := ty) h (hf hal d rfl) hts htx hxr hsrc hz c1 c2 c3 c4 hn hp.1 hp.2 none
                rw [← es0] at this
                exact this.goes hal hex
            · rename_i hs
              rw [hs] at hsr
              obtain ⟨base, es0⟩ := hsr.sl0_open
              split at he
              · rename_i hn
                subst hn
                simp only [Option.some.injEq, Prod.mk.injEq] at he; obtain ⟨_, rfl⟩ := he
                obtain ⟨i, dd, hi, hsz, _⟩ := okSize_info c1
                obtain ⟨ov, c, news, ev, hf1, hre, hln, _⟩ := srcS_sound (P := P) h hxr hsrc c3 c4
                have hnil : news = [] := List.length_eq_zero_iff.mp (by simpa using hln)
                subst hnil
                rw [← hsz] at hf1
                refine Goes.still h (v := .slice base 0 0) ?_ (.closed .sl0) hex
                rw [es0]
                have h1 := hf1 w rfl
                rw [ev] at h1 ⊢
                cases base <;> simp [Builtin.append_, run_underlying (ti_slice hts), run_underlying (ti_slice htx), sizeOf, typeInfo, hi, Builtin.lenOf, h1, storeCells]
              · rename_i hn
                simp only [Option.some.injEq, Prod.mk.injEq, decide_eq_true_eq] at he; obtain ⟨hp, rfl⟩ := he
                have := appendS_grow (P := P) (ty := ty) h (hf hal d rfl) hts htx hxr hsrc hz c1 c2 c3 c4 hn hp.1 hp.2 base
                rw [← es0] at this
                exact this.goes hal hex
            · rename_i k g es off len hs
              split at he
              · rename_i cs hlk
                split at he
                · rename_i hc2
                  obtain ⟨d1, d2, d3⟩ := hc2
                  subst d2
                  simp only [Option.some.injEq, Prod.mk.injEq, decide_eq_true_eq] at he; obtain ⟨hp, rfl⟩ := he
                  rw [hs, d1] at hsr
                  rw [d1] at d3
                  have := appendS_sl (P := P) (ty := ty) h (hf hal d rfl) hts htx hxr hsr hlk d3 hsrc hz c1 c2 c3 c4 hp.1 hp.2
                  rw [← d1] at this
                  exact this.goes hal hex
                · cases he
              · cases he
            · cases he
          · cases he
        · cases he
      · cases he
    · cases he
  · cases he
theorem run_append_zeros {ts tx ty e : TypeId} {kx : IntKind} {i : TypeInfo} {z : Value} (ht : P.underlying ts = some (.slice e)) (htx : P.underlying tx = some (.int kx)) (hi : P.info? e = some i) (hz : i.zero = some z) {k : IntKind} {n : Nat} (h0 : 0 < n)
    (hb : n * i.bytes ≤ 70368744177664) (hm : n ≤ 70368744177664) :
    (Builtin.append_ #[ts, tx] ty #[.slice none 0 0, .int k (n : Int)]).run P w =
      .ok (.slice (some ⟨w.heap.size, 0, none⟩) n (grownCap w n 0 e)) (w.drew.alloc (.cells ((if n * i.size = 0 then #[] else Builtin.zeroCells z.cells n) ++ Builtin.zeroCells z.cells (grownCap w n 0 e - n)) e)) := by
  have hw : IntKind.wrap .i64 (n : Int) = n := by
    show (if (true && decide ((n : Int) % 18446744073709551616 ≥ 9223372036854775808)) = true then (n : Int) % 18446744073709551616 - 18446744073709551616 else (n : Int) % 18446744073709551616) = n
    simp only [Bool.true_and, decide_eq_true_eq]
    split <;> omega
  have h1 : ¬ ((n : Int) < 0) := by omega
  have h48 : ¬ (281474976710656 < (n : Int) * (i.bytes : Int)) := by
    rw [← Int.natCast_mul]; omega
  have h2 : ¬ (n = 0) := by omega
  have h63' : ¬ (9223372036854775807 < (n : Int)) := by omega
  have hnx : Builtin.nextslicecap n 0 = n := by
    unfold Builtin.nextslicecap
    rw [if_pos (by omega)]
  have h48' : ¬ (281474976710656 < n * i.bytes) := by omega
  by_cases hs : n * i.size = 0
  · simp [Builtin.append_, run_underlying ht, run_underlying htx, sizeOf, typeInfo, zeroValue, hi, hz, asInt, asIntOf, hw, h1, h48, h2, h63', hnx, h48', Question.forced, Builtin.firstCells, newRow, grownCap, hs]
  · simp [Builtin.append_, run_underlying ht, run_underlying htx, sizeOf, typeInfo, zeroValue, hi, hz, asInt, asIntOf, hw, h1, h48, h2, h63', hnx, h48', Question.forced, Builtin.firstCells, newRow, grownCap, hs]
theorem zeroCells_made (z : Array Value) (n : Nat) : Builtin.zeroCells z n = madeCells z (n * z.size) := rfl
theorem appendZ_sound (h : StRel n0 ext β ok st a w) {d : Nat} (hf : ¬ ok d st.gen) {ts tx ty e : TypeId} {kx k : IntKind} {n : Nat} {z : List AV} (hts : (ti P ts).d = .slice e) (htx : (ti P tx).d = .int kx) (hz : (ti P e).zero = some z) (hk : okSize P e = true) (hzl : z.length = (ti P e).size) (h0 : 0 < n)
    (h2 : n * (ti P e).bytes ≤ 70368744177664) (h3 : n ≤ 70368744177664) :
    Laid n0 ext β ok st (some d) ⟨.sl d st.gen (ti P e).size 0 n, [(d, some (.box st.gen (List.replicate n z).flatten))], []⟩ a w ((Builtin.append_ #[ts, tx] ty #[.slice none 0 0, .int k (n : Int)]).run P w) := by
  obtain ⟨i, dd, hi, hsz, hb, _, _, hzero⟩ := okSize_info hk
  obtain ⟨zv, hzv, rfl⟩ := ti_zero hz hzero
  have hzs : zv.cells.size = i.size := by simp at hzl; omega
  rw [← hb] at h2
  have hrun := run_append_zeros (P := P) (w := w) (ty := ty) (k := k) (ti_slice hts) (ti_int htx) hi hzv h0 h2 h3
  have hrep : RepCL w (ownOf ext β st.σ) (zv.cells.toList.map leaf) zv.cells.toList := leafs_rep _ _ _
  have hmade := madeCells_rep hrep (by simpa using hzs) n
  rw [← hsz]
  have hnews : ∃ news : List Value, (if n * i.size = 0 then #[] else Builtin.zeroCells zv.cells n) = news.toArray ∧ RepVL w (ownOf ext β st.σ) β ok (List.replicate n (zv.cells.toList.map leaf)).flatten news ∧ news.length = n * i.size := by
    refine ⟨(madeCells zv.cells (n * i.size)).toList, ?_, hmade.toV, by simp [size_madeCells]⟩
    split
    · rename_i he
      rw [he]
      simp [madeCells, Array.range_zero']
    · rw [zeroCells_made, hzs]
  obtain ⟨news, he, hre, hln⟩ := hnews
  rw [he] at hrun
  have := grow_sl (e := e) (cs := []) (olds := []) (xs := (List.replicate n (zv.cells.toList.map leaf)).flatten) (len := 0) (n := n) (cap := 0) (reads := []) h hf hzs .nil hre (by simp) hln (upd := [(d, some (.box st.gen (List.replicate n (zv.cells.toList.map leaf)).flatten))]) set1_sto (by simpa using hrun)
  simpa using this
theorem memT_sound (h : StRel n0 ext β ok st a w) {o : Oper} {r : Res} (he : memT P (opnd st.τ) st.gen o.dst o.op = some (true, r)) (hf : allocB o.op = true → ∀ d, o.dst = some d → ¬ ok d st.gen) : Goes P n0 ext β ok st o r a w := by
  obtain ⟨dst, op, ty, pos, after, guard⟩ := o
  simp only at he hf
  unfold memT at he
  split at he
  · rename_i t x lo hi d
    split at he
    · rename_i e ht hx
      split at he
      · rename_i l hh hl hh2
        split at he
        · rename_i hcond
          obtain ⟨c1, rfl, rfl⟩ := hcond
          simp only [Option.some.injEq, Prod.mk.injEq, true_and] at he; subst he
          have hxr := h.opnd x; rw [hx] at hxr
          obtain ⟨i, dd, hinf, hs, _⟩ := okSize_info c1
          have hu := ti_slice ht
          have e1 := bounds_sound (P := P) (w := w) (b := true) (cap := 0) hl hh2 (RepO.map (fun x => h.opnd x) lo) (RepO.map (fun x => h.opnd x) hi) (Int.le_refl _) (Int.le_refl _) (Int.le_refl _) (Nat.le_refl _)
          refine Goes.still (s := Instr.sliceAt t (a.eval x) (lo.map a.eval) (hi.map a.eval) none) (v := .slice none 0 0) h ?_ (.closed .nils) rfl
          rw [hxr.nils_open]
          simp only [Instr.sliceAt, Sem.run_bind, run_underlying hu, Result.andThen_ok, Instr.slice]
          rw [e1]
          simp only [Result.andThen_ok, run_sizeOf hinf, Sem.run_pure, Int.toNat_zero, Nat.sub_self, if_true]
        · cases he
      · cases he
    · rename_i e k g es off len ht hx
      split at he
      · rename_i l hh hl hh2
        split at he
        · rename_i hcond
          obtain ⟨c1, rfl, rfl⟩ := hcond
          simp only [Option.some.injEq, Prod.mk.injEq, true_and] at he; subst he
          have hxr := h.opnd x; rw [hx] at hxr
          obtain ⟨cap, hokk, hcap, hroom, ev⟩ := hxr.sl_open
          obtain ⟨i, dd, hinf, hs, _⟩ := okSize_info c1
          have hu := ti_slice ht
          refine Goes.still (s := Instr.sliceAt t (a.eval x) (lo.map a.eval) (hi.map a.eval) none) (v := .slice (some ⟨(β k g).block, off, none⟩) 0 cap) h ?_ (.sl hokk (Nat.zero_le _) hroom) rfl
          rw [ev]
          have e1 := bounds_sound (P := P) (w := w) (b := true) (cap := cap) hl hh2 (RepO.map (fun x => h.opnd x) lo) (RepO.map (fun x => h.opnd x) hi) (Int.le_refl _) (Int.le_refl _) (by omega) hcap
          simp only [Instr.sliceAt, Sem.run_bind, run_underlying hu, Result.andThen_ok, Instr.slice]
          rw [e1]
          have ea : ∀ q : Nat, (⟨(β k g).block, off, none⟩ : Addr).add (0 * q) = ⟨(β k g).block, off, none⟩ := by intro q; rw [Nat.zero_mul]; rfl
          simp only [Result.andThen_ok, run_sizeOf hinf, Sem.run_pure, Int.toNat_zero, Nat.sub_self, Nat.sub_zero, Option.map_some, ea, ite_self]
        · cases he
      · cases he
    · cases he
  · rename_i c d
    split at he
    · rename_i x t hc ha hty
      have ea : c.args = #[x] := by apply Array.toList_inj.mp; simpa using ha
      have et : c.argTypes = #[t] := by apply Array.toList_inj.mp; simpa using hty
      split at he
      · rename_i e ht hx
        simp only [Option.some.injEq, Prod.mk.injEq, true_and] at he; subst he
        have hxr := h.opnd x; rw [hx] at hxr
        refine Goes.still (s := Builtin.cap_ #[t] ty #[a.eval x]) h (v := .int .i64 0) ?_ (.closed (.int _ _)) ?_
        · rw [hxr.nils_open]; simp [Builtin.cap_, run_underlying (ti_slice ht), goInt]
        · simp only [execOp, resolve, hc, ea, et]
          simp [invoke, builtin]
      · cases he
    · rename_i s x ts tx hc ha hty
      have ea : c.args = #[s, x] := by apply Array.toList_inj.mp; simpa using ha
      have et : c.argTypes = #[ts, tx] := by apply Array.toList_inj.mp; simpa using hty
      have hal : allocB (.call c) = true := by simp [allocB, hc]
      have hex : execOp a.eval ⟨some d, .call c, ty, pos, after, guard⟩ = (do pure (Next.value (← Builtin.append_ #[ts, tx] ty #[a.eval s, a.eval x])) : Sem Next) := by
        simp only [execOp, resolve, hc, ea, et]
        simp [invoke, builtin]
      split at he
      · rename_i e kx k n hts htx hs hx
        split at he
        · rename_i z hz
          split at he
          · rename_i hcond
            obtain ⟨c1, c2, c3⟩ := hcond
            have es0 : a.eval s = .slice none 0 0 := by have := h.opnd s; rw [hs] at this; exact this.nils_open
            have ex0 : a.eval x = .int k n := by have := h.opnd x; rw [hx] at this; exact this.int_open
            split at he
            · rename_i hn
              subst hn
              simp only [Option.some.injEq, Prod.mk.injEq, true_and] at he; subst he
              obtain ⟨i, dd, hi, hsz, _⟩ := okSize_info c1
              refine Goes.still h (v := .slice none 0 0) ?_ (.closed .nils) hex
              rw [es0, ex0]
              have hw : IntKind.wrap .i64 0 = 0 := rfl
              simp [Builtin.append_, run_underlying (ti_slice hts), run_underlying (ti_int htx), sizeOf, typeInfo, hi, asInt, asIntOf, hw]
            · rename_i hn
              simp only [Option.some.injEq, Prod.mk.injEq, decide_eq_true_eq] at he; obtain ⟨hp, rfl⟩ := he
              obtain ⟨m, rfl⟩ := Int.eq_ofNat_of_zero_le c3
              have := appendZ_sound (P := P) (ty := ty) (k := k) (n := m) h (hf hal d rfl) hts htx hz c1 c2 (by omega) (by have := hp.1; rw [← Int.natCast_mul] at this; omega) (by have := hp.2; omega)
              rw [Int.toNat_natCast]
              refine this.goes hal ?_
              rw [hex, es0, ex0]
          · cases he
        · cases he
      · cases he
    · cases he
  · cases he
theorem memS_sound (h : StRel n0 ext β ok st a w) {o : Oper} {r : Res} (he : memS P (opnd st.τ) st.σ st.gen o.dst o.op = some (true, r)) (hf : allocB o.op = true → ∀ d, o.dst = some d → ¬ ok d st.gen) : Goes P n0 ext β ok st o r a w := by
  unfold memS at he
  split at he
  · rename_i x hx
    cases he
    exact memT_sound h hx hf
  · exact memS0_sound h he hf
end
end Go.Ab
end
