/- Append, what is read of a view, maps. -/
import Derived.Test.YtmlaogjndaeihaaGreatDoorAb8
namespace Go.Ab
open Go.RowKit

section
variable {P : Program} {n0 : Nat} {ext : Nat → Prop} {β : Nat → Nat → Loc} {ok : Nat → Nat → Prop} {st : St} {a : Act} {w w' : World} {own : Nat → Prop}

theorem row_cells {g : Nat} {es : Nat} {els : List (List AV)} {t : Nat} (h : RegOk n0 w own β ok t (.row g es els)) (hn : (β t g).isNil = false) :
    ∃ vs, RepCL w own els.flatten vs ∧ vs.length = els.length * es ∧ ∀ j v, vs[j]? = some v → w.cell? ⟨(β t g).block, j, none⟩ = some v := by
  obtain ⟨_, hes, _, h4⟩ := h
  rcases h4 with ⟨h5, _⟩ | ⟨_, _, c, ty, vs, rest, hh, hcl, hre, _⟩
  · rw [hn] at h5; cases h5
  · refine ⟨vs, hre, by rw [← hre.length, length_flatten_const hes], fun j v hj => ?_⟩
    rw [cell?_heap hh]
    have : c.toList[j]? = some v := by
      rw [hcl, List.getElem?_append_left]
      · exact hj
      · rcases Nat.lt_or_ge j vs.length with hq | hq
        · exact hq
        · rw [List.getElem?_eq_none hq] at hj; cases hj
    simpa using this

theorem add_zero_block (b j : Nat) : (⟨b, 0, none⟩ : Addr).add j = ⟨b, j, none⟩ := by
  unfold Addr.add; split
  · rename_i e; rw [e]
  · simp

/-- What is appended, in the model. -/
theorem srcEls_sound (h : StRel n0 ext β ok st a w) {x : AV} {vx : Value} (hx : RepV w (ownOf ext β st.σ) β ok x vx) {els : List (List AV)} {ks : List Nat} (he : srcEls st.σ x = some (els, ks)) {s : Nat} (hel : ∀ y ∈ els, elOk s y = true) :
    ∃ o m c news, vx = .slice o m c ∧ m = els.length ∧ (∀ w2 : World, w2.heap = w.heap → (Builtin.firstCells s m vx).run P w2 = .ok news.toArray w2) ∧ RepCL w (ownOf ext β st.σ) els.flatten news ∧ news.length = m * s ∧ ∀ u ∈ news, u.oneCell' = true := by
  have hs : ∀ y ∈ els, y.length = s := fun y hy => by have := hel y hy; simp [elOk] at this; exact this.1
  have hone : ∀ news, RepCL w (ownOf ext β st.σ) els.flatten news → ∀ u ∈ news, u.oneCell' = true := by
    intro news hn
    refine leafs_one (w := w) (own := ownOf ext β st.σ) (β := β) (ok := ok) (xs := els.flatten) ?_ hn.toV
    simp only [List.all_flatten, List.all_eq_true]
    intro y hy; have := hel y hy; simp [elOk] at this; simpa using this.2
  unfold srcEls at he
  split at he
  · cases he
    cases hx.slice_open with
    | slice0 => exact ⟨none, 0, 0, [], rfl, rfl, fun _ _ => rfl, .nil, by simp, by simp⟩
    | @slice _ es cap A vs k1 k2 k3 k4 =>
      have hlen : vs.length = els.length * s := by rw [← k2.length, length_flatten_const hs]
      refine ⟨some A, _, cap, vs, rfl, rfl, ?_, k2, hlen, hone _ k2⟩
      intro w2 hw2
      refine run_firstCells_some w2 s _ A _ cap vs hlen (fun j v hj => ?_)
      have h1 : w2.cell? ⟨A.block, A.off + j, none⟩ = some v := by unfold World.cell?; rw [hw2]; exact (k3.2 j v hj).2
      have hsp := k3.1 (by intro e; simp [e] at hj)
      obtain ⟨b, o, sp⟩ := A
      simp only at hsp; subst hsp
      unfold Addr.add; split
      · rename_i e; subst e; simpa using h1
      · exact h1
  · cases he
    obtain rfl := hx.nils_open
    exact ⟨none, 0, 0, [], rfl, rfl, fun _ _ => rfl, .nil, by simp, by simp⟩
  · rename_i k g
    split at he
    · rename_i es els' hl
      cases he
      obtain ⟨_, rfl⟩ := hx.view_open
      obtain ⟨_, hreg⟩ := h.regs _ _ (lookRow_some hl)
      cases hn : (β k g).isNil with
      | true =>
        obtain ⟨h1, _, _, h4⟩ := hreg
        rcases h4 with ⟨_, e0, hc⟩ | ⟨h5, _⟩
        · subst e0
          refine ⟨none, 0, 0, [], ?_, rfl, ?_, .nil, by simp, by simp⟩
          · simp at h1; rw [h1, hc]; rfl
          · simp at h1; rw [h1]; exact fun _ _ => rfl
        · rw [hn] at h5; cases h5
      | false =>
        obtain ⟨vs, hre, _, hcell⟩ := row_cells hreg hn
        obtain ⟨h1, _⟩ := hreg
        have hlen : vs.length = els.length * s := by rw [← hre.length, length_flatten_const hs]
        refine ⟨some ⟨(β k g).block, 0, none⟩, (β k g).len, (β k g).cap, vs, rfl, h1, ?_, hre, by rw [h1]; exact hlen, hone _ hre⟩
        exact fun w2 hw2 => run_firstCells_some w2 s _ _ _ _ vs (by rw [h1]; exact hlen) (fun j v hj => by
          rw [add_zero_block]
          have : w2.cell? ⟨(β k g).block, j, none⟩ = some v := by unfold World.cell?; rw [hw2]; exact hcell j v hj
          exact this)
    · cases he
  · cases he

/-- Append, in the three ways that it can go. -/
theorem run_append_fit {ts tx ty e ex : TypeId} {i : TypeInfo} (ht : P.underlying ts = some (.slice e)) (htx : P.underlying tx = some (.slice ex)) (hi : P.info? e = some i) {o : Option Addr} {m c : Nat} {news : List Value} {g n cap : Nat} {cur : Array Value} {ty' : TypeId}
    (hf : (Builtin.firstCells i.size m (.slice o m c)).run P w = .ok news.toArray w) (hg : w.heap[g]? = some (.cells cur ty' (0, 0))) (h1 : ∀ u ∈ news, u.oneCell' = true) (hroom : n + m ≤ cap) (hfit : n * i.size + news.length ≤ cur.size) :
    (Builtin.append_ #[ts, tx] ty #[.slice (some ⟨g, 0, none⟩) n cap, .slice o m c]).run P w = .ok (.slice (some ⟨g, 0, none⟩) (n + m) cap) (w.setRow g (cur.toList.take (n * i.size) ++ news ++ cur.toList.drop (n * i.size + news.length)).toArray) := by
  have hst := run_storeCells_at P g (n * i.size) ty' news 0 cur w hg (by simpa using hfit) h1
  simp only [Nat.add_zero] at hst
  simp [Builtin.append_, run_underlying ht, run_underlying htx, sizeOf, typeInfo, hi, Builtin.lenOf, hroom, hf, add_zero_block, hst]
theorem run_append_none {ts tx ty e ex : TypeId} {i : TypeInfo} (ht : P.underlying ts = some (.slice e)) (htx : P.underlying tx = some (.slice ex)) (hi : P.info? e = some i) {o : Option Addr} {c : Nat}
    (hf : (Builtin.firstCells i.size 0 (.slice o 0 c)).run P w = .ok #[] w) :
    (Builtin.append_ #[ts, tx] ty #[.slice none 0 0, .slice o 0 c]).run P w = .ok (.slice none 0 0) w := by
  simp [Builtin.append_, run_underlying ht, run_underlying htx, sizeOf, typeInfo, hi, Builtin.lenOf, hf]
theorem run_append_grow {ts tx ty e ex : TypeId} {i : TypeInfo} {z : Value} (ht : P.underlying ts = some (.slice e)) (htx : P.underlying tx = some (.slice ex)) (hi : P.info? e = some i) (hz : i.zero = some z) {o : Option Addr} {m c : Nat} {olds news : List Value} {base : Option Addr} {n cap : Nat}
    (hf0 : (Builtin.firstCells i.size n (.slice base n cap)).run P w.drew = .ok olds.toArray w.drew) (hf : (Builtin.firstCells i.size m (.slice o m c)).run P w.drew = .ok news.toArray w.drew) (hroom : cap < n + m)
    (hb : (n + m) * i.bytes ≤ 70368744177664) (hm : n + m ≤ 70368744177664) :
    (Builtin.append_ #[ts, tx] ty #[.slice base n cap, .slice o m c]).run P w =
      .ok (.slice (some ⟨w.heap.size, 0, none⟩) (n + m) (grownCap w (n + m) cap e)) (w.drew.alloc (.cells (olds.toArray ++ news.toArray ++ Builtin.zeroCells z.cells (grownCap w (n + m) cap e - (n + m))) e)) := by
  have hb' : (n + m) * i.bytes ≤ 70368744177664 := hb
  have hm' : n + m ≤ 70368744177664 := hm
  have h1 : ¬ (n + m ≤ cap) := by omega
  have h63' : ¬ (9223372036854775807 < ((n : Int) + (m : Int))) := by omega
  have h48' : ¬ (281474976710656 < Builtin.nextslicecap (n + m) cap * i.bytes) := by
    have := Nat.mul_le_mul_right i.bytes (nextslicecap_le hroom)
    have e : 2 * (n + m) * i.bytes = 2 * ((n + m) * i.bytes) := by rw [Nat.mul_assoc]
    omega
  clear hb hm hb' hm'
  simp [Builtin.append_, run_underlying ht, run_underlying htx, sizeOf, typeInfo, zeroValue, hi, hz, Builtin.lenOf, h1, h63', h48', Question.forced, hf0, hf, newRow, grownCap]
  congr 2
  apply Array.toList_inj.mp; simp

theorem StRel.drew (h : StRel n0 ext β ok st a w) : StRel n0 ext β ok st a w.drew := by
  have hg : Grows w w.drew (ownOf ext β st.σ) (ownOf ext β st.σ) := fun _ _ _ h1 h2 => ⟨h1, h2⟩
  exact ⟨h.temps.mono hg (fun _ _ x => x) (fun _ _ _ => rfl), fun t r hr => let ⟨h1, h2⟩ := h.regs t r hr; ⟨h1, h2.mono (fun _ _ _ => rfl) h1 (fun _ _ x => x) hg (fun _ => rfl)⟩, h.dist, h.extlt, h.n0le, h.defers⟩
theorem Laid.drew {dst : Option Tmp} {r : Res} {run : Result Value} (h : Laid n0 ext ok st dst r a w.drew run) : Laid n0 ext ok st dst r a w run := by
  obtain ⟨v, w', β', ok', h1, h2, h3, h4⟩ := h
  exact ⟨v, w', β', ok', h1, h2, ⟨h3.os, h3.tape, h3.output, h3.size, h3.block⟩, h4⟩

/-- A row that is nil still. -/
theorem laid_nil (h : StRel n0 ext β ok st a w) {d : Nat} (hf : ¬ ok d st.gen) {es : Nat} {reads : List Nat} {run : Result Value} {upd : List (Nat × Option Reg)}
    (hσ : ∀ t r', (applyUpd st.σ upd)[t]? = some (some r') → (t = d ∧ r' = .row st.gen es []) ∨ (t ≠ d ∧ st.σ[t]? = some (some r')))
    (hrun : run = .ok (.slice none 0 0) w) : Laid n0 ext ok st (some d) ⟨.view d st.gen, upd, reads⟩ a w run := by
  have L : Lays n0 β ok st w w d (.row st.gen es []) (applyUpd st.σ upd) ⟨0, 0, 0, true⟩ := ⟨hf, rfl, hσ, Nat.le_refl _, fun _ _ _ => rfl, fun e => by cases e⟩
  have R := L.rel h (by simp only [RegOk, layβ_new]; exact ⟨rfl, by simp, by simp, .inl ⟨trivial, trivial, trivial⟩⟩)
  refine ⟨.slice none 0 0, w, layβ β d st.gen ⟨0, 0, 0, true⟩, layok ok d st.gen, hrun, ?_, Below.refl _ _, ?_⟩
  · have hv := RepV.view (w := w) (own := ownOf ext (layβ β d st.gen ⟨0, 0, 0, true⟩) (applyUpd st.σ upd)) (β := layβ β d st.gen ⟨0, 0, 0, true⟩) (ok := layok ok d st.gen) (t := d) (g := st.gen) (.inr ⟨rfl, rfl⟩)
    rw [layβ_new] at hv
    have := R.still (some d) (x := .view d st.gen) hv
    exact this
  · rintro t g (hk | ⟨rfl, rfl⟩)
    · exact .inl hk
    · exact .inr ⟨rfl, rfl⟩

theorem set2_sto {σ : Sto} {k d : Nat} {r : Reg} : ∀ t r', (applyUpd σ [(k, none), (d, some r)])[t]? = some (some r') → (t = d ∧ r' = r) ∨ (t ≠ d ∧ σ[t]? = some (some r')) := by
  intro t r' h
  rcases set_sto t r' h with h | ⟨h1, h2⟩
  · exact .inl h
  · refine .inr ⟨h1, ?_⟩
    simp only [List.getElem?_set] at h2
    split at h2
    · split at h2
      · simp at h2
      · cases h2
    · exact h2

theorem grow_laid (h : StRel n0 ext β ok st a w) {d : Nat} (hf : ¬ ok d st.gen) {e : TypeId} {i : TypeInfo} {zv : Value} (hzs : zv.cells.size = i.size) {els els2 : List (List AV)} {olds news : List Value} {cap : Nat} (ho : RepCL w (ownOf ext β st.σ) els.flatten olds) (hn : RepCL w (ownOf ext β st.σ) els2.flatten news)
    (hes : ∀ x ∈ els, x.length = i.size) (hes2 : ∀ x ∈ els2, x.length = i.size) {reads : List Nat} {run : Result Value} {upd : List (Nat × Option Reg)}
    (hσ : ∀ t r', (applyUpd st.σ upd)[t]? = some (some r') → (t = d ∧ r' = .row st.gen i.size (els ++ els2)) ∨ (t ≠ d ∧ st.σ[t]? = some (some r')))
    (hrun : run = .ok (.slice (some ⟨w.heap.size, 0, none⟩) (els.length + els2.length) (grownCap w (els.length + els2.length) cap e)) (w.drew.alloc (.cells (olds.toArray ++ news.toArray ++ Builtin.zeroCells zv.cells (grownCap w (els.length + els2.length) cap e - (els.length + els2.length))) e))) :
    Laid n0 ext ok st (some d) ⟨.view d st.gen, upd, reads⟩ a w run := by
  have hg : Grows w w.drew (ownOf ext β st.σ) (ownOf ext β st.σ) := fun _ _ _ h1 h2 => ⟨h1, h2⟩
  have hcap := grownCap_ge w (els.length + els2.length) cap e
  have hes' : ∀ x ∈ els ++ els2, x.length = i.size := fun x hx => (List.mem_append.mp hx).elim (hes x) (hes2 x)
  have l1 := ho.length; have l2 := hn.length
  rw [length_flatten_const hes] at l1; rw [length_flatten_const hes2] at l2
  refine Laid.drew (laid_row' (e := e) h.drew hf (els := els ++ els2) (vs := olds ++ news) (rest := (Builtin.zeroCells zv.cells (grownCap w (els.length + els2.length) cap e - (els.length + els2.length))).toList) (c := olds.toArray ++ news.toArray ++ Builtin.zeroCells zv.cells (grownCap w (els.length + els2.length) cap e - (els.length + els2.length))) (cap := grownCap w (els.length + els2.length) cap e) (by simp) ?_ hes' (by simpa using hcap) ?_ hσ ?_)
  · rw [List.flatten_append]; exact (ho.append hn).mono hg
  · simp only [Array.size_append, List.size_toArray, size_zeroCells, hzs, ← l1, ← l2, ← Nat.add_mul]
    exact Nat.mul_le_mul_right _ (by omega)
  · rw [hrun, List.length_append]; rfl

theorem appendM_sound (h : StRel n0 ext β ok st a w) {d : Nat} (hf : ¬ ok d st.gen) {ts tx ty e ex : TypeId} {s x : AV} {vs vx : Value} {pre : Prop} {r : Res} (hts : (ti P ts).d = .slice e) (htx : (ti P tx).d = .slice ex)
    (hs : RepV w (ownOf ext β st.σ) β ok s vs) (hx : RepV w (ownOf ext β st.σ) β ok x vx) (he : appendM P st.σ st.gen d e s x = some (pre, r)) (hpre : pre) :
    Laid n0 ext ok st (some d) r a w ((Builtin.append_ #[ts, tx] ty #[vs, vx]).run P w) := by
  unfold appendM at he
  split at he
  · rename_i els2 ks hsrc
    split at he
    · rename_i hk
      simp only [Option.some.injEq, Prod.mk.injEq] at he; obtain ⟨rfl, rfl⟩ := he
      obtain ⟨hk, hz0⟩ := hk
      obtain ⟨h1, h2, h3⟩ := hpre
      obtain ⟨i, dd, hi, hsz, hb, _, _, hzero⟩ := okSize_info hk
      obtain ⟨z, hz⟩ : ∃ z, (ti P e).zero = some z := by cases hq : (ti P e).zero with | none => rw [hq] at hz0; cases hz0 | some z => exact ⟨z, rfl⟩
      rw [hz] at hz0
      obtain ⟨zv, hzv, rfl⟩ := ti_zero hz hzero
      have hzs : zv.cells.size = i.size := by simp at hz0; omega
      rw [← hsz] at h1 ⊢; rw [← hb] at h2
      obtain rfl := hs.nils_open
      obtain ⟨o, m, c, news, rfl, rfl, hf1, hre, hl, hone⟩ := srcEls_sound (P := P) h hx hsrc h1
      have hes2 : ∀ y ∈ els2, y.length = i.size := fun y hy => by have := h1 y hy; simp [elOk] at this; exact this.1
      by_cases hm : els2.length = 0
      · have : els2 = [] := List.length_eq_zero_iff.mp hm
        subst this
        have hn0 : news = [] := List.length_eq_zero_iff.mp (by simpa using hl)
        subst hn0
        exact laid_nil h hf set1_sto (run_append_none (ti_slice hts) (ti_slice htx) hi (hf1 w rfl))
      · have hdummy : True := trivial
        have hrun := run_append_grow (ty := ty) (base := none) (n := 0) (cap := 0) (olds := []) (ti_slice hts) (ti_slice htx) hi hzv (by rfl) (hf1 w.drew rfl) (by omega) (by simpa using h2) (by simpa using h3)
        have := grow_laid (e := e) (els := []) (els2 := els2) (cap := 0) (reads := ks) h hf hzs .nil hre (by simp) hes2 (upd := [(d, some (.row st.gen i.size els2))]) set1_sto (by simpa using hrun)
        exact this
    · cases he
  · rename_i els2 ks k g hsrc
    split at he
    · rename_i es els hlk
      split at he
      · rename_i hk
        simp only [Option.some.injEq, Prod.mk.injEq] at he; obtain ⟨rfl, rfl⟩ := he
        obtain ⟨hes0, hk, hz0⟩ := hk
        obtain ⟨h1, h2, h3⟩ := hpre
        obtain ⟨i, dd, hi, hsz, hb, _, _, hzero⟩ := okSize_info hk
        obtain ⟨z, hz⟩ : ∃ z, (ti P e).zero = some z := by cases hq : (ti P e).zero with | none => rw [hq] at hz0; cases hz0 | some z => exact ⟨z, rfl⟩
        rw [hz] at hz0
        obtain ⟨zv, hzv, rfl⟩ := ti_zero hz hzero
        have hzs : zv.cells.size = i.size := by simp at hz0; omega
        rw [← hsz] at h1 hes0; rw [← hb] at h2
        subst hes0
        obtain ⟨hokk, rfl⟩ := hs.view_open
        have hb0 := lookRow_some hlk
        obtain ⟨_, hreg⟩ := h.regs _ _ hb0
        obtain ⟨o, m, c, news, rfl, rfl, hf1, hre, hl, hone⟩ := srcEls_sound (P := P) h hx hsrc h1
        have hes2 : ∀ y ∈ els2, y.length = i.size := fun y hy => by have := h1 y hy; simp [elOk] at this; exact this.1
        cases hn : (β k g).isNil with
        | true =>
          obtain ⟨hlen, hes, _, h4⟩ := hreg
          rcases h4 with ⟨_, e0, hc⟩ | ⟨h5, _⟩
          · subst e0
            simp at hlen
            rw [hlen, hc]
            simp only [if_true]
            by_cases hm : els2.length = 0
            · have : els2 = [] := List.length_eq_zero_iff.mp hm
              subst this
              have hn0 : news = [] := List.length_eq_zero_iff.mp (by simpa using hl)
              subst hn0
              exact laid_nil h hf set2_sto (run_append_none (ti_slice hts) (ti_slice htx) hi (hf1 w rfl))
            · have hrun := run_append_grow (ty := ty) (base := none) (n := 0) (cap := 0) (olds := []) (ti_slice hts) (ti_slice htx) hi hzv (by rfl) (hf1 w.drew rfl) (by omega) (by simpa using h2) (by simpa using h3)
              exact grow_laid (e := e) (els := []) (els2 := els2) (cap := 0) h hf hzs .nil hre (by simp) hes2 set2_sto (by simpa using hrun)
          · rw [hn] at h5; cases h5
        | false =>
          obtain ⟨hlen, hes, hcap, h4⟩ := hreg
          rcases h4 with ⟨h5, _⟩ | ⟨_, hn0, cur, ty', ovs, rest, hh, hcl, hore, hcsz⟩
          · rw [hn] at h5; cases h5
          · have hol : ovs.length = els.length * i.size := by rw [← hore.length, length_flatten_const hes]
            simp only [Bool.false_eq_true, if_false, hlen]
            by_cases hroom : els.length + els2.length ≤ (β k g).cap
            · have hcurl : cur.toList.length = cur.size := by simp
              have hfit : els.length * i.size + news.length ≤ cur.size := by
                rw [hl, ← Nat.add_mul]; exact Nat.le_trans (Nat.mul_le_mul_right _ hroom) hcsz
              have hrun := run_append_fit (ty := ty) (ti_slice hts) (ti_slice htx) hi (hf1 w rfl) hh hone hroom hfit
              have htk : cur.toList.take (els.length * i.size) = ovs := by rw [hcl, ← hol, List.take_left']; rfl
              rw [htk] at hrun
              have L : Lays n0 β ok st w (w.setRow (β k g).block (ovs ++ news ++ cur.toList.drop (els.length * i.size + news.length)).toArray) d (.row st.gen i.size (els ++ els2)) (applyUpd st.σ [(k, none), (d, some (.row st.gen i.size (els ++ els2)))]) ⟨(β k g).block, (β k g).cap, els.length + els2.length, false⟩ := by
                refine ⟨hf, rfl, set2_sto, by simp [World.setRow], fun b _ hb => setRow_other _ _ _ _ (hb.resolve_left (by simp)), fun _ => ⟨hn0, .inr ⟨k, _, hb0, hn, rfl, ?_⟩⟩⟩
                by_cases hkd : k = d
                · exact .inl hkd
                · refine .inr fun r' hr' => ?_
                  have hlt : k < st.σ.length := by
                    rcases Nat.lt_or_ge k st.σ.length with hq | hq
                    · exact hq
                    · rw [List.getElem?_eq_none hq] at hb0; cases hb0
                  simp only [applyUpd, List.foldl_cons, List.foldl_nil] at hr'
                  rw [List.getElem?_set_ne (fun e => hkd e.symm), List.getElem?_set_self hlt] at hr'
                  cases hr'
              have R := L.rel h (by
                have hg := L.grows h
                simp only [RegOk, layβ_new]
                refine ⟨by simp, ?_, by simpa using hroom, .inr ⟨trivial, hn0, _, ty', ovs ++ news, cur.toList.drop (els.length * i.size + news.length), setRow_heap _ _ _ _ _ _ hh, by simp, ?_, ?_⟩⟩
                · exact fun x hx => (List.mem_append.mp hx).elim (hes x) (hes2 x)
                · rw [List.flatten_append]; exact (hore.append hre).mono hg
                · simp only [List.size_toArray, List.length_append, List.length_drop, hcurl]; omega)
              refine ⟨.slice (some ⟨(β k g).block, 0, none⟩) (els.length + els2.length) (β k g).cap, _, layβ β d st.gen ⟨(β k g).block, (β k g).cap, els.length + els2.length, false⟩, layok ok d st.gen, hrun, ?_, below_setRow hn0 _, ?_⟩
              · have hv := RepV.view (w := w.setRow (β k g).block (ovs ++ news ++ cur.toList.drop (els.length * i.size + news.length)).toArray) (own := ownOf ext (layβ β d st.gen ⟨(β k g).block, (β k g).cap, els.length + els2.length, false⟩) (applyUpd st.σ [(k, none), (d, some (.row st.gen i.size (els ++ els2)))])) (β := layβ β d st.gen ⟨(β k g).block, (β k g).cap, els.length + els2.length, false⟩) (ok := layok ok d st.gen) (t := d) (g := st.gen) (.inr ⟨rfl, rfl⟩)
                rw [layβ_new] at hv
                have := R.still (some d) (x := .view d st.gen) hv
                exact this
              · rintro t g (hk | ⟨rfl, rfl⟩)
                · exact .inl hk
                · exact .inr ⟨rfl, rfl⟩
            · have hf0 := run_firstCells_some (P := P) w.drew i.size els.length ⟨(β k g).block, 0, none⟩ els.length (β k g).cap ovs hol (fun j v hj => by
                rw [add_zero_block]
                have : w.cell? ⟨(β k g).block, j, none⟩ = some v := by
                  rw [cell?_heap hh]
                  have : cur.toList[j]? = some v := by
                    rw [hcl, List.getElem?_append_left]
                    · exact hj
                    · rcases Nat.lt_or_ge j ovs.length with hq | hq
                      · exact hq
                      · rw [List.getElem?_eq_none hq] at hj; cases hj
                  simpa using this
                exact this)
              have hrun := run_append_grow (ty := ty) (ti_slice hts) (ti_slice htx) hi hzv hf0 (hf1 w.drew rfl) (by omega) h2 h3
              exact grow_laid (e := e) h hf hzs hore hre hes hes2 set2_sto hrun
      · cases he
    · cases he
  · cases he
end
end Go.Ab
