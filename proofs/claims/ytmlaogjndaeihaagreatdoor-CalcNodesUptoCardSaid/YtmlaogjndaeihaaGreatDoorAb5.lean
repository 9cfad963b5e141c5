/- The operations on the frame's own memory, proved of the model. -/
import Derived.Test.YtmlaogjndaeihaaGreatDoorAb4
import Derived.OwnWalk
import Derived.Laws.Cells
namespace Go.Ab
open Go.RowKit

def applyUpd (σ : Sto) (u : List (Nat × Option Reg)) : Sto := u.foldl (fun s p => s.set p.1 p.2) σ
def putτ (τ : List AV) (dst : Option Tmp) (v : AV) : List AV := match dst with | some d => τ.set d v | none => τ
def St.after (st : St) (dst : Option Tmp) (r : Res) : St := ⟨putτ st.τ dst r.v, applyUpd st.σ r.upd, st.gen⟩

section
variable {P : Program} {n0 : Nat} {ext : Nat → Prop} {β β' : Nat → Nat → Loc} {ok ok' : Nat → Nat → Prop} {st : St} {a : Act} {w w' : World} {own own' : Nat → Prop}

theorem put_toList (a : Act) (dst : Option Tmp) (v : Value) : (a.put dst v).tmps.toList = match dst with | some d => a.tmps.toList.set d v | none => a.tmps.toList := by
  cases dst <;> simp [Act.put]
theorem put_defers (a : Act) (dst : Option Tmp) (v : Value) : (a.put dst v).defers = a.defers := by cases dst <;> rfl

theorem RegOk.mono {t : Nat} {r : Reg} (h : RegOk n0 w own β ok t r) (hb : ∀ s g, ok s g → β' s g = β s g) (hr : ok t r.g) (hk : ∀ s g, ok s g → ok' s g) (g : Grows w w' own own')
    (hh : (β t r.g).isNil = false → w'.heap[(β t r.g).block]? = w.heap[(β t r.g).block]?) : RegOk n0 w' own' β' ok' t r := by
  cases r with
  | box gg cs =>
    simp only [Reg.g] at *
    obtain ⟨h1, h2, c, ty, h3, h4⟩ := h
    simp only [RegOk, hb _ _ hr]
    exact ⟨h1, h2, c, ty, (hh h1).trans h3, h4.mono g hk hb⟩
  | row gg es els =>
    simp only [Reg.g] at *
    obtain ⟨h1, h2, h3, h4⟩ := h
    simp only [RegOk, hb _ _ hr]
    refine ⟨h1, h2, h3, ?_⟩
    rcases h4 with h4 | ⟨h5, h6, c, ty, vs, rest, h7, h8, h9, h10⟩
    · exact .inl h4
    · exact .inr ⟨h5, h6, c, ty, vs, rest, (hh h5).trans h7, h8, h9.mono g, h10⟩
  | mapr gg ents =>
    simp only [Reg.g] at *
    obtain ⟨h1, h2, es, clock, h3, h4⟩ := h
    simp only [RegOk, hb _ _ hr]
    refine ⟨h1, h2, es, clock, (hh h1).trans h3, ?_⟩
    clear h3
    generalize es.toList = l at h4
    induction h4 with
    | nil => exact .nil
    | cons h _ ih => exact .cons ⟨h.1.mono g, h.2.mono g⟩ ih

theorem StRel.temps_put (h : RepVL w own β ok st.τ a.tmps.toList) (dst : Option Tmp) {x : AV} {v : Value} (hx : RepV w own β ok x v) : RepVL w own β ok (putτ st.τ dst x) (a.put dst v).tmps.toList := by
  rw [put_toList]; unfold putτ
  cases dst with
  | none => exact h
  | some d => exact h.set d hx

/-- Nothing of the memory turns. -/
theorem StRel.still (h : StRel n0 ext β ok st a w) (dst : Option Tmp) {x : AV} {v : Value} (hx : RepV w (ownOf ext β st.σ) β ok x v) : StRel n0 ext β ok ⟨putτ st.τ dst x, st.σ, st.gen⟩ (a.put dst v) w :=
  ⟨StRel.temps_put h.temps dst hx, h.regs, h.dist, h.extlt, h.n0le, by rw [put_defers]; exact h.defers⟩

theorem StRel.opnd (h : StRel n0 ext β ok st a w) (x : Operand) : RepV w (ownOf ext β st.σ) β ok (opnd st.τ x) (a.eval x) := by
  cases x with
  | tmp t =>
    have := h.temps.getD t undef
    simpa [Ab.opnd, Act.eval, Array.getD_eq_getD_getElem?, List.getD_eq_getElem?_getD] using this
  | const v => exact .closed (ofConst_rep _ _ v)
  | global g => exact .closed (.any _)
  | func f => exact .closed (.func .nil)

theorem lookBox_some {σ : Sto} {k g : Nat} {cs : List AV} (h : lookBox σ k g = some cs) : σ[k]? = some (some (.box g cs)) := by
  unfold lookBox at h
  split at h
  · rename_i g' cs' hs
    split at h
    · rename_i e; subst e; cases h
      rw [List.getD_eq_getElem?_getD] at hs
      cases hk : σ[k]? with
      | none => rw [hk] at hs; cases hs
      | some o => rw [hk] at hs; simp at hs; rw [hs]
    · cases h
  · cases h
theorem lookRow_some {σ : Sto} {k g es : Nat} {els : List (List AV)} (h : lookRow σ k g = some (es, els)) : σ[k]? = some (some (.row g es els)) := by
  unfold lookRow at h
  split at h
  · rename_i g' es' els' hs
    split at h
    · rename_i e; subst e; cases h
      rw [List.getD_eq_getElem?_getD] at hs
      cases hk : σ[k]? with
      | none => rw [hk] at hs; cases hs
      | some o => rw [hk] at hs; simp at hs; rw [hs]
    · cases h
  · cases h
theorem lookMap_some {σ : Sto} {k g : Nat} {es : List (AV × AV)} (h : lookMap σ k g = some es) : σ[k]? = some (some (.mapr g es)) := by
  unfold lookMap at h
  split at h
  · rename_i g' es' hs
    split at h
    · rename_i e; subst e; cases h
      rw [List.getD_eq_getElem?_getD] at hs
      cases hk : σ[k]? with
      | none => rw [hk] at hs; cases hs
      | some o => rw [hk] at hs; simp at hs; rw [hs]
    · cases h
  · cases h

theorem okSize_info {t : TypeId} (h : okSize P t = true) : ∃ i d, P.info? t = some i ∧ i.size = (ti P t).size ∧ i.bytes = (ti P t).bytes ∧ P.underlying t = some d ∧ aggD d = (ti P t).agg ∧ (ti P t).zero = i.zero.map (fun v => v.cells.toList.map leaf) := by
  have hne : (ti P t).d ≠ .other := by intro e; simp [okSize, e] at h
  obtain ⟨i, h1, h2, h3, h4⟩ := ti_info hne
  obtain ⟨d, h5, h6⟩ := ti_und hne
  exact ⟨i, d, h1, h2, h3, h5, h6.symm, h4⟩

/-- A variable is read. -/
theorem run_loadVar {t : TypeId} {i : TypeInfo} {d : TypeDesc} (hi : P.info? t = some i) (hu : P.underlying t = some d) {A : Addr} {cs : List AV} {vs : List Value} {off : Nat}
    (hc : RepVL w own β ok cs vs) (hcell : ∀ j v, vs[j]? = some v → w.cell? ⟨A.block, A.off + j, none⟩ = some v) (hspot : vs ≠ [] → A.spot = none) (hl : off + i.size ≤ cs.length) (h0 : aggD d = true ∨ 0 < i.size) :
    ∃ v, (loadVar t (A.add off)).run P w = .ok v w ∧ RepV w own β ok (partA cs off i.size (aggD d)) v := by
  have hlen := hc.length
  have cell : ∀ j v, (vs.drop off)[j]? = some v → w.cell? ((A.add off).add j) = some v := by
    intro j v hj
    have h1 := hcell (off + j) v (by simpa using hj)
    have hne : vs ≠ [] := by intro e; simp [e] at hj
    have hs := hspot hne
    unfold Addr.add
    obtain ⟨b, o, s⟩ := A
    simp only at hs; subst hs
    split <;> split <;> simp_all [Nat.add_assoc]
  simp only [loadVar, Sem.run_bind, run_isAgg hu, Result.andThen_ok]
  cases ha : aggD d
  · simp only [Bool.false_eq_true, if_false]
    have hlt : off < cs.length := by
      rcases h0 with h0 | h0
      · simp [ha] at h0
      · omega
    obtain ⟨v, hv, hr⟩ := hc.get off hlt
    refine ⟨v, ?_, by simp only [partA, Bool.false_eq_true, if_false]; rw [List.getD_eq_getElem?_getD, List.getElem?_eq_getElem hlt]; exact hr⟩
    have := cell 0 v (by simpa using hv)
    have e : (A.add off).add 0 = A.add off := by simp [Addr.add]
    rw [e] at this
    simp [load, Sem.run, this]
  · simp only [if_true, Sem.run_bind, run_sizeOf hi, Result.andThen_ok]
    have hz : ((vs.drop off).take i.size).length = i.size := by simp; omega
    have := run_loadCells_list (P := P) (w := w) (A.add off) ((vs.drop off).take i.size) (fun j v hj => by
      rw [List.getElem?_take] at hj
      split at hj
      · exact cell j v hj
      · cases hj)
    rw [hz] at this
    refine ⟨_, by rw [this]; rfl, ?_⟩
    simp only [partA, if_true]
    exact .agg ((hc.drop off).take i.size)

theorem cells_at {b : Nat} {c : Array Value} {ty : TypeId} {fr : Nat × Nat} (h : w.heap[b]? = some (.cells c ty fr)) : ∀ j v, c.toList[j]? = some v → w.cell? ⟨b, 0 + j, none⟩ = some v := by
  intro j v hj; rw [Nat.zero_add, cell?_heap h]; simpa using hj

theorem loadM_sound (h : StRel n0 ext β ok st a w) {t : TypeId} {x : AV} {vx : Value} {pre : Prop} {r : Res} (hx : RepV w (ownOf ext β st.σ) β ok x vx) (he : loadM P st.σ t x = some (pre, r)) :
    ∃ v, (Instr.loadAt t vx).run P w = .ok v w ∧ RepV w (ownOf ext β st.σ) β ok r.v v ∧ r.upd = [] := by
  unfold loadM at he
  split at he
  · rename_i k g off
    split at he
    · rename_i cs hl
      split at he
      · rename_i hc
        obtain ⟨h1, h2, h3⟩ := hc
        simp only [Option.some.injEq, Prod.mk.injEq] at he; obtain ⟨_, rfl⟩ := he
        obtain ⟨i, d, hi, hs, _, hu, hg, _⟩ := okSize_info h3
        obtain ⟨hk, rfl⟩ := hx.ptr_open
        obtain ⟨_, hreg⟩ := h.regs _ _ (lookBox_some hl)
        obtain ⟨hn, _, c, ty, hh, hrep⟩ := hreg
        obtain ⟨v, hv, hr⟩ := run_loadVar (P := P) hi hu (A := ⟨(β k g).block, 0, none⟩) (off := off) hrep (cells_at hh) (fun _ => rfl) (by rw [hs]; exact h1) (by rw [hg, hs]; exact h2)
        have e : (⟨(β k g).block, 0, none⟩ : Addr).add off = ⟨(β k g).block, off, none⟩ := by unfold Addr.add; split <;> simp_all
        rw [e] at hv
        refine ⟨v, by simpa [Instr.loadAt, Instr.sureAddr] using hv, by rw [hs, hg] at hr; exact hr, rfl⟩
      · cases he
    · cases he
  · rename_i cs
    split at he
    · rename_i hc
      obtain ⟨h1, h2, h3⟩ := hc
      simp only [Option.some.injEq, Prod.mk.injEq] at he; obtain ⟨_, rfl⟩ := he
      obtain ⟨i, d, hi, hs, _, hu, hg, _⟩ := okSize_info h3
      obtain ⟨A, vs, rfl, hrep, hat⟩ := hx.cptr_open
      obtain ⟨v, hv, hr⟩ := run_loadVar (P := P) (β := β) (ok := ok) hi hu (A := A) (off := 0) hrep.toV (fun j v hj => (hat.2 j v hj).2) hat.1 (by rw [hs]; simpa using h1) (by rw [hg, hs]; exact h2)
      have e : A.add 0 = A := by simp [Addr.add]
      rw [e] at hv
      exact ⟨v, by simpa [Instr.loadAt, Instr.sureAddr] using hv, by rw [hs, hg] at hr; exact hr, rfl⟩
    · cases he
  · rename_i k g es i0 off
    split at he
    · rename_i es' els hl
      split at he
      · rename_i hc
        obtain ⟨he1, h1, h2, h3⟩ := hc
        subst he1
        simp only [Option.some.injEq, Prod.mk.injEq] at he; obtain ⟨_, rfl⟩ := he
        obtain ⟨i, d, hi, hs, _, hu, hg, _⟩ := okSize_info h3
        obtain ⟨hk, rfl⟩ := hx.rptr_open
        obtain ⟨_, hreg⟩ := h.regs _ _ (lookRow_some hl)
        obtain ⟨hlen, hes, hcap, hor⟩ := hreg
        by_cases hlt : i0 < els.length
        · rcases hor with ⟨_, e0, _⟩ | ⟨hn, _, c, ty, vs, rest, hh, hcl, hrep, hsz⟩
          · subst e0; simp at hlt
          · have hsub : RepCL w (ownOf ext β st.σ) (els.getD i0 []) ((vs.drop (i0 * es)).take es) := by
              rw [← getD_flatten hes hlt]; exact (hrep.drop _).take _
            obtain ⟨v, hv, hr⟩ := run_loadVar (P := P) (β := β) (ok := ok) hi hu (A := ⟨(β k g).block, i0 * es, none⟩) (off := off) hsub.toV (fun j v hj => by
                rw [List.getElem?_take] at hj
                split at hj
                · rw [cell?_heap hh]
                  have : c.toList[i0 * es + j]? = some v := by
                    rw [hcl, List.getElem?_append_left]
                    · simpa using hj
                    · rcases Nat.lt_or_ge (i0 * es + j) vs.length with hq | hq
                      · exact hq
                      · rw [List.getElem?_drop, List.getElem?_eq_none hq] at hj; cases hj
                  simpa using this
                · cases hj) (fun _ => rfl) (by rw [hs]; exact h1) (by rw [hg, hs]; exact h2)
            have e : (⟨(β k g).block, i0 * es, none⟩ : Addr).add off = ⟨(β k g).block, i0 * es + off, none⟩ := by unfold Addr.add; split <;> simp_all
            rw [e] at hv
            exact ⟨v, by simpa [Instr.loadAt, Instr.sureAddr] using hv, by rw [hs, hg] at hr; exact hr, rfl⟩
        · have : els.getD i0 [] = [] := by rw [List.getD_eq_getElem?_getD, List.getElem?_eq_none (by omega)]; rfl
          rw [this] at h1 ⊢
          simp at h1
          have hz : i.size = 0 := by omega
          have hag : aggD d = true := by
            rw [hg]; rcases h2 with h2 | h2
            · exact h2
            · omega
          refine ⟨.agg #[], ?_, ?_, rfl⟩
          · simp only [Instr.loadAt, Instr.sureAddr, Sem.run_bind, Sem.run_pure, Result.andThen_ok, loadVar, run_isAgg hu, hag, if_true, run_sizeOf hi, hz, loadCells, loadCellsFrom]
          · simp only [partA, ← hg, hag, if_true]; simp; exact .closed (.agg .nil)
      · cases he
    · cases he
  · cases he
end
end Go.Ab
