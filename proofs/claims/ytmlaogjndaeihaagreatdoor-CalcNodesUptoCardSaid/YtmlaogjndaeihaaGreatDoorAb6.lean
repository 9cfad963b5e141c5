/- New regions: variables, slices that are made, literals, append. -/
import Derived.Test.YtmlaogjndaeihaaGreatDoorAb5
namespace Go.Ab
open Go.RowKit

def layβ (β : Nat → Nat → Loc) (d gen : Nat) (loc : Loc) : Nat → Nat → Loc := fun t g => if t = d ∧ g = gen then loc else β t g
def layok (ok : Nat → Nat → Prop) (d gen : Nat) : Nat → Nat → Prop := fun t g => ok t g ∨ (t = d ∧ g = gen)

section
variable {P : Program} {n0 : Nat} {ext : Nat → Prop} {β : Nat → Nat → Loc} {ok : Nat → Nat → Prop} {st : St} {a : Act} {w w' : World}

theorem layβ_old {d gen : Nat} {loc : Loc} (hf : ¬ ok d gen) {t g : Nat} (h : ok t g) : layβ β d gen loc t g = β t g := by
  unfold layβ; rw [if_neg (fun (e : t = d ∧ g = gen) => hf (by rw [← e.1, ← e.2]; exact h))]
theorem layβ_new {d gen : Nat} {loc : Loc} : layβ β d gen loc d gen = loc := by unfold layβ; rw [if_pos ⟨rfl, rfl⟩]

structure Lays (n0 : Nat) (β : Nat → Nat → Loc) (ok : Nat → Nat → Prop) (st : St) (w w' : World) (d : Nat) (r : Reg) (σ' : Sto) (loc : Loc) : Prop where
  fresh : ¬ ok d st.gen
  gen : r.g = st.gen
  sto : ∀ t r', σ'[t]? = some (some r') → (t = d ∧ r' = r) ∨ (t ≠ d ∧ st.σ[t]? = some (some r'))
  size : w.heap.size ≤ w'.heap.size
  same : ∀ b, b < w.heap.size → (loc.isNil = true ∨ b ≠ loc.block) → w'.heap[b]? = w.heap[b]?
  place : loc.isNil = false → n0 ≤ loc.block ∧ (w.heap.size ≤ loc.block ∨ ∃ k rk, st.σ[k]? = some (some rk) ∧ (β k rk.g).isNil = false ∧ (β k rk.g).block = loc.block ∧ (k = d ∨ ∀ r', σ'[k]? ≠ some (some r')))

theorem reg_lt (h : StRel n0 ext β ok st a w) {t : Nat} {r : Reg} (hr : st.σ[t]? = some (some r)) (hn : (β t r.g).isNil = false) : (β t r.g).block < w.heap.size := by
  have lt : ∀ (o : Obj), w.heap[(β t r.g).block]? = some o → (β t r.g).block < w.heap.size := by
    intro o ho
    rcases Nat.lt_or_ge (β t r.g).block w.heap.size with hl | hl
    · exact hl
    · simp [Array.getElem?_eq_none hl] at ho
  obtain ⟨_, hreg⟩ := h.regs t r hr
  cases r with
  | box => obtain ⟨_, _, _, _, h3, _⟩ := hreg; exact lt _ h3
  | row =>
    obtain ⟨_, _, _, h4⟩ := hreg
    rcases h4 with ⟨h5, _⟩ | ⟨_, _, _, _, _, _, h7, _⟩
    · simp only [Reg.g] at hn; rw [hn] at h5; cases h5
    · exact lt _ h7
  | mapr => obtain ⟨_, _, _, _, h3, _⟩ := hreg; exact lt _ h3

theorem Lays.grows {d : Nat} {r : Reg} {σ' : Sto} {loc : Loc} (L : Lays n0 β ok st w w' d r σ' loc) (h : StRel n0 ext β ok st a w) :
    Grows w w' (ownOf ext β st.σ) (ownOf ext (layβ β d st.gen loc) σ') := by
  intro b o v h1 h2
  have hb := cell?_lt h2
  have hne : loc.isNil = true ∨ b ≠ loc.block := by
    cases hn : loc.isNil with
    | true => exact .inl rfl
    | false =>
      refine .inr fun e => ?_
      rcases (L.place hn).2 with h3 | ⟨k, rk, h3, h4, h5, _⟩
      · omega
      · exact h1 (.inr ⟨k, rk, h3, h4, by rw [h5, e]⟩)
  refine ⟨fun h3 => ?_, ?_⟩
  · rcases h3 with h3 | ⟨t, r', h3, h4, h5⟩
    · exact h1 (.inl h3)
    · rcases L.sto _ _ h3 with ⟨rfl, rfl⟩ | ⟨h6, h7⟩
      · rw [L.gen, layβ_new] at h4 h5
        rcases hne with hne | hne
        · rw [hne] at h4; cases h4
        · exact hne h5.symm
      · have hok := (h.regs _ _ h7).1
        rw [layβ_old L.fresh hok] at h4 h5
        exact h1 (.inr ⟨t, r', h7, h4, h5⟩)
  · have := L.same b hb hne
    unfold World.cell? at h2 ⊢
    simp only [this]; exact h2

theorem Lays.rel {d : Nat} {r : Reg} {σ' : Sto} {loc : Loc} (L : Lays n0 β ok st w w' d r σ' loc) (h : StRel n0 ext β ok st a w)
    (hreg : RegOk n0 w' (ownOf ext (layβ β d st.gen loc) σ') (layβ β d st.gen loc) (layok ok d st.gen) d r) :
    StRel n0 ext (layβ β d st.gen loc) (layok ok d st.gen) ⟨st.τ, σ', st.gen⟩ a w' := by
  have hg := L.grows h
  have hok : ∀ t g, ok t g → layok ok d st.gen t g := fun _ _ => .inl
  have hβ : ∀ t g, ok t g → layβ β d st.gen loc t g = β t g := fun _ _ => layβ_old L.fresh
  have apart : ∀ t r', t ≠ d → st.σ[t]? = some (some r') → σ'[t]? = some (some r') → (β t r'.g).isNil = false → loc.isNil = true ∨ (β t r'.g).block ≠ loc.block := by
    intro t r' htd h7 h7' hnn
    cases hn : loc.isNil with
    | true => exact .inl rfl
    | false =>
      refine .inr fun e => ?_
      rcases (L.place hn).2 with h3 | ⟨k, rk, h3, h4, h5, h6⟩
      · have := reg_lt h h7 hnn; omega
      · have hkt : k ≠ t := by
          rintro rfl
          rcases h6 with h6 | h6
          · exact htd h6
          · exact h6 _ h7'
        exact h.dist k t rk r' h3 h7 hkt h4 hnn (by rw [h5, e])
  refine ⟨h.temps.mono hg hok hβ, ?_, ?_, h.extlt, Nat.le_trans h.n0le L.size, h.defers⟩
  · intro t r' h3
    rcases L.sto _ _ h3 with ⟨rfl, rfl⟩ | ⟨h6, h7⟩
    · exact ⟨.inr ⟨rfl, L.gen⟩, hreg⟩
    · obtain ⟨hk, hr⟩ := h.regs _ _ h7
      refine ⟨.inl hk, hr.mono hβ hk hok hg (fun hn => L.same _ (reg_lt h h7 hn) (apart t r' h6 h7 h3 hn))⟩
  · intro t t' r1 r2 h1 h2 hne n1 n2
    simp only at h1 h2
    rcases L.sto _ _ h1 with ⟨rfl, rfl⟩ | ⟨h6, h7⟩ <;> rcases L.sto _ _ h2 with ⟨rfl, rfl⟩ | ⟨h8, h9⟩
    · exact absurd rfl hne
    · have hk := (h.regs _ _ h9).1
      rw [hβ _ _ hk] at n2 ⊢
      rw [L.gen, layβ_new] at n1 ⊢
      rcases apart _ _ h8 h9 h2 n2 with e | e
      · rw [e] at n1; cases n1
      · exact fun e' => e e'.symm
    · have hk := (h.regs _ _ h7).1
      rw [hβ _ _ hk] at n1 ⊢
      rw [L.gen, layβ_new] at n2 ⊢
      rcases apart _ _ h6 h7 h1 n1 with e | e
      · rw [e] at n2; cases n2
      · exact e
    · have hk := (h.regs _ _ h7).1
      have hk' := (h.regs _ _ h9).1
      rw [hβ _ _ hk] at n1 ⊢
      rw [hβ _ _ hk'] at n2 ⊢
      exact h.dist _ _ _ _ h7 h9 hne n1 n2

theorem set_sto {σ : Sto} {d : Nat} {r : Reg} : ∀ t r', (σ.set d (some r))[t]? = some (some r') → (t = d ∧ r' = r) ∨ (t ≠ d ∧ σ[t]? = some (some r')) := by
  intro t r' h
  rw [List.getElem?_set] at h
  split at h
  · rename_i e; subst e
    split at h
    · simp at h; exact .inl ⟨rfl, h.symm⟩
    · cases h
  · rename_i e; exact .inr ⟨fun e' => e e'.symm, h⟩

theorem set1_sto {σ : Sto} {d : Nat} {r : Reg} : ∀ t r', (applyUpd σ [(d, some r)])[t]? = some (some r') → (t = d ∧ r' = r) ∨ (t ≠ d ∧ σ[t]? = some (some r')) := set_sto

theorem heap_push {w : World} {o : Obj} {b : Nat} (hb : b < w.heap.size) : (w.heap.push o)[b]? = w.heap[b]? := by
  rw [Array.getElem?_push, if_neg (by omega)]

/-- A new block. -/
theorem lays_new (h : StRel n0 ext β ok st a w) {d : Nat} (hf : ¬ ok d st.gen) {r : Reg} (hr : r.g = st.gen) {o : Obj} {σ' : Sto} (hσ : ∀ t r', σ'[t]? = some (some r') → (t = d ∧ r' = r) ∨ (t ≠ d ∧ st.σ[t]? = some (some r')))
    {loc : Loc} (hl : loc.block = w.heap.size) : Lays n0 β ok st w { w with heap := w.heap.push o } d r σ' loc :=
  ⟨hf, hr, hσ, by simp, fun b hb _ => heap_push hb, fun _ => ⟨by rw [hl]; exact h.n0le, .inl (by rw [hl]; exact Nat.le_refl _)⟩⟩

theorem below_push (w : World) (o : Obj) : Below w.heap.size w { w with heap := w.heap.push o } := ⟨rfl, rfl, rfl, by simp, fun _ hb => heap_push hb⟩

/-- What an operation that lays a region gives back. -/
def Laid (n0 : Nat) (ext : Nat → Prop) (ok : Nat → Nat → Prop) (st : St) (dst : Option Tmp) (r : Res) (a : Act) (w : World) (run : Result Value) : Prop :=
  ∃ v w' β' ok', run = .ok v w' ∧ StRel n0 ext β' ok' (st.after dst r) (a.put dst v) w' ∧ Below n0 w w' ∧ (∀ t g, ok' t g → ok t g ∨ (dst = some t ∧ g = st.gen))

theorem laid_new' (h : StRel n0 ext β ok st a w) {d : Nat} (hf : ¬ ok d st.gen) {r : Reg} (hr : r.g = st.gen) {o : Obj} {loc : Loc} (hl : loc.block = w.heap.size) {upd : List (Nat × Option Reg)}
    (hσ : ∀ t r', (applyUpd st.σ upd)[t]? = some (some r') → (t = d ∧ r' = r) ∨ (t ≠ d ∧ st.σ[t]? = some (some r')))
    (hreg : ∀ own', Grows w { w with heap := w.heap.push o } (ownOf ext β st.σ) own' → RegOk n0 { w with heap := w.heap.push o } own' (layβ β d st.gen loc) (layok ok d st.gen) d r)
    {x : AV} {v : Value} {reads : List Nat} (hx : ∀ own', RepV { w with heap := w.heap.push o } own' (layβ β d st.gen loc) (layok ok d st.gen) x v) {run : Result Value} (hrun : run = .ok v { w with heap := w.heap.push o }) :
    Laid n0 ext ok st (some d) ⟨x, upd, reads⟩ a w run := by
  have L := lays_new (r := r) (o := o) h hf hr hσ hl
  have R := L.rel h (hreg _ (L.grows h))
  refine ⟨v, { w with heap := w.heap.push o }, layβ β d st.gen loc, layok ok d st.gen, hrun, ?_, (below_push w o).mono h.n0le, ?_⟩
  · have := R.still (some d) (hx _)
    exact this
  · rintro t g (hk | ⟨rfl, rfl⟩)
    · exact .inl hk
    · exact .inr ⟨rfl, rfl⟩
theorem laid_new (h : StRel n0 ext β ok st a w) {d : Nat} (hf : ¬ ok d st.gen) {r : Reg} (hr : r.g = st.gen) {o : Obj} {loc : Loc} (hl : loc.block = w.heap.size)
    (hreg : ∀ own', Grows w { w with heap := w.heap.push o } (ownOf ext β st.σ) own' → RegOk n0 { w with heap := w.heap.push o } own' (layβ β d st.gen loc) (layok ok d st.gen) d r)
    {x : AV} {v : Value} {reads : List Nat} (hx : ∀ own', RepV { w with heap := w.heap.push o } own' (layβ β d st.gen loc) (layok ok d st.gen) x v) {run : Result Value} (hrun : run = .ok v { w with heap := w.heap.push o }) :
    Laid n0 ext ok st (some d) ⟨x, [(d, some r)], reads⟩ a w run := laid_new' h hf hr hl set1_sto hreg hx hrun

theorem newRow_run (t : TypeId) (c : Array Value) : (newRow t c).run P w = .ok ⟨w.heap.size, 0, none⟩ { w with heap := w.heap.push (.cells c t) } := by
  simp [newRow, newObj, Sem.run]

theorem laid_var (h : StRel n0 ext β ok st a w) {d : Nat} (hf : ¬ ok d st.gen) {t : TypeId} {cs : List AV} {v : Value} (hrep : RepVL w (ownOf ext β st.σ) β ok cs v.cells.toList) {reads : List Nat} :
    Laid n0 ext ok st (some d) ⟨.ptr d st.gen 0, [(d, some (.box st.gen cs))], reads⟩ a w ((do pure (.pointer (some (← newVar t v))) : Sem Value).run P w) := by
  have hok : ∀ t g, ok t g → layok ok d st.gen t g := fun _ _ => .inl
  refine laid_new (o := .cells v.cells t) (loc := ⟨w.heap.size, 0, 0, false⟩) h hf rfl rfl (fun own' hg => ?_) (v := .pointer (some ⟨w.heap.size, 0, none⟩)) (fun own' => ?_) ?_
  · simp only [RegOk, layβ_new]
    exact ⟨trivial, h.n0le, v.cells, t, by simp, hrep.mono hg hok (fun _ _ => layβ_old hf)⟩
  · have := RepV.ptr (w := { w with heap := w.heap.push (.cells v.cells t) }) (own := own') (β := layβ β d st.gen ⟨w.heap.size, 0, 0, false⟩) (ok := layok ok d st.gen) (t := d) (g := st.gen) (off := 0) (.inr ⟨rfl, rfl⟩)
    rw [layβ_new] at this; exact this
  · simp only [newVar, Sem.run_bind, newRow_run, Result.andThen_ok, Sem.run_pure]

/-- A row of the frame's own, in a new block. -/
theorem laid_row' (h : StRel n0 ext β ok st a w) {d : Nat} (hf : ¬ ok d st.gen) {e : TypeId} {es : Nat} {els : List (List AV)} {vs rest : List Value} {c : Array Value} {cap : Nat} (hc : c.toList = vs ++ rest)
    (hrep : RepCL w (ownOf ext β st.σ) els.flatten vs) (hes : ∀ x ∈ els, x.length = es) (hcap : els.length ≤ cap) (hsz : cap * es ≤ c.size) {reads : List Nat} {run : Result Value} {upd : List (Nat × Option Reg)}
    (hσ : ∀ t r', (applyUpd st.σ upd)[t]? = some (some r') → (t = d ∧ r' = .row st.gen es els) ∨ (t ≠ d ∧ st.σ[t]? = some (some r')))
    (hrun : run = .ok (.slice (some ⟨w.heap.size, 0, none⟩) els.length cap) { w with heap := w.heap.push (.cells c e) }) :
    Laid n0 ext ok st (some d) ⟨.view d st.gen, upd, reads⟩ a w run := by
  refine laid_new' (o := .cells c e) (loc := ⟨w.heap.size, cap, els.length, false⟩) h hf rfl rfl hσ (fun own' hg => ?_) (fun own' => ?_) hrun
  · simp only [RegOk, layβ_new]
    exact ⟨trivial, hes, hcap, .inr ⟨trivial, h.n0le, c, e, vs, rest, by simp, hc, hrep.mono hg, hsz⟩⟩
  · have := RepV.view (w := { w with heap := w.heap.push (.cells c e) }) (own := own') (β := layβ β d st.gen ⟨w.heap.size, cap, els.length, false⟩) (ok := layok ok d st.gen) (t := d) (g := st.gen) (.inr ⟨rfl, rfl⟩)
    rw [layβ_new] at this; exact this
theorem laid_row (h : StRel n0 ext β ok st a w) {d : Nat} (hf : ¬ ok d st.gen) {e : TypeId} {es : Nat} {els : List (List AV)} {vs rest : List Value} {c : Array Value} {cap : Nat} (hc : c.toList = vs ++ rest)
    (hrep : RepCL w (ownOf ext β st.σ) els.flatten vs) (hes : ∀ x ∈ els, x.length = es) (hcap : els.length ≤ cap) (hsz : cap * es ≤ c.size) {reads : List Nat} {run : Result Value}
    (hrun : run = .ok (.slice (some ⟨w.heap.size, 0, none⟩) els.length cap) { w with heap := w.heap.push (.cells c e) }) :
    Laid n0 ext ok st (some d) ⟨.view d st.gen, [(d, some (.row st.gen es els))], reads⟩ a w run := laid_row' h hf hc hrep hes hcap hsz set1_sto hrun

theorem alloc_sound (h : StRel n0 ext β ok st a w) {d : Nat} (hf : ¬ ok d st.gen) {t : TypeId} {z : List AV} (hz : (ti P t).zero = some z) (hk : okSize P t = true) :
    Laid n0 ext ok st (some d) ⟨.ptr d st.gen 0, [(d, some (.box st.gen z))], []⟩ a w ((Instr.alloc t true (.tuple #[])).run P w) := by
  obtain ⟨i, dd, hi, _, _, _, _, hzero⟩ := okSize_info hk
  rw [hz] at hzero
  obtain ⟨zv, hzv, rfl⟩ : ∃ zv, i.zero = some zv ∧ z = zv.cells.toList.map leaf := by
    cases hq : i.zero with
    | none => rw [hq] at hzero; cases hzero
    | some zv => rw [hq] at hzero; simp at hzero; exact ⟨zv, rfl, hzero⟩
  have := laid_var (P := P) (t := t) h hf (v := zv) (cs := zv.cells.toList.map leaf) (leafs_repV _) (reads := [])
  have e : (Instr.alloc t true (.tuple #[])).run P w = ((do pure (.pointer (some (← newVar t zv))) : Sem Value).run P w) := by
    simp only [Instr.alloc, Sem.run_bind, zeroValue, typeInfo, Sem.run, program]
    simp [hi, hzv, pure]
  rw [e]; exact this

theorem box_sound (h : StRel n0 ext β ok st a w) {d : Nat} (hf : ¬ ok d st.gen) {t : TypeId} {x : AV} {v : Value} (hx : RepV w (ownOf ext β st.σ) β ok x v) {xs : List AV} (hc : cellsA x = some xs) :
    Laid n0 ext ok st (some d) ⟨.ptr d st.gen 0, [(d, some (.box st.gen xs))], []⟩ a w ((Instr.box t v).run P w) := by
  have := laid_var (P := P) (t := t) h hf (v := v) (cs := xs) (cellsA_rep hc hx) (reads := [])
  exact this
end
end Go.Ab
