/- Two steps that the code does not take: a nil slice as a row of its own; a row that is not written again. -/
import Derived.Test.YtmlaogjndaeihaaGreatDoorAb16
namespace Go.Ab
open Go.RowKit

def putAll (τ : List AV) (x : AV) : List Nat → List AV
  | [] => τ
  | t :: ts => putAll (τ.set t x) x ts
section
variable {P : Program} {n0 : Nat} {ext : Nat → Prop} {β : Nat → Nat → Loc} {ok : Nat → Nat → Prop} {st : St} {a : Act} {w w' : World} {own : Nat → Prop} {Q : Exit → St → Prop} {c : Code}
theorem RepVL.set_same : ∀ {xs : List AV} {vs : List Value} {i : Nat} {x : AV}, RepVL w own β ok xs vs → (∀ v, vs[i]? = some v → RepV w own β ok x v) → RepVL w own β ok (xs.set i x) vs
  | [], _, i, x, h, _ => by simpa using h
  | y :: xs, _, i, x, h, hx => by
    cases h with
    | cons h1 h2 =>
      cases i with
      | zero => exact .cons (hx _ rfl) h2
      | succ i => exact .cons h1 (RepVL.set_same h2 (fun v hv => hx v (by simpa using hv)))
theorem RepVL.put_all {x : AV} : ∀ {ts : List Nat} {xs : List AV} {vs : List Value}, RepVL w own β ok xs vs → (∀ i ∈ ts, ∀ v, vs[i]? = some v → RepV w own β ok x v) → RepVL w own β ok (putAll xs x ts) vs
  | [], _, _, h, _ => h
  | t :: ts, xs, vs, h, hx => by
    unfold putAll
    exact RepVL.put_all (ts := ts) (xs := xs.set t x) (h.set_same (hx t (by simp))) (fun i hi => hx i (by simp [hi]))
theorem RepVL.at_get {xs : List AV} {vs : List Value} (h : RepVL w own β ok xs vs) : ∀ {i : Nat} {x : AV} {v : Value}, xs[i]? = some x → vs[i]? = some v → RepV w own β ok x v := by
  induction xs generalizing vs with
  | nil => intro i x v h1; simp at h1
  | cons y xs ih =>
    intro i x v h1 h2
    cases h with
    | cons h3 h4 =>
      cases i with
      | zero => simp at h1 h2; subst h1 h2; exact h3
      | succ i => exact ih h4 (by simpa using h1) (by simpa using h2)

/-- A nil slice in slots ts: from now on a row of the frame's own, at key k. -/
theorem a_nilrow (ts : List Nat) (k es : Nat) (hτ : ∀ t ∈ ts, st.τ[t]? = some .nils) (h : ASpec P c Q ⟨putAll st.τ (.view k st.gen) ts, st.σ.set k (some (.row st.gen es [])), st.gen + 1⟩) : ASpec P c Q st := by
  intro n0 ext w0 a w ⟨β, ok, hs, hg⟩ hb
  have hf : ¬ ok k st.gen := fun hk => Nat.lt_irrefl _ (hg _ _ hk)
  have L : Lays n0 β ok st w w k (.row st.gen es []) (st.σ.set k (some (.row st.gen es []))) ⟨0, 0, 0, true⟩ :=
    ⟨hf, rfl, set_sto, Nat.le_refl _, fun _ _ _ => rfl, fun e => by cases e⟩
  have hR := L.rel hs (by
    refine ⟨?_, by simp, by simp, .inl ⟨?_, rfl, ?_⟩⟩ <;> simp only [layβ_new, List.length_nil])
  refine h n0 ext w0 a w ⟨_, _, ⟨hR.temps.put_all (fun i hi v hv => ?_), hR.regs, hR.dist, hR.extlt, hR.n0le, hR.defers⟩, ?_⟩ hb
  · have h1 := hs.temps.at_get (hτ i hi) hv
    have h2 := h1.nils_open
    subst h2
    have := RepV.view (w := w) (own := ownOf ext (layβ β k st.gen ⟨0, 0, 0, true⟩) (st.σ.set k (some (.row st.gen es [])))) (β := layβ β k st.gen ⟨0, 0, 0, true⟩) (ok := layok ok k st.gen) (t := k) (g := st.gen) (.inr ⟨rfl, rfl⟩)
    rw [layβ_new] at this
    exact this
  · rintro t g (h1 | ⟨_, rfl⟩)
    · exact Nat.lt_succ_of_lt (hg _ _ h1)
    · exact Nat.lt_succ_self _

/-- A row at key k, in slots ts, that is not written again. -/
theorem a_freeze (ts : List Nat) {k g es : Nat} {els : List (List AV)} (hτ : ∀ t ∈ ts, st.τ[t]? = some (.view k g)) (hl : lookRow st.σ k g = some (es, els)) (h : ASpec P c Q ⟨putAll st.τ (.slice els) ts, applyUpd st.σ [(k, none)], st.gen⟩) : ASpec P c Q st := by
  intro n0 ext w0 a w ⟨β, ok, hs, hg⟩ hb
  have hk := hs.kill [k]
  have e : killed [k] = [(k, none)] := rfl
  rw [e] at hk
  have hrow := lookRow_some hl
  obtain ⟨hc, _⟩ := row_closed (ks := [k]) hs hrow (by simp)
  have hsub : ∀ b, ownOf ext β (applyUpd st.σ [(k, none)]) b → ownLess ext β st.σ [k] b := by
    rintro b (h1 | ⟨t, r, h1, h2⟩)
    · exact .inl h1
    · have h3 := killed_sto (ks := [k]) h1
      exact .inr ⟨t, r, h3.1, h3.2, h2⟩
  refine h n0 ext w0 a w ⟨β, ok, ⟨hk.temps.put_all (fun i hi v hv => ?_), hk.regs, hk.dist, hk.extlt, hk.n0le, hk.defers⟩, hg⟩ hb
  have h1 := hs.temps.at_get (hτ i hi) hv
  rw [h1.view_open.2]
  exact .closed (hc.mono (Grows.less hsub))

/-- A row at key k, in slots ts: from now on at key k'. -/
theorem a_rekey (ts : List Nat) (k k' : Nat) {g es : Nat} {els : List (List AV)} (hkk : k ≠ k') (hτ : ∀ t ∈ ts, st.τ[t]? = some (.view k g)) (hl : lookRow st.σ k g = some (es, els))
    (h : ASpec P c Q ⟨putAll st.τ (.view k' st.gen) ts, (st.σ.set k none).set k' (some (.row st.gen es els)), st.gen + 1⟩) : ASpec P c Q st := by
  intro n0 ext w0 a w ⟨β, ok, hs, hg⟩ hb
  have hf : ¬ ok k' st.gen := fun hk => Nat.lt_irrefl _ (hg _ _ hk)
  have hrow := lookRow_some hl
  obtain ⟨hok, hreg⟩ := hs.regs _ _ hrow
  have hsto : ∀ t r', ((st.σ.set k none).set k' (some (.row st.gen es els)))[t]? = some (some r') → (t = k' ∧ r' = .row st.gen es els) ∨ (t ≠ k' ∧ st.σ[t]? = some (some r') ∧ t ≠ k) := by
    intro t r' h1
    rcases set_sto _ _ h1 with h2 | ⟨h2, h3⟩
    · exact .inl h2
    · rw [List.getElem?_set] at h3
      split at h3
      · split at h3 <;> simp at h3
      · rename_i h4; exact .inr ⟨h2, h3, fun e => h4 e.symm⟩
  have L : Lays n0 β ok st w w k' (.row st.gen es els) ((st.σ.set k none).set k' (some (.row st.gen es els))) (β k g) :=
    ⟨hf, rfl, fun t r' h1 => (hsto t r' h1).imp id fun ⟨x, y, _⟩ => ⟨x, y⟩, Nat.le_refl _, fun _ _ _ => rfl, fun hn => by
      obtain ⟨_, _, _, h4⟩ := hreg
      rcases h4 with ⟨h5, _⟩ | ⟨_, h5, _⟩
      · rw [h5] at hn; cases hn
      · refine ⟨h5, .inr ⟨k, _, hrow, hn, rfl, .inr fun r' h6 => ?_⟩⟩
        rcases hsto _ _ h6 with ⟨h7, _⟩ | ⟨_, _, h7⟩
        · exact hkk h7
        · exact h7 rfl⟩
  have hgr := L.grows hs
  have hR := L.rel hs (by
    obtain ⟨h1, h2, h3, h4⟩ := hreg
    refine ⟨by rw [layβ_new]; exact h1, h2, by rw [layβ_new]; exact h3, ?_⟩
    rw [layβ_new]
    rcases h4 with h4 | ⟨h5, h6, c, ty, vs, rest, h7, h8, h9, h10⟩
    · exact .inl h4
    · exact .inr ⟨h5, h6, c, ty, vs, rest, h7, h8, RepCL.mono hgr h9, h10⟩)
  refine h n0 ext w0 a w ⟨_, _, ⟨hR.temps.put_all (fun i hi v hv => ?_), hR.regs, hR.dist, hR.extlt, hR.n0le, hR.defers⟩, ?_⟩ hb
  · have h1 := hs.temps.at_get (hτ i hi) hv
    rw [h1.view_open.2]
    have := RepV.view (w := w) (own := ownOf ext (layβ β k' st.gen (β k g)) ((st.σ.set k none).set k' (some (.row st.gen es els)))) (β := layβ β k' st.gen (β k g)) (ok := layok ok k' st.gen) (t := k') (g := st.gen) (.inr ⟨rfl, rfl⟩)
    rw [layβ_new] at this
    exact this
  · rintro t g' (h1 | ⟨_, rfl⟩)
    · exact Nat.lt_succ_of_lt (hg _ _ h1)
    · exact Nat.lt_succ_self _
end
end Go.Ab
