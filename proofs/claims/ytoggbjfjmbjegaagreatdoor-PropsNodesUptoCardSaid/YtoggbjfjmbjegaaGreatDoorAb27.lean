/- A row of one-cell elements as a variable that can hold slices of the frame's own; closing all of the frame's memory. -/
import Derived.Test.YtoggbjfjmbjegaaGreatDoorAb26
set_option linter.unusedSimpArgs false
set_option linter.unusedVariables false
namespace Go.Ab
section
variable {P : Program} {st : St} {Q : Exit → St → Prop} {c : Code}
theorem a_box (ts : List Nat) {k g : Nat} {els : List (List AV)} (hτ : ∀ t ∈ ts, st.τ[t]? = some (.viewF k g)) (hl : lookRow st.σ k g = some (1, els)) (hne : els ≠ [])
    (h : ASpec P c Q ⟨putAll st.τ (.sl k g 1 0 els.length) ts, st.σ.set k (some (.box g els.flatten)), st.gen⟩) : ASpec P c Q st := by
  intro n0 ext bs w0 a w ⟨β, ok, hs, hg, hx⟩ hb
  have hrow := lookRow_some hl
  obtain ⟨hok, hlen, hes, hcap, h4⟩ := hs.regs _ _ hrow
  simp only [Reg.g] at hok hlen hcap h4
  rcases h4 with ⟨_, e0, _⟩ | ⟨hn, hn0, cc, ty, vs, rest, hh, hcl, hrep, hroom⟩
  · exact absurd e0 hne
  have hin := hs.inplace (w' := w) (rk' := .box g els.flatten) hrow rfl hn rfl (fun _ _ => rfl) (fun own' hgr => by
    refine ⟨hn, hn0, cc, ty, vs, rest, hh, hcl, (hrep.mono hgr).toV, ?_⟩
    simpa using hroom)
  refine h n0 ext bs w0 a w ⟨β, ok, ⟨hin.temps.put_all (fun i hi v hv => ?_), hin.regs, hin.dist, hin.extlt, hin.n0le, hin.defers, hin.glob⟩, hg, hx⟩ hb
  have h1 := hs.temps.at_get (hτ i hi) hv
  obtain ⟨_, hcl2, rfl⟩ := h1.viewF_open
  rw [hn, hlen]
  simp only [Bool.false_eq_true, if_false]
  exact .sl hok (by omega) (by omega)
theorem a_shut (t : Nat) (x : AV) {y : AV} (hτ : st.τ[t]? = some x) (hc : closeW st.σ 5 x = some y) (h : ASpec P c Q ⟨st.τ.set t y, applyUpd st.σ (killed (List.range st.σ.length)), st.gen⟩) : ASpec P c Q st := by
  intro n0 ext bs w0 a w ⟨β, ok, hs, hg, hx⟩ hb
  have hk := hs.kill (List.range st.σ.length)
  refine h n0 ext bs w0 a w ⟨β, ok, ⟨hk.temps.set_same (fun v hv => ?_), hk.regs, hk.dist, hk.extlt, hk.n0le, hk.defers, hk.glob⟩, hg, hx⟩ hb
  have h1 := hs.temps.at_get hτ hv
  have h2 := closeW_sound hs 5 x v y h1 hc
  refine .closed (h2.mono (Grows.less ?_))
  rintro b (h3 | ⟨s, r, h3, h4⟩)
  · exact h3
  · have h5 := killed_sto (ks := List.range st.σ.length) h3
    have h6 : s < st.σ.length := by
      rcases Nat.lt_or_ge s st.σ.length with hq | hq
      · exact hq
      · rw [List.getElem?_eq_none hq] at h5; cases h5.1
    exact absurd (List.mem_range.2 h6) h5.2
theorem ACalls.weakF {f : FuncId} {args args' : List AV} {r : AV} (h : ACalls P f args r) (e : args = args'.map weak) : ACalls P f args' r := by
  refine ⟨h.1, fun w own vs ho hg hr => h.2 w own vs ho hg ?_⟩
  subst e
  clear h
  induction args' generalizing vs with
  | nil => exact hr
  | cons x xs ih => cases hr with | cons h1 h2 => exact .cons h1.weak (ih _ h2)
theorem ACalls.weakR {f : FuncId} {args : List AV} {els : List (List AV)} (h : ACalls P f args (.sliceF els)) : ACalls P f args (.slice els) :=
  ⟨h.1, fun w own vs ho hg hr => (h.2 w own vs ho hg hr).mono fun _ _ ⟨v, e, h1, h2⟩ => ⟨v, e, h1.weak, h2⟩⟩
end
end Go.Ab
