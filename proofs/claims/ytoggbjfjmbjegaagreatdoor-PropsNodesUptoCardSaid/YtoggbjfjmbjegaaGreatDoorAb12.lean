/- Calls, any operation, and a region that does not draw. -/
import Derived.Test.YtoggbjfjmbjegaaGreatDoorAb11
import Derived.Laws.Externs
set_option linter.unusedSimpArgs false
set_option linter.unusedVariables false
namespace Go.Ab
open Go.RowKit

section
variable {P : Program} {n0 : Nat → Prop} {ext : Nat → Prop} {β : Nat → Nat → Loc} {ok : Nat → Nat → Prop} {st : St} {a : Act} {w w' : World} {own : Nat → Prop}

def ownLess (ext : Nat → Prop) (β : Nat → Nat → Loc) (σ : Sto) (ks : List Nat) (b : Nat) : Prop :=
  ext b ∨ ∃ t r, σ[t]? = some (some r) ∧ t ∉ ks ∧ (β t r.g).isNil = false ∧ (β t r.g).block = b

theorem ownLess_sub (σ : Sto) (ks : List Nat) (b : Nat) (h : ownLess ext β σ ks b) : ownOf ext β σ b := by
  rcases h with h | ⟨t, r, h1, _, h2⟩
  · exact .inl h
  · exact .inr ⟨t, r, h1, h2⟩
theorem less_grows (w : World) (σ : Sto) (ks : List Nat) : Grows w w (ownOf ext β σ) (ownLess ext β σ ks) := Grows.less (ownLess_sub σ ks)

theorem not_less (h : StRel n0 ext β ok st a w) {k : Nat} {r : Reg} (hk : st.σ[k]? = some (some r)) (hn : (β k r.g).isNil = false) (hn0 : n0 (β k r.g).block) {ks : List Nat} (hks : k ∈ ks) : ¬ ownLess ext β st.σ ks (β k r.g).block := by
  rintro (h1 | ⟨t, r', h1, h2, h3, h4⟩)
  · exact h.extlt _ h1 hn0
  · have hne : k ≠ t := fun e => h2 (e ▸ hks)
    exact h.dist _ _ _ _ hk h1 hne hn h3 h4.symm

theorem row_closed (h : StRel n0 ext β ok st a w) {k g es : Nat} {els : List (List AV)} (hk : st.σ[k]? = some (some (.row g es els))) {ks : List Nat} (hks : k ∈ ks) :
    RepC w (ownLess ext β st.σ ks) (.slice els) (.slice (if (β k g).isNil then none else some ⟨(β k g).block, 0, none⟩) (β k g).len (β k g).cap) ∧
    ((β k g).isNil = false → ∃ vs, RepCL w (ownLess ext β st.σ ks) els.flatten vs ∧ At w (ownLess ext β st.σ ks) ⟨(β k g).block, 0, none⟩ vs ∧ (∀ e ∈ els, e.length = es)) := by
  obtain ⟨_, hreg⟩ := h.regs _ _ hk
  have hreg' := hreg
  obtain ⟨hlen, hes, hcap, h4⟩ := hreg
  cases hn : (β k g).isNil with
  | true =>
    rcases h4 with ⟨_, e0, hc⟩ | ⟨h5, _⟩
    · subst e0; simp at hlen
      refine ⟨?_, fun e => by cases e⟩
      rw [hlen, hc]; exact .slice0
    · rw [hn] at h5; cases h5
  | false =>
    obtain ⟨vs, hre, _, hcell⟩ := row_cells hreg' hn
    rcases h4 with ⟨h5, _⟩ | ⟨_, hn0, _⟩
    · rw [hn] at h5; cases h5
    · have hnl := not_less h hk hn hn0 hks
      have hat : At w (ownLess ext β st.σ ks) ⟨(β k g).block, 0, none⟩ vs := ⟨fun _ => rfl, fun j v hj => ⟨hnl, by rw [Nat.zero_add]; exact hcell j v hj⟩⟩
      have hre' := hre.mono (less_grows w st.σ ks)
      refine ⟨?_, fun _ => ⟨vs, hre', hat, hes⟩⟩
      rw [hlen]
      exact .slice hes hre' hat hcap

theorem closeL_sound {f : AV → Option (AV × List Nat)} {own' : List Nat → Nat → Prop} (hf : ∀ x v y ks ks', RepV w own β ok x v → f x = some (y, ks) → (∀ k ∈ ks, k ∈ ks') → RepC w (own' ks') y v) :
    ∀ {xs : List AV} {vs : List Value} {ys : List AV} {ks ks' : List Nat}, RepVL w own β ok xs vs → closeL f xs = some (ys, ks) → (∀ k ∈ ks, k ∈ ks') → RepCL w (own' ks') ys vs
  | [], _, ys, ks, ks', h, he, _ => by cases h; simp only [closeL, Option.some.injEq, Prod.mk.injEq] at he; obtain ⟨rfl, _⟩ := he; exact .nil
  | x :: xs, _, ys, ks, ks', h, he, hs => by
    cases h with
    | cons h1 h2 =>
      simp only [closeL] at he
      split at he
      · rename_i y k1 ys' k2 e1 e2
        simp only [Option.some.injEq, Prod.mk.injEq] at he; obtain ⟨rfl, rfl⟩ := he
        exact .cons (hf _ _ _ _ _ h1 e1 (fun k hk => hs k (List.mem_append_left _ hk))) (closeL_sound hf h2 e2 (fun k hk => hs k (List.mem_append_right _ hk)))
      · cases he

theorem closeV_sound (h : StRel n0 ext β ok st a w) : ∀ (n : Nat) (x : AV) (v : Value) (y : AV) (ks ks' : List Nat), RepV w (ownOf ext β st.σ) β ok x v → closeV st.σ n x = some (y, ks) → (∀ k ∈ ks, k ∈ ks') → RepC w (ownLess ext β st.σ ks') y v := by
  intro n
  induction n with
  | zero =>
    intro x v y ks ks' hx he hs
    have less := less_grows (ext := ext) (β := β) w st.σ ks'
    cases x <;> simp only [closeV] at he <;> (try (cases he; done))
    case bool => cases he; rw [hx.bool_open]; exact .bool _
    case int => cases he; rw [hx.int_open]; exact .int _ _
    case str => cases he; rw [hx.str_open]; exact .str _
    case slice => cases he; exact hx.slice_open.mono less
    case nils => cases he; rw [hx.nils_open]; exact .nils
    case cptr =>
      cases he; obtain ⟨A, vs, rfl, h1, h2⟩ := hx.cptr_open; exact .cptr (h1.mono less) (h2.mono less)
    case nilFunc => cases he; rw [hx.nilFunc_open]; exact .nilFunc
    case lit => cases he; cases hx with | closed hx => exact hx.mono less
    case view k g =>
      split at he
      · rename_i es els hl
        cases he
        obtain ⟨_, rfl⟩ := hx.view_open
        exact (row_closed h (lookRow_some hl) (hs k (by simp))).1
      · cases he
    case sliceF => cases he; exact hx.sliceF_open.mono less
    case viewF k g =>
      split at he
      · rename_i es els hl
        cases he
        obtain ⟨_, hcl, rfl⟩ := hx.viewF_open
        have hr := (row_closed h (lookRow_some hl) (hs k (by simp))).1
        have hlen : (β k g).len = els.length := (h.regs _ _ (lookRow_some hl)).2.1
        rw [hcl, hlen] at hr ⊢
        exact hr.full
      · cases he
    case rptr k g es i off =>
      split at he
      · rename_i es' els hl
        split at he
        · rename_i hc
          obtain ⟨rfl, hi⟩ := hc
          cases he
          obtain ⟨_, rfl⟩ := hx.rptr_open
          have hk := lookRow_some hl
          obtain ⟨_, hreg⟩ := h.regs _ _ hk
          have hn : (β k g).isNil = false := by
            rcases hreg.2.2.2 with ⟨_, e0, _⟩ | ⟨h5, _⟩
            · subst e0; simp at hi
            · exact h5
          obtain ⟨vs, h1, h2, hes⟩ := (row_closed h hk (hs k (by simp))).2 hn
          have h3 : RepCL w (ownLess ext β st.σ ks') (els.getD i []) ((vs.drop (i * es)).take es) := by rw [← getD_flatten hes hi]; exact (h1.drop _).take _
          have h4 := (((h2.drop (i * es)).take es).drop off)
          have e : ((⟨(β k g).block, 0, none⟩ : Addr).add (i * es)).add off = ⟨(β k g).block, i * es + off, none⟩ := by rw [add_zero_block]; unfold Addr.add; split <;> simp_all
          rw [e] at h4
          exact .cptr (h3.drop off) h4
        · cases he
      · cases he
  | succ n ih =>
    intro x v y ks ks' hx he hs
    have less := less_grows (ext := ext) (β := β) w st.σ ks'
    have recl : ∀ {xs : List AV} {vs : List Value} {ys : List AV} {ks ks' : List Nat}, RepVL w (ownOf ext β st.σ) β ok xs vs → closeL (closeV st.σ n) xs = some (ys, ks) → (∀ k ∈ ks, k ∈ ks') → RepCL w (ownLess ext β st.σ ks') ys vs :=
      fun h1 h2 h3 => closeL_sound (own' := fun ks => ownLess ext β st.σ ks) (fun x v y ks ks' => ih x v y ks ks') h1 h2 h3
    cases x <;> simp only [closeV] at he <;> (try (cases he; done))
    case bool => cases he; rw [hx.bool_open]; exact .bool _
    case int => cases he; rw [hx.int_open]; exact .int _ _
    case str => cases he; rw [hx.str_open]; exact .str _
    case slice => cases he; exact hx.slice_open.mono less
    case nils => cases he; rw [hx.nils_open]; exact .nils
    case cptr =>
      cases he; obtain ⟨A, vs, rfl, h1, h2⟩ := hx.cptr_open; exact .cptr (h1.mono less) (h2.mono less)
    case nilFunc => cases he; rw [hx.nilFunc_open]; exact .nilFunc
    case lit => cases he; cases hx with | closed hx => exact hx.mono less
    case view k g =>
      split at he
      · rename_i es els hl
        cases he
        obtain ⟨_, rfl⟩ := hx.view_open
        exact (row_closed h (lookRow_some hl) (hs k (by simp))).1
      · cases he
    case sliceF => cases he; exact hx.sliceF_open.mono less
    case viewF k g =>
      split at he
      · rename_i es els hl
        cases he
        obtain ⟨_, hcl, rfl⟩ := hx.viewF_open
        have hr := (row_closed h (lookRow_some hl) (hs k (by simp))).1
        have hlen : (β k g).len = els.length := (h.regs _ _ (lookRow_some hl)).2.1
        rw [hcl, hlen] at hr ⊢
        exact hr.full
      · cases he
    case rptr k g es i off =>
      split at he
      · rename_i es' els hl
        split at he
        · rename_i hc
          obtain ⟨rfl, hi⟩ := hc
          cases he
          obtain ⟨_, rfl⟩ := hx.rptr_open
          have hk := lookRow_some hl
          obtain ⟨_, hreg⟩ := h.regs _ _ hk
          have hn : (β k g).isNil = false := by
            rcases hreg.2.2.2 with ⟨_, e0, _⟩ | ⟨h5, _⟩
            · subst e0; simp at hi
            · exact h5
          obtain ⟨vs, h1, h2, hes⟩ := (row_closed h hk (hs k (by simp))).2 hn
          have h3 : RepCL w (ownLess ext β st.σ ks') (els.getD i []) ((vs.drop (i * es)).take es) := by rw [← getD_flatten hes hi]; exact (h1.drop _).take _
          have h4 := (((h2.drop (i * es)).take es).drop off)
          have e : ((⟨(β k g).block, 0, none⟩ : Addr).add (i * es)).add off = ⟨(β k g).block, i * es + off, none⟩ := by rw [add_zero_block]; unfold Addr.add; split <;> simp_all
          rw [e] at h4
          exact .cptr (h3.drop off) h4
        · cases he
      · cases he
    case ptr k g off =>
      split at he
      · rename_i cs hl
        split at he
        · rename_i ys ks0 hcl
          cases he
          obtain ⟨_, rfl⟩ := hx.ptr_open
          have hk := lookBox_some hl
          obtain ⟨_, hreg⟩ := h.regs _ _ hk
          obtain ⟨hn, hn0, c, ty, vs, rest, hh, hcl0, hrep, _⟩ := hreg
          have hnl := not_less h hk hn hn0 (hs k (by simp))
          have h1 := recl hrep hcl (fun q hq => hs q (by simp [hq]))
          have h2 : At w (ownLess ext β st.σ ks') ⟨(β k g).block, 0, none⟩ vs := ⟨fun _ => rfl, fun j v hj => ⟨hnl, cells_at hh j v (prefix_at hcl0 hj)⟩⟩
          have h4 := h2.drop off
          rw [add_zero_block] at h4
          exact .cptr (h1.drop off) h4
        · cases he
      · cases he
    case agg cs =>
      split at he
      · rename_i ys ks0 hcl
        cases he
        obtain ⟨vs, rfl, h1⟩ := hx.agg_open
        exact .agg (recl h1 hcl hs)
      · cases he
    case func fn cs =>
      split at he
      · rename_i ys ks0 hcl
        cases he
        obtain ⟨vs, rfl, h1⟩ := hx.func_open
        exact .func (recl h1 hcl hs)
      · cases he
    case mfunc fn cs =>
      split at he
      · rename_i ys ks0 hcl
        cases he
        obtain ⟨vs, rfl, h1⟩ := hx.mfunc_open
        exact .mfunc (recl h1 hcl hs)
      · cases he
    case tuple cs =>
      split at he
      · rename_i ys ks0 hcl
        cases he
        obtain ⟨vs, rfl, h1⟩ := hx.tuple_open
        exact .tuple (recl h1 hcl hs)
      · cases he

theorem scalarL_rep {own own' : Nat → Prop} : ∀ {xs : List AV} {vs : List Value}, scalarL xs = true → RepCL w own xs vs → RepCL w own' xs vs
  | [], _, _, h => by cases h; exact .nil
  | x :: xs, _, hs, h => by
    cases h with
    | cons h1 h2 =>
      cases x <;> simp only [scalarL] at hs <;> (try (cases hs; done)) <;> refine .cons ?_ (scalarL_rep hs h2) <;> cases h1
      · exact .bool _
      · exact .int _ _
      · exact .str _
      · exact .nils
      · exact .nilFunc
      · exact .lit _
theorem scalarB_rep {own own' : Nat → Prop} {x : AV} {v : Value} (hs : scalarB x = true) (h : RepC w own x v) : RepC w own' x v := by
  cases x <;> simp only [scalarB] at hs <;> (try (cases hs; done)) <;> cases h
  · exact .bool _
  · exact .int _ _
  · exact .str _
  · rename_i h; exact .agg (scalarL_rep hs h)
  · exact .nils
  · exact .nilFunc
  · rename_i h; exact .tuple (scalarL_rep hs h)
  · exact .lit _

theorem StRel.below (h : StRel n0 ext β ok st a w) (hb : Below w.heap.size w w') : StRel n0 ext β ok st a w' := by
  have hg : Grows w w' (ownOf ext β st.σ) (ownOf ext β st.σ) := Grows.below hb (Nat.le_refl _) (fun _ _ x => x)
  exact ⟨h.temps.mono hg (fun _ _ x => x) (fun _ _ _ => rfl), fun t r hr => let ⟨h1, h2⟩ := h.regs t r hr; ⟨h1, h2.mono (fun _ _ _ => rfl) h1 (fun _ _ x => x) hg (fun hn => hb.block _ (reg_lt h hr hn))⟩, h.dist, h.extlt, fun b hb' => h.n0le b (Nat.le_trans hb.size hb'), h.defers, h.glob.mono hg⟩

theorem killed_sto : ∀ {ks : List Nat} {σ : Sto} {t : Nat} {r : Reg}, (applyUpd σ (killed ks))[t]? = some (some r) → σ[t]? = some (some r) ∧ t ∉ ks
  | [], σ, t, r, h => ⟨h, by simp⟩
  | k :: ks, σ, t, r, h => by
    have h' : (applyUpd (σ.set k none) (killed ks))[t]? = some (some r) := h
    obtain ⟨h1, h2⟩ := killed_sto h'
    rw [List.getElem?_set] at h1
    split at h1
    · split at h1
      · simp at h1
      · cases h1
    · rename_i e; exact ⟨h1, by simp [h2]; exact fun e' => e e'.symm⟩
theorem StRel.kill (h : StRel n0 ext β ok st a w) (ks : List Nat) : StRel n0 ext β ok ⟨st.τ, applyUpd st.σ (killed ks), st.gen⟩ a w := by
  have hsub : ∀ b, ownOf ext β (applyUpd st.σ (killed ks)) b → ownOf ext β st.σ b := by
    rintro b (h1 | ⟨t, r, h1, h2⟩)
    · exact .inl h1
    · exact .inr ⟨t, r, (killed_sto h1).1, h2⟩
  have hg : Grows w w (ownOf ext β st.σ) (ownOf ext β (applyUpd st.σ (killed ks))) := Grows.less hsub
  exact ⟨h.temps.mono hg (fun _ _ x => x) (fun _ _ _ => rfl), fun t r hr => let ⟨h1, h2⟩ := h.regs t r (killed_sto hr).1; ⟨h1, h2.mono (fun _ _ _ => rfl) h1 (fun _ _ x => x) hg (fun _ => rfl)⟩,
    fun t t' r r' h1 h2 => h.dist t t' r r' (killed_sto h1).1 (killed_sto h2).1, h.extlt, h.n0le, h.defers, h.glob.mono hg⟩

theorem buildEls_congr {ρ ρ' : Operand → AV} {es : Nat} : ∀ {ps : List (Nat × Operand)} {k : Nat}, (∀ p ∈ ps, ρ' p.2 = ρ p.2) → buildEls ρ' es k ps = buildEls ρ es k ps
  | [], _, _ => rfl
  | (j, x) :: ps, k, h => by
    simp only [buildEls]
    rw [h (j, x) (by simp), buildEls_congr (fun p hp => h p (by simp [hp]))]
theorem lit_sound (h : StRel n0 ext β ok st a w) {o : Oper} {r : Res} (hf : allocB o.op = true → ∀ d, o.dst = some d → ¬ ok d st.gen) (hl : litA P (opnd st.τ) st.σ st.gen o.dst o.op = some r) : Goes P n0 ext β ok st o r a w := by
  obtain ⟨dst, op, ty, pos, after, guard⟩ := o
  simp only at hl hf ⊢
  unfold litA at hl
  split at hl
  · rename_i d t len parts
    split at hl
    · rename_i e ht
      split at hl
      · rename_i els z hb hz
        split at hl
        · rename_i hc
          obtain ⟨h1, h2, h3, h4⟩ := hc
          simp only [Option.some.injEq] at hl
          subst hl
          generalize hks : (parts.toList.flatMap fun p => closeK st.σ (opnd st.τ p.2)) = ks
          have hk := h.kill ks
          have hless : Grows w w (ownLess ext β st.σ ks) (ownOf ext β (applyUpd st.σ (killed ks))) := Grows.less (by
            rintro b (h1 | ⟨t, r', h1, h2⟩)
            · exact .inl h1
            · exact .inr ⟨t, r', (killed_sto h1).1, (killed_sto h1).2, h2⟩)
          have hρ : ∀ x, RepV w (ownOf ext β (applyUpd st.σ (killed ks))) β ok (if (closeK st.σ (opnd st.τ x)).all (fun k => decide (k ∈ ks)) = true then closeO st.σ (opnd st.τ x) else .any) (a.eval x) := by
            intro x
            split
            · rename_i hsub
              unfold closeO
              unfold closeK at hsub
              split
              · rename_i y ks' hcl
                rw [hcl] at hsub
                simp only [List.all_eq_true, decide_eq_true_eq] at hsub
                exact .closed ((closeV_sound h 4 _ _ _ _ ks (h.opnd x) hcl hsub).mono hless)
              · exact .closed (.any _)
            · exact .closed (.any _)
          have hb' := hb
          rw [← buildEls_congr (ρ' := fun x => if (closeK st.σ (opnd st.τ x)).all (fun k => decide (k ∈ ks)) = true then closeO st.σ (opnd st.τ x) else .any) (fun p hp => by
            rw [if_pos]
            simp only [List.all_eq_true, decide_eq_true_eq]
            intro k hk
            rw [← hks]
            exact List.mem_flatMap.2 ⟨p, hp, hk⟩)] at hb'
          have hL := buildSlice_sound (P := P) (st := ⟨st.τ, applyUpd st.σ (killed ks), st.gen⟩) (t := t) (len := len) (parts := parts) hk (hf rfl d rfl) hρ ht hb' hz h1 h2 h3 h4
          obtain ⟨v, w', β', ok', g1, g2, g3, g4⟩ := hL
          have hL' : Laid n0 ext β ok st (some d) ⟨.view d st.gen, killed ks ++ [(d, some (.row st.gen (ti P e).size els))], ks⟩ a w ((Instr.buildSlice t len (parts.map fun (i, x) => (i, a.eval x))).run P w) := by
            refine ⟨v, w', β', ok', g1, ?_, g3, g4⟩
            have e1 : st.after (some d) ⟨.view d st.gen, killed ks ++ [(d, some (.row st.gen (ti P e).size els))], ks⟩ = (⟨st.τ, applyUpd st.σ (killed ks), st.gen⟩ : St).after (some d) ⟨.view d st.gen, [(d, some (.row st.gen (ti P e).size els))], []⟩ := by
              simp only [St.after, applyUpd, List.foldl_append]
            rw [e1]; exact g2
          exact hL'.goes rfl rfl
        · cases hl
      · cases hl
    · cases hl
  · cases hl

theorem lend_some {σ : Sto} {ks : List Nat} {n k : Nat} {r : Reg} (h : (lend σ ks n)[k]? = some (some r)) : σ[k]? = some (some r) ∧ k ∈ ks := by
  unfold lend at h
  rw [List.getElem?_map] at h
  cases hr : (List.range n)[k]? with
  | none => rw [hr] at h; cases h
  | some j =>
    have : j = k := by
      have h1 := List.getElem?_eq_some_iff.mp hr
      obtain ⟨h2, h3⟩ := h1
      simpa using h3.symm
    subst this
    rw [hr] at h
    simp only [Option.map_some, Option.some.injEq] at h
    split at h
    · rename_i hk
      refine ⟨?_, List.contains_iff_mem.mp hk⟩
      rw [List.getD_eq_getElem?_getD] at h
      cases hs : σ[j]? with
      | none => rw [hs] at h; cases h
      | some o => rw [hs] at h; simp at h; rw [h]
    · cases h
theorem RegOk.dirt {N N' : Nat → Prop} {own : Nat → Prop} {t : Nat} {r : Reg} (h : RegOk N w own β ok t r) (hN : (β t r.g).isNil = false → N' (β t r.g).block) : RegOk N' w own β ok t r := by
  cases r with
  | box g cs => exact ⟨h.1, hN h.1, h.2.2⟩
  | row g es els =>
    obtain ⟨h1, h2, h3, h4⟩ := h
    refine ⟨h1, h2, h3, h4.imp id fun ⟨a, b, c⟩ => ⟨a, hN a, c⟩⟩
  | mapr g ents => exact ⟨h.1, hN h.1, h.2.2⟩
theorem back_sto {σ σ' : Sto} {ks : List Nat} : ∀ {k : Nat} {r : Reg}, (applyUpd σ (ks.map fun k => (k, σ'.getD k none)))[k]? = some (some r) → (k ∈ ks ∧ σ'[k]? = some (some r)) ∨ (k ∉ ks ∧ σ[k]? = some (some r)) := by
  induction ks generalizing σ with
  | nil => intro k r h; exact .inr ⟨by simp, h⟩
  | cons j ks ih =>
    intro k r h
    have h' : (applyUpd (σ.set j (σ'.getD j none)) (ks.map fun k => (k, σ'.getD k none)))[k]? = some (some r) := h
    rcases ih h' with ⟨h1, h2⟩ | ⟨h1, h2⟩
    · exact .inl ⟨by simp [h1], h2⟩
    · rw [List.getElem?_set] at h2
      split at h2
      · rename_i e
        subst e
        split at h2
        · simp only [Option.some.injEq] at h2
          refine .inl ⟨by simp, ?_⟩
          rw [List.getD_eq_getElem?_getD] at h2
          cases hs : σ'[j]? with
          | none => rw [hs] at h2; cases h2
          | some o => rw [hs] at h2; simp at h2; rw [h2]
        · cases h2
      · rename_i e
        exact .inr ⟨by simp [h1]; exact fun e' => e e'.symm, h2⟩

def dirtOf (β : Nat → Nat → Loc) (σ : Sto) (w : World) (b : Nat) : Prop := (∃ t r, σ[t]? = some (some r) ∧ (β t r.g).isNil = false ∧ (β t r.g).block = b) ∨ w.heap.size ≤ b
theorem StRel.narrow (h : StRel n0 ext β ok st a w) : StRel (dirtOf β st.σ w) ext β ok st a w := by
  refine ⟨h.temps, fun t r hr => ?_, h.dist, ?_, fun b hb => .inr hb, h.defers, h.glob⟩
  · obtain ⟨h1, h2⟩ := h.regs t r hr
    exact ⟨h1, h2.dirt fun hn => .inl ⟨t, r, hr, hn, rfl⟩⟩
  · rintro b h1 (⟨t, r, h2, h3, rfl⟩ | h2)
    · exact h.extlt _ h1 (reg_dirt h h2 h3)
    · exact h.extlt _ h1 (h.n0le _ h2)
theorem dirt_n0 (h : StRel n0 ext β ok st a w) {b : Nat} (hb : dirtOf β st.σ w b) : n0 b := by
  rcases hb with ⟨t, r, h2, h3, rfl⟩ | h2
  · exact reg_dirt h h2 h3
  · exact h.n0le _ h2
theorem StRel.relay (h : StRel n0 ext β ok st a w) {σ' : Sto} {β' : Nat → Nat → Loc} {ok' : Nat → Nat → Prop} {τ2 : List AV} {gen2 : Nat} {a2 : Act} (hf : StRel (dirtOf β st.σ w) ext β' ok' ⟨τ2, σ', gen2⟩ a2 w') (hb : Bel (dirtOf β st.σ w) w w') (hx : Exts β ok β' ok')
    {x : AV} {v : Value} (hv : RepV w' (ownOf ext β' σ') β' ok' x v) (dst : Option Tmp) : StRel n0 ext β' ok' ⟨putτ st.τ dst x, σ', st.gen⟩ (a.put dst v) w' := by
  have hgr : Grows w w' (ownOf ext β st.σ) (ownOf ext β' σ') := by
    intro b o u h1 h2
    have hlt := cell?_lt h2
    have hnd : ¬ dirtOf β st.σ w b := by
      rintro (⟨t, r, h3, h4, h5⟩ | h3)
      · exact h1 (.inr ⟨t, r, h3, h4, h5⟩)
      · omega
    refine ⟨?_, ?_⟩
    · rintro (h3 | ⟨t, r, h3, h4, rfl⟩)
      · exact h1 (.inl h3)
      · exact hnd (reg_dirt hf h3 h4)
    · rw [← h2]; simp only [World.cell?, hb.block b hnd]
  have hst : StRel n0 ext β' ok' ⟨st.τ, σ', st.gen⟩ a w' :=
    ⟨h.temps.mono hgr (fun t g hk => (hx t g hk).1) (fun t g hk => (hx t g hk).2), fun t r hr => let ⟨h1, h2⟩ := hf.regs t r hr; ⟨h1, h2.dirt fun hn => dirt_n0 h (reg_dirt hf hr hn)⟩, hf.dist, h.extlt, fun b hb' => h.n0le b (Nat.le_trans hb.size hb'), h.defers, h.glob.mono hgr⟩
  exact hst.still dst hv
theorem StRel.pad (h : StRel n0 ext β ok st a w) (m : Nat) : StRel n0 ext β ok ⟨st.τ ++ List.replicate m .any, st.σ, st.gen⟩ { a with tmps := a.tmps ++ Array.replicate m undef } w := by
  refine ⟨?_, h.regs, h.dist, h.extlt, h.n0le, h.defers, h.glob⟩
  simp only [Array.toList_append, Array.toList_replicate]
  refine h.temps.append ?_
  induction m with
  | zero => exact .nil
  | succ m ih => exact .cons (.closed (.any _)) ih
theorem opnd_pad (τ : List AV) (m : Nat) (x : Operand) : opnd (τ ++ List.replicate m .any) x = opnd τ x := by
  cases x with
  | tmp t =>
    simp only [opnd, List.getD_eq_getElem?_getD]
    by_cases h : t < τ.length
    · rw [List.getElem?_append_left h]
    · rw [List.getElem?_append_right (Nat.le_of_not_lt h), List.getElem?_eq_none (l := τ) (Nat.le_of_not_lt h), List.getElem?_replicate]
      split <;> rfl
  | const => rfl
  | global => rfl
  | func => rfl
theorem eval_pad (a : Act) (m : Nat) : ({ a with tmps := a.tmps ++ Array.replicate m undef } : Act).eval = a.eval := by
  funext x
  cases x with
  | tmp t =>
    simp only [Act.eval, Array.getD_eq_getD_getElem?]
    by_cases h : t < a.tmps.size
    · rw [Array.getElem?_append_left h]
    · rw [Array.getElem?_append_right (Nat.le_of_not_lt h), Array.getElem?_eq_none (xs := a.tmps) (Nat.le_of_not_lt h), Array.getElem?_replicate]
      split <;> rfl
  | const => rfl
  | global => rfl
  | func => rfl
theorem lay_goes (h : StRel n0 ext β ok st a w) {o : Oper} {k : Nat} {r : Res} (hgo : ∀ a', StRel (dirtOf β st.σ w) ext β ok ⟨st.τ ++ List.replicate (k + 1) .any, st.σ, st.gen⟩ a' w →
      Goes P (dirtOf β st.σ w) ext β ok ⟨st.τ ++ List.replicate (k + 1) .any, st.σ, st.gen⟩ { o with dst := some k } r a' w) :
    ∃ nxt v w' β' ok', (execOp a.eval o).run P w = .ok nxt w' ∧ (nxt = .value v ∨ (nxt = .skip ∧ v = undef)) ∧ StRel n0 ext β' ok' (st.after o.dst r) (a.put o.dst v) w' ∧ Bel n0 w w' ∧ (∀ t g, ok' t g → ok t g ∨ (t = k ∧ g = st.gen)) ∧ Exts β ok β' ok' := by
  obtain ⟨nxt, v, w', β', ok', h1, h2, h3, h4, h5, h6⟩ := hgo _ (h.narrow.pad (k + 1))
  rw [eval_pad] at h1
  refine ⟨nxt, v, w', β', ok', h1, h2, ?_, ?_, ?_, h6⟩
  · have hval : RepV w' (ownOf ext β' (applyUpd st.σ r.upd)) β' ok' r.v v := by
      have ht := h3.temps
      have hl : k < (putτ (st.τ ++ List.replicate (k + 1) .any) (some k) r.v).length := by simp [putτ]; omega
      obtain ⟨u, hu, hru⟩ := ht.get k hl
      have e1 : (putτ (st.τ ++ List.replicate (k + 1) .any) (some k) r.v)[k] = r.v := by simp [putτ]
      have e2 : u = v := by
        rw [put_toList] at hu
        simp only at hu
        rw [List.getElem?_set_self (by simp; omega)] at hu
        exact (Option.some.inj hu).symm
      rw [e2] at hru
      have e3 : (St.after (⟨st.τ ++ List.replicate (k + 1) .any, st.σ, st.gen⟩ : St) (some k) r).σ = applyUpd st.σ r.upd := rfl
      rw [e3] at hru
      have e4 : (St.after (⟨st.τ ++ List.replicate (k + 1) .any, st.σ, st.gen⟩ : St) (some k) r).τ[k]'hl = r.v := e1
      rw [e4] at hru
      exact hru
    exact h.relay (gen2 := st.gen) h3 h4 h6 hval o.dst
  · exact ⟨h4.os, h4.tape, h4.output, h4.size, fun b hb => h4.block b fun hd => hb (dirt_n0 h hd)⟩
  · intro t g hk
    rcases h5 t g hk with h7 | ⟨_, h7, h8⟩
    · exact .inl h7
    · exact .inr ⟨(Option.some.inj h7).symm, h8⟩

theorem pure_noalloc {ρ : Operand → AV} {op : Op} {x : Prop × AV} (h : pureOp P ρ op = some x) : allocB op = false := by
  cases op <;> (try rfl) <;> (try (simp only [pureOp] at h; cases h; done))
  rename_i c
  simp only [pureOp] at h
  simp only [allocB]
  split at h
  · rename_i e; rw [e]
  · rename_i e; rw [e]
  · rename_i e; rw [e]
  · cases h
theorem callOf_run (h : StRel n0 ext β ok st a w) {o : Oper} {f : FuncId} {args : List AV} (hc : callOf (opnd st.τ) o.op = some (f, args)) :
    ∃ vals : List Value, RepVL w (ownOf ext β st.σ) β ok args vals ∧ (execOp a.eval o).run P w = (callFunc f vals.toArray).run P w := by
  obtain ⟨dst, op, ty, pos, after, guard⟩ := o
  simp only at hc
  unfold callOf at hc
  split at hc
  · rename_i c
    split at hc
    · rename_i fo hfo
      split at hc
      · rename_i n cap hρ
        simp only [Option.some.injEq, Prod.mk.injEq] at hc; obtain ⟨rfl, rfl⟩ := hc
        have hfr := h.opnd fo; rw [hρ] at hfr
        obtain ⟨cvs, hfv, hcap⟩ := hfr.func_open
        refine ⟨_, (RepVL.map (fun x => h.opnd x) _).append hcap, ?_⟩
        have e2 : (c.args.map a.eval ++ cvs.toArray) = (c.args.toList.map a.eval ++ cvs).toArray := by apply Array.toList_inj.mp; simp
        simp only [execOp, resolve, hfo, hfv, Deferred.ofValue, Sem.run_bind, Sem.run_pure, Result.andThen_ok, invoke, Array.empty_append]
        rw [e2]
      · rename_i n fs hρ
        simp only [Option.some.injEq, Prod.mk.injEq] at hc; obtain ⟨rfl, rfl⟩ := hc
        have hfr := h.opnd fo; rw [hρ] at hfr
        obtain ⟨fvs, hfv, hcap⟩ := hfr.mfunc_open
        refine ⟨_, hcap.append (RepVL.map (fun x => h.opnd x) _), ?_⟩
        have e2 : (fvs.toArray ++ c.args.map a.eval) = (fvs ++ c.args.toList.map a.eval).toArray := by apply Array.toList_inj.mp; simp
        simp only [execOp, resolve, hfo, hfv, Deferred.ofValue, Sem.run_bind, Sem.run_pure, Result.andThen_ok, invoke, Array.append_empty]
        rw [e2]
      · cases hc
    · cases hc
  · cases hc
theorem callOf_enter (h : StRel n0 ext β ok st a w) {o : Oper} {f : FuncId} {args : List AV} (hc : callOf (opnd st.τ) o.op = some (f, args)) (hcall : callable P f = true) :
    ∃ vals : List Value, RepVL w (ownOf ext β st.σ) β ok args vals ∧ (execOp a.eval o).run P w = .ok (.enter f vals.toArray) w := by
  obtain ⟨fn, hfn, hbody, hname⟩ : ∃ fn, P.funcs[f]? = some fn ∧ fn.body.isSome = true ∧ (fn.name == "runtime.NumGoroutine") = false := by
    unfold callable at hcall
    split at hcall
    · rename_i fn hfn
      simp only [Bool.and_eq_true, Bool.not_eq_true'] at hcall
      exact ⟨fn, hfn, hcall.1, hcall.2⟩
    · cases hcall
  have e1 : fn.body.isNone = false := by cases hb : fn.body <;> simp [hb] at hbody ⊢
  obtain ⟨vals, h1, h2⟩ := callOf_run (P := P) h hc
  refine ⟨vals, h1, ?_⟩
  rw [h2]
  simp only [callFunc, program, Sem.run_bind]
  simp only [Sem.run, hfn, hname, e1, Bool.false_eq_true, if_false, Result.andThen_ok]
  rfl
/-! The functions that the model stands in for. -/
def s64 : Array Value → Sem Value := fun args => do
  let (x, y, b) ← Extern.MathBitsCarry.three "Sub64" args
  pure (Extern.MathBitsCarry.pair ((x + Extern.MathBitsCarry.m64 - y - b) % Extern.MathBitsCarry.m64) (if x < y + b then 1 else 0))
theorem find_add64 {fn : Func} (hn : fn.name = "math/bits.Add64") (ho : fn.origin = "") : Extern.findNext fn = none ∧ Extern.find fn = some add64Entry := by
  cases fn
  simp only at hn ho
  subst hn; subst ho
  exact ⟨by kernel_rfl, by kernel_rfl⟩
theorem find_sub64 {fn : Func} (hn : fn.name = "math/bits.Sub64") (ho : fn.origin = "") : Extern.findNext fn = none ∧ Extern.find fn = some s64 := by
  cases fn
  simp only at hn ho
  subst hn; subst ho
  exact ⟨by kernel_rfl, by kernel_rfl⟩
theorem run_add64A {f : FuncId} {fn : Func} (hf : P.funcs[f]? = some fn) (hn : fn.name = "math/bits.Add64") (ho : fn.origin = "") (hb : fn.body.isNone = true) (x y c : Nat) (hc : c ≤ 1) :
    (callFunc f #[.int .u64 (x : Int), .int .u64 (y : Int), .int .u64 (c : Int)]).run P w = .ok (.value (.tuple #[.int .u64 (((x + y + c) % 18446744073709551616 : Nat) : Int), .int .u64 (((x + y + c) / 18446744073709551616 : Nat) : Int)])) w := by
  rw [run_callFunc_extern hf (by rw [hn]; rfl) hb (find_add64 hn ho).1 (find_add64 hn ho).2, run_add64 x y c (by omega) (by omega) (by omega) (by omega)]
  simp only [Result.andThen]
  congr 5 <;> omega
theorem run_sub64A {f : FuncId} {fn : Func} (hf : P.funcs[f]? = some fn) (hn : fn.name = "math/bits.Sub64") (ho : fn.origin = "") (hb : fn.body.isNone = true) (x y b : Nat) (hc : b ≤ 1) :
    (callFunc f #[.int .u64 (x : Int), .int .u64 (y : Int), .int .u64 (b : Int)]).run P w = .ok (.value (.tuple #[.int .u64 (((x + 18446744073709551616 - y - b) % 18446744073709551616 : Nat) : Int), .int .u64 ((if x < y + b then 1 else 0 : Nat) : Int)])) w := by
  have e : (s64 #[.int .u64 (x : Int), .int .u64 (y : Int), .int .u64 (b : Int)]).run P w =
      .ok (.tuple #[.int .u64 (((x + 18446744073709551616 - y - b) % 18446744073709551616 : Nat) : Int), .int .u64 ((if x < y + b then 1 else 0 : Nat) : Int)]) w := by
    have : b = 0 ∨ b = 1 := by omega
    rcases this with rfl | rfl <;> rfl
  rw [run_callFunc_extern hf (by rw [hn]; rfl) hb (find_sub64 hn ho).1 (find_sub64 hn ho).2, e]
  rfl
theorem ext_run {w : World} {own : Nat → Prop} {β : Nat → Nat → Loc} {ok : Nat → Nat → Prop} {f : FuncId} {args : List AV} {r : AV} {vals : List Value} (he : extB P f args = some r) (hr : RepVL w own β ok args vals) :
    ∃ v, (callFunc f vals.toArray).run P w = .ok (.value v) w ∧ RepC w own r v := by
  unfold extB at he
  split at he
  · rename_i fn hf
    split at he
    · rename_i hc
      obtain ⟨hb, ho⟩ := hc
      split at he
      · rename_i x y c hn
        split at he
        · rename_i hx
          simp only [Option.some.injEq] at he; subst he
          rcases hr with _ | ⟨h1, _ | ⟨h2, _ | ⟨h3, _ | _⟩⟩⟩
          obtain rfl := h1.int_open; obtain rfl := h2.int_open; obtain rfl := h3.int_open
          obtain ⟨x, rfl⟩ := Int.eq_ofNat_of_zero_le hx.1
          obtain ⟨y, rfl⟩ := Int.eq_ofNat_of_zero_le hx.2.1
          obtain ⟨c, rfl⟩ := Int.eq_ofNat_of_zero_le hx.2.2.1
          refine ⟨_, run_add64A hf hn ho hb x y c (by omega), ?_⟩
          exact .tuple (.cons (.int _ _) (.cons (.int _ _) .nil))
        · cases he
      · rename_i x y c hn
        split at he
        · rename_i hx
          simp only [Option.some.injEq] at he; subst he
          rcases hr with _ | ⟨h1, _ | ⟨h2, _ | ⟨h3, _ | _⟩⟩⟩
          obtain rfl := h1.int_open; obtain rfl := h2.int_open; obtain rfl := h3.int_open
          obtain ⟨x, rfl⟩ := Int.eq_ofNat_of_zero_le hx.1
          obtain ⟨y, rfl⟩ := Int.eq_ofNat_of_zero_le hx.2.1
          obtain ⟨c, rfl⟩ := Int.eq_ofNat_of_zero_le hx.2.2.1
          refine ⟨_, run_sub64A hf hn ho hb x y c (by omega), ?_⟩
          exact .tuple (.cons (.int _ _) (.cons (.int _ _) .nil))
        · cases he
      · cases he
    · cases he
  · cases he
theorem Exec.wp (h : StRel n0 ext β ok st a w) {rs : List Nat} {o : Oper} {r : Res} (he : Exec P rs st o r) (hrs : ∀ k ∈ rs, ¬ ok k st.gen) (hgen : ∀ t g, ok t g → g ≤ st.gen) {K : Act → World → Prop} {Q : Exit → Act → World → Prop}
    (hK : ∀ β' ok' a' w', StRel n0 ext β' ok' (st.after o.dst r) a' w' → Bel n0 w w' → (∀ t g, ok' t g → ok t g ∨ (t ∈ rs ∧ g = st.gen)) → Exts β ok β' ok' → K a' w') : o.wp P a w K Q := by
  have goes : (allocB o.op = true → ∀ d, o.dst = some d → d ∈ rs) → Goes P n0 ext β ok st o r a w → o.wp P a w K Q := by
    rintro hin ⟨nxt, v, w', β', ok', h1, h2, h3, h4, h5, h6⟩
    unfold Oper.wp
    rw [h1]
    rcases h2 with rfl | ⟨rfl, rfl⟩
    · exact hK _ _ _ _ h3 h4 (fun t g hk => (h5 t g hk).imp id fun ⟨x, y, z⟩ => ⟨hin x t y, z⟩) h6
    · exact hK _ _ _ _ h3 h4 (fun t g hk => (h5 t g hk).imp id fun ⟨x, y, z⟩ => ⟨hin x t y, z⟩) h6
  cases he with
  | pure hp hpre =>
    obtain ⟨v, hv, hr⟩ := pure_sound (ρA := opnd st.τ) (ρ := a.eval) (fun x => h.opnd x) hp hpre
    exact goes (fun e => by rw [pure_noalloc hp] at e; cases e) ⟨.value v, v, w, β, ok, hv, .inl rfl, h.still o.dst hr, Bel.refl _ _, fun t g hk => .inl hk, .refl _ _⟩
  | mem hm hpre hin => exact goes hin (memOp_sound h hm hpre fun e d hd => hrs d (hin e d hd))
  | lit hl hin => exact goes hin (lit_sound h (fun e d hd => hrs d (hin e d hd)) hl)
  | @call f args args' ks r hc hcl hA =>
    obtain ⟨hcall, hA⟩ := hA
    -- the arguments
    obtain ⟨dst, op, ty, pos, after, guard⟩ := o
    simp only at hc hK
    obtain ⟨vals, hargs, hrun⟩ := callOf_enter (o := ⟨dst, op, ty, pos, after, guard⟩) h hc hcall
    clear hc
    · · · have hcl' : RepCL w (ownLess ext β st.σ ks) args' vals :=
            closeL_sound (own' := fun ks => ownLess ext β st.σ ks) (fun x v y ks ks' => closeV_sound h 4 x v y ks ks') hargs hcl (fun _ hk => hk)
          have hless : ∀ b, ownLess ext β st.σ ks b → ownOf ext β st.σ b := by
            rintro b (h1 | ⟨t, r', h1, _, h2⟩)
            · exact .inl h1
            · exact .inr ⟨t, r', h1, h2⟩
          have hlt : ∀ b, ownLess ext β st.σ ks b → b < w.heap.size := by
            rintro b (h1 | ⟨t, r', h1, _, h2, rfl⟩)
            · exact Nat.lt_of_not_le fun hle => h.extlt _ h1 (h.n0le _ hle)
            · exact reg_lt h h1 h2
          unfold Oper.wp
          rw [hrun]
          refine (hA w (ownLess ext β st.σ ks) _ hlt (h.glob.mono (Grows.less hless)) hcl').mono ?_
          rintro e w' ⟨v, rfl, hrv, hbel⟩
          have hb0 : Bel n0 w w' := .of_below hbel h.n0le
          have hst := h.below hbel
          cases hsc : scalarB r
          · have hst2 := hst.kill ks
            have hrv2 : RepC w' (ownOf ext β (applyUpd st.σ (killed ks))) r v := hrv.mono (Grows.less (by
              rintro b (h1 | ⟨t, r', h1, h2⟩)
              · exact .inl h1
              · exact .inr ⟨t, r', (killed_sto h1).1, (killed_sto h1).2, h2⟩))
            have hfin := hst2.still dst (x := r) (.closed hrv2)
            refine hK β ok _ _ ?_ hb0 (fun t g hk => .inl hk) (.refl _ _)
            simp only [hsc]; exact hfin
          · have hfin := hst.still dst (x := r) (.closed (scalarB_rep hsc hrv))
            refine hK β ok _ _ ?_ hb0 (fun t g hk => .inl hk) (.refl _ _)
            simp only [hsc]; exact hfin
  | @fcall f args args' ks es els d hc hcl hA hd hdr =>
    obtain ⟨hcall, hA⟩ := hA
    -- the arguments
    obtain ⟨dst, op, ty, pos, after, guard⟩ := o
    simp only at hc hK
    obtain ⟨vals, hargs, hrun⟩ := callOf_enter (o := ⟨dst, op, ty, pos, after, guard⟩) h hc hcall
    clear hc
    · · · have hcl' : RepCL w (ownLess ext β st.σ ks) args' vals :=
            closeL_sound (own' := fun ks => ownLess ext β st.σ ks) (fun x v y ks ks' => closeV_sound h 4 x v y ks ks') hargs hcl (fun _ hk => hk)
          have hless : ∀ b, ownLess ext β st.σ ks b → ownOf ext β st.σ b := by
            rintro b (h1 | ⟨t, r', h1, _, h2⟩)
            · exact .inl h1
            · exact .inr ⟨t, r', h1, h2⟩
          have hlt : ∀ b, ownLess ext β st.σ ks b → b < w.heap.size := by
            rintro b (h1 | ⟨t, r', h1, _, h2, rfl⟩)
            · exact Nat.lt_of_not_le fun hle => h.extlt _ h1 (h.n0le _ hle)
            · exact reg_lt h h1 h2
          unfold Oper.wp
          rw [hrun]
          refine (hA w (ownLess ext β st.σ ks) _ hlt (h.glob.mono (Grows.less hless)) hcl').mono ?_
          rintro e w' ⟨loc, rfl, hreg, hbel⟩
          have hb0 : Bel n0 w w' := .of_below hbel h.n0le
          simp only at hd
          subst hd
          have hfd := hrs d hdr
          have hge : loc.isNil = false → w.heap.size ≤ loc.block := by
            intro hn
            rcases hreg.2.2.2 with ⟨h1, _⟩ | ⟨_, h1, _⟩
            · rw [hn] at h1; cases h1
            · exact h1
          generalize hks : (if scalarL els.flatten = true then ([] : List (Nat × Option Reg)) else killed ks) = kl at hK ⊢
          have hkl : ∀ {t : Nat} {r' : Reg}, (applyUpd st.σ kl)[t]? = some (some r') → st.σ[t]? = some (some r') ∧ (scalarL els.flatten = true ∨ t ∉ ks) := by
            intro t r' ht
            rw [← hks] at ht
            split at ht
            · rename_i hsc; exact ⟨ht, .inl hsc⟩
            · exact ⟨(killed_sto ht).1, .inr (killed_sto ht).2⟩
          have hσ : ∀ t r', (applyUpd st.σ (kl ++ [(d, some (.row st.gen es els))]))[t]? = some (some r') → (t = d ∧ r' = .row st.gen es els) ∨ (t ≠ d ∧ (applyUpd st.σ kl)[t]? = some (some r')) := by
            intro t r' ht
            have e1 : applyUpd st.σ (kl ++ [(d, some (.row st.gen es els))]) = (applyUpd st.σ kl).set d (some (.row st.gen es els)) := by
              simp only [applyUpd, List.foldl_append, List.foldl_cons, List.foldl_nil]
            rw [e1] at ht
            exact set_sto _ _ ht
          have L : Lays n0 β ok st w w' d (.row st.gen es els) (applyUpd st.σ (kl ++ [(d, some (.row st.gen es els))])) loc :=
            ⟨hfd, rfl, fun t r' ht => (hσ t r' ht).imp id fun ⟨h1, h2⟩ => ⟨h1, (hkl h2).1⟩, hbel.size, fun b hb _ => hbel.block b hb, fun hn => ⟨h.n0le _ (hge hn), .inl (hge hn)⟩⟩
          have hreg2 : RegOk n0 w' (ownOf ext (layβ β d st.gen loc) (applyUpd st.σ (kl ++ [(d, some (.row st.gen es els))]))) (layβ β d st.gen loc) (layok ok d st.gen) d (.row st.gen es els) := by
            obtain ⟨a1, a2, a3, a4⟩ := hreg
            simp only [RegOk, layβ_new]
            refine ⟨a1, a2, a3, a4.imp id ?_⟩
            rintro ⟨b1, b2, cc, ty, us, rest, b3, b4, b5, b6⟩
            refine ⟨b1, h.n0le _ b2, cc, ty, us, rest, b3, b4, ?_, b6⟩
            by_cases hsc : scalarL els.flatten = true
            · exact scalarL_rep hsc b5
            · refine b5.mono (Grows.less ?_)
              rintro b (k1 | ⟨t, r', k1, k2, k3⟩)
              · exact .inl (.inl k1)
              · rcases hσ t r' k1 with ⟨rfl, rfl⟩ | ⟨k4, k5⟩
                · simp only [Reg.g, layβ_new] at k2 k3
                  exact .inr ⟨k2, k3.symm⟩
                · obtain ⟨k6, k7⟩ := hkl k5
                  have k8 := (h.regs _ _ k6).1
                  rw [layβ_old hfd k8] at k2 k3
                  exact .inl (.inr ⟨t, r', k6, k7.resolve_left hsc, k2, k3⟩)
          have R := L.rel h hreg2
          have hv := RepV.view (w := w') (own := ownOf ext (layβ β d st.gen loc) (applyUpd st.σ (kl ++ [(d, some (.row st.gen es els))]))) (β := layβ β d st.gen loc) (ok := layok ok d st.gen) (t := d) (g := st.gen) (.inr ⟨rfl, rfl⟩)
          rw [layβ_new] at hv
          have := R.still (some d) (x := .view d st.gen) hv
          refine hK (layβ β d st.gen loc) (layok ok d st.gen) _ _ this hb0 ?_ (exts_lay hfd)
          rintro t g (hk | ⟨rfl, rfl⟩)
          · exact .inl hk
          · exact .inr ⟨hdr, rfl⟩
  | @ext f args r hc hE =>
    obtain ⟨vals, h1, h2⟩ := callOf_run (P := P) h hc
    obtain ⟨v, h3, h4⟩ := ext_run hE h1
    unfold Oper.wp
    rw [h2, h3]
    exact hK β ok _ _ (h.still o.dst (.closed h4)) (Bel.refl _ _) (fun t g hk => .inl hk) (.refl _ _)
  | cell hm hal => exact goes (fun e => by rw [hal] at e; cases e) (memS_sound h hm fun e => by rw [hal] at e; cases e)
  | @lay r k hk hm =>
    obtain ⟨nxt, v, w', β', ok', h1, h2, h3, h4, h5, h6⟩ := lay_goes (P := P) (o := o) (k := k) (r := r) h (fun a' ha' => memS_sound (o := { o with dst := some k }) ha' (by
      have e : opnd (st.τ ++ List.replicate (k + 1) .any) = opnd st.τ := funext fun x => opnd_pad _ _ x
      simp only [e]; exact hm) (fun _ d hd => by cases hd; exact hrs k hk))
    have h5' : ∀ t g, ok' t g → ok t g ∨ (t ∈ rs ∧ g = st.gen) := fun t g hq => (h5 t g hq).imp id fun ⟨x, y⟩ => ⟨x ▸ hk, y⟩
    unfold Oper.wp
    rw [h1]
    rcases h2 with rfl | ⟨rfl, rfl⟩
    · exact hK _ _ _ _ h3 h4 h5' h6
    · exact hK _ _ _ _ h3 h4 h5' h6
  | @layM pre r k hk hm hpre =>
    obtain ⟨nxt, v, w', β', ok', h1, h2, h3, h4, h5, h6⟩ := lay_goes (P := P) (o := o) (k := k) (r := r) h (fun a' ha' => memOp_sound (pre := pre) (o := { o with dst := some k }) ha' (by
      have e : opnd (st.τ ++ List.replicate (k + 1) .any) = opnd st.τ := funext fun x => opnd_pad _ _ x
      simp only [e]; exact hm) hpre (fun _ d hd => by cases hd; exact hrs k hk))
    have h5' : ∀ t g, ok' t g → ok t g ∨ (t ∈ rs ∧ g = st.gen) := fun t g hq => (h5 t g hq).imp id fun ⟨x, y⟩ => ⟨x ▸ hk, y⟩
    unfold Oper.wp
    rw [h1]
    rcases h2 with rfl | ⟨rfl, rfl⟩
    · exact hK _ _ _ _ h3 h4 h5' h6
    · exact hK _ _ _ _ h3 h4 h5' h6
  | @gcall f args r σ' ls ms nn hc hM hms =>
    obtain ⟨hcall, hM⟩ := hM
    obtain ⟨dst, op, ty, pos, after, guard⟩ := o
    simp only at hc hK
    obtain ⟨vals, hargs, hrun⟩ := callOf_enter (o := ⟨dst, op, ty, pos, after, guard⟩) h hc hcall
    clear hc
    · · · unfold Oper.wp
          rw [hrun]
          -- what is lent
          let stl : St := ⟨args, lend st.σ ls nn, st.gen⟩
          let ext' : Nat → Prop := fun b => ext b ∨ ∃ t r', st.σ[t]? = some (some r') ∧ (lend st.σ ls nn)[t]? ≠ some (some r') ∧ (β t r'.g).isNil = false ∧ (β t r'.g).block = b
          have hown : ∀ b, ownOf ext' β (lend st.σ ls nn) b → ownOf ext β st.σ b := by
            rintro b ((h1 | ⟨t, r', h1, _, h2⟩) | ⟨t, r', h1, h2⟩)
            · exact .inl h1
            · exact .inr ⟨t, r', h1, h2⟩
            · exact .inr ⟨t, r', (lend_some h1).1, h2⟩
          have hN : ∀ b, dirtOf β (lend st.σ ls nn) w b → n0 b := by
            rintro b (⟨t, r', h1, h2, rfl⟩ | h1)
            · exact reg_dirt h (lend_some h1).1 h2
            · exact h.n0le _ h1
          have hlst : StRel (dirtOf β (lend st.σ ls nn) w) ext' β ok stl { tmps := vals.toArray, defers := [] } w := by
            refine ⟨by simpa using hargs.mono (Grows.less hown) (fun _ _ x => x) (fun _ _ _ => rfl), fun t r' hr => ?_, fun t t' r1 r2 h1 h2 => h.dist t t' r1 r2 (lend_some h1).1 (lend_some h2).1, ?_, fun b hb => .inr hb, rfl, h.glob.mono (Grows.less hown)⟩
            · obtain ⟨h1, h2⟩ := h.regs t r' (lend_some hr).1
              refine ⟨h1, RegOk.dirt (N := n0) ?_ (fun hn => .inl ⟨t, r', hr, hn, rfl⟩)⟩
              exact h2.mono (fun _ _ _ => rfl) h1 (fun _ _ x => x) (Grows.less hown) (fun _ => rfl)
            · rintro b (h1 | ⟨t, r', h1, h2, h3, h4⟩) h5
              · exact h.extlt _ h1 (hN b h5)
              · rcases h5 with ⟨t2, r2, h6, h7, h8⟩ | h5
                · by_cases e : t = t2
                  · subst e
                    have e2 : r' = r2 := by
                      have := (lend_some h6).1
                      rw [h1] at this
                      exact Option.some.inj (Option.some.inj this)
                    subst e2
                    exact h2 h6
                  · exact h.dist t t2 r' r2 h1 (lend_some h6).1 e h3 h7 (h4.trans h8.symm)
                · have := reg_lt h h1 h3
                  rw [h4] at this
                  omega
          refine (hM _ ext' β ok _ w hlst hgen hrs).mono ?_
          rintro e w' ⟨v, β', ok', rfl, hfin, hok', hx, hbel⟩
          have hb0 : Bel n0 w w' := ⟨hbel.os, hbel.tape, hbel.output, hbel.size, fun k hk => hbel.block k fun h1 => hk (hN k h1)⟩
          generalize hσ2 : applyUpd st.σ ((ms ++ rs).map fun k => (k, σ'.getD k none)) = σ2 at hK ⊢
          have hback : ∀ {k : Nat} {r : Reg}, σ2[k]? = some (some r) → (True ∧ σ'[k]? = some (some r)) ∨ ((lend st.σ ls nn)[k]? ≠ some (some r) ∧ st.σ[k]? = some (some r)) := by
            intro k r hk
            rw [← hσ2] at hk
            rcases back_sto hk with ⟨_, h4⟩ | ⟨h0, h4⟩
            · exact .inl ⟨trivial, h4⟩
            · by_cases hl : (lend st.σ ls nn)[k]? = some (some r)
              · left
                refine ⟨trivial, ?_⟩
                have h5 := hms k (lend_some hl).2 (fun e => h0 (List.mem_append_left _ e))
                rw [List.getD_eq_getElem?_getD, List.getD_eq_getElem?_getD, hl] at h5
                cases hs : σ'[k]? with
                | none => rw [hs] at h5; cases h5
                | some o => rw [hs] at h5; simp at h5; rw [h5]
              · exact .inr ⟨hl, h4⟩
          -- a region that was not lent lies apart from all that came back
          have hout : ∀ {t : Nat} {r' : Reg}, (lend st.σ ls nn)[t]? ≠ some (some r') → st.σ[t]? = some (some r') → (β t r'.g).isNil = false → ext' (β t r'.g).block := by
            intro t r' h0 h4 hn
            exact .inr ⟨t, r', h4, h0, hn, rfl⟩
          have hsub : ∀ b, ownOf ext β' σ2 b → ownOf ext' β' σ' b := by
            rintro b (h1 | ⟨t, r', h1, h2, h3⟩)
            · exact .inl (.inl h1)
            · rcases hback h1 with ⟨_, h4⟩ | ⟨h0, h4⟩
              · exact .inr ⟨t, r', h4, h2, h3⟩
              · rw [(hx t r'.g (h.regs _ _ h4).1).2] at h2 h3
                exact .inl (h3 ▸ hout h0 h4 h2)
          have hgr : Grows w w' (ownOf ext β st.σ) (ownOf ext β' σ2) := by
            intro b o u hb hv
            have hlt := cell?_lt hv
            have hnd : ¬ dirtOf β (lend st.σ ls nn) w b := by
              rintro (⟨t, r', h1, h2⟩ | h1)
              · exact hb (.inr ⟨t, r', (lend_some h1).1, h2⟩)
              · omega
            refine ⟨?_, ?_⟩
            · rintro (h1 | ⟨t, r', h1, h2, rfl⟩)
              · exact hb (.inl h1)
              · rcases hback h1 with ⟨_, h4⟩ | ⟨_, h4⟩
                · exact hnd (reg_dirt hfin h4 h2)
                · rw [(hx t r'.g (h.regs _ _ h4).1).2] at hb h2
                  exact hb (.inr ⟨t, r', h4, h2, rfl⟩)
            · rw [← hv]; simp only [World.cell?, hbel.block b hnd]
          have hgr2 : Grows w' w' (ownOf ext' β' σ') (ownOf ext β' σ2) := Grows.less hsub
          have hst2 : StRel n0 ext β' ok' ⟨st.τ, σ2, st.gen⟩ a w' := by
            refine ⟨h.temps.mono hgr (fun t g hk => (hx t g hk).1) (fun t g hk => (hx t g hk).2), fun t r' hr => ?_, fun t t' r1 r2 h1 h2 hne n1 n2 => ?_, h.extlt, fun b hb => h.n0le b (Nat.le_trans hbel.size hb), h.defers, h.glob.mono hgr⟩
            · rcases hback hr with ⟨_, h4⟩ | ⟨h0, h4⟩
              · obtain ⟨h5, h6⟩ := hfin.regs t r' h4
                refine ⟨h5, ?_⟩
                have h7 := h6.mono (β' := β') (ok' := ok') (fun _ _ _ => rfl) h5 (fun _ _ x => x) hgr2 (fun _ => rfl)
                exact h7.dirt fun hn => hN _ (reg_dirt hfin h4 hn)
              · obtain ⟨h5, h6⟩ := h.regs t r' h4
                refine ⟨(hx _ _ h5).1, h6.mono (fun s g hk => (hx s g hk).2) h5 (fun s g hk => (hx s g hk).1) hgr fun hn => ?_⟩
                exact hbel.block _ (hlst.extlt _ (hout h0 h4 hn))
            · rcases hback h1 with ⟨_, h4⟩ | ⟨h0, h4⟩ <;> rcases hback h2 with ⟨_, h4'⟩ | ⟨h0', h4'⟩
              · exact hfin.dist t t' r1 r2 h4 h4' hne n1 n2
              · rw [(hx t' r2.g (h.regs _ _ h4').1).2] at n2 ⊢
                intro e
                exact hlst.extlt _ (hout h0' h4' n2) (e ▸ reg_dirt hfin h4 n1)
              · rw [(hx t r1.g (h.regs _ _ h4).1).2] at n1 ⊢
                intro e
                exact hlst.extlt _ (hout h0 h4 n1) (e ▸ reg_dirt hfin h4' n2)
              · rw [(hx t r1.g (h.regs _ _ h4).1).2] at n1 ⊢
                rw [(hx t' r2.g (h.regs _ _ h4').1).2] at n2 ⊢
                exact h.dist t t' r1 r2 h4 h4' hne n1 n2
          have hrv : RepV w' (ownOf ext β' σ2) β' ok' r v := by
            have := hfin.temps
            cases this with
            | cons h1 _ => exact h1.mono hgr2 (fun _ _ x => x) (fun _ _ _ => rfl)
          have := hst2.still dst (x := r) hrv
          exact hK β' ok' _ _ (by simp only [St.after, hσ2]; exact this) hb0 (fun t g hk => hok' t g hk) hx
  | @mcall f args r σ' ks nn hc hM =>
    obtain ⟨hcall, hG, hM⟩ := hM
    obtain ⟨dst, op, ty, pos, after, guard⟩ := o
    simp only at hc hK
    obtain ⟨vals, hargs, hrun⟩ := callOf_enter (o := ⟨dst, op, ty, pos, after, guard⟩) h hc hcall
    clear hc
    · · · unfold Oper.wp
          rw [hrun]
          -- what is lent
          have hblk : ∀ b, (∃ t r', (lend st.σ ks nn)[t]? = some (some r') ∧ (β t r'.g).isNil = false ∧ (β t r'.g).block = b) → n0 b ∧ ∃ t r', st.σ[t]? = some (some r') ∧ t ∈ ks ∧ (β t r'.g).isNil = false ∧ (β t r'.g).block = b := by
            rintro b ⟨t, r', h1, h2, h3⟩
            obtain ⟨h4, h5⟩ := lend_some h1
            exact ⟨h3 ▸ reg_dirt h h4 h2, t, r', h4, h5, h2, h3⟩
          let N' : Nat → Prop := fun b => (∃ t r', (lend st.σ ks nn)[t]? = some (some r') ∧ (β t r'.g).isNil = false ∧ (β t r'.g).block = b) ∨ w.heap.size ≤ b
          have hN : ∀ b, N' b → n0 b := fun b hb => hb.elim (fun h1 => (hblk b h1).1) (h.n0le b)
          let ext' : Nat → Prop := fun b => ext b ∨ ∃ t r', st.σ[t]? = some (some r') ∧ (lend st.σ ks nn)[t]? ≠ some (some r') ∧ (β t r'.g).isNil = false ∧ (β t r'.g).block = b
          have hown : ∀ b, ownOf ext' β (lend st.σ ks nn) b → ownOf ext β st.σ b := by
            rintro b ((h1 | ⟨t, r', h1, _, h2⟩) | ⟨t, r', h1, h2⟩)
            · exact .inl h1
            · exact .inr ⟨t, r', h1, h2⟩
            · exact .inr ⟨t, r', (lend_some h1).1, h2⟩
          have hlst : StRel N' ext' β ok ⟨args, lend st.σ ks nn, st.gen⟩ { tmps := vals.toArray, defers := [] } w := by
            refine ⟨by simpa using hargs.mono (Grows.less hown) (fun _ _ x => x) (fun _ _ _ => rfl), fun t r' hr => ?_, fun t t' r1 r2 h1 h2 => h.dist t t' r1 r2 (lend_some h1).1 (lend_some h2).1, ?_, fun b hb => .inr hb, rfl, h.glob.mono (Grows.less hown)⟩
            · obtain ⟨h1, h2⟩ := h.regs t r' (lend_some hr).1
              refine ⟨h1, RegOk.dirt (N := n0) ?_ (fun hn => .inl ⟨t, r', hr, hn, rfl⟩)⟩
              exact h2.mono (fun _ _ _ => rfl) h1 (fun _ _ x => x) (Grows.less hown) (fun _ => rfl)
            · rintro b (h1 | ⟨t, r', h1, h2, h3, h4⟩) (h5 | h5)
              · exact h.extlt _ h1 (hblk b h5).1
              · exact h.extlt _ h1 (h.n0le _ h5)
              · obtain ⟨t2, r2, h6, h7, h8⟩ := h5
                by_cases e : t = t2
                · subst e
                  have e2 : r' = r2 := by
                    have := (lend_some h6).1
                    rw [h1] at this
                    exact Option.some.inj (Option.some.inj this)
                  subst e2
                  exact h2 h6
                · exact h.dist t t2 r' r2 h1 (lend_some h6).1 e h3 h7 (h4.trans h8.symm)
              · have := reg_lt h h1 h3
                rw [h4] at this
                omega
          refine (hM N' ext' β ok _ w hlst hgen).mono ?_
          rintro e w' ⟨v, rfl, hfin, hbel⟩
          have hb0 : Bel n0 w w' := ⟨hbel.os, hbel.tape, hbel.output, hbel.size, fun k hk => hbel.block k fun h1 => hk (hN k h1)⟩
          -- the frame's own memory afterwards
          generalize hσ2 : applyUpd st.σ (ks.map fun k => (k, σ'.getD k none)) = σ2 at hK ⊢
          have hback : ∀ {k : Nat} {r : Reg}, σ2[k]? = some (some r) → (k ∈ ks ∧ σ'[k]? = some (some r)) ∨ (k ∉ ks ∧ st.σ[k]? = some (some r)) := by
            intro k r hk; rw [← hσ2] at hk; exact back_sto hk
          have hsub : ∀ b, ownOf ext β σ2 b → ownOf ext β st.σ b := by
            rintro b (h1 | ⟨t, r', h1, h2, h3⟩)
            · exact .inl h1
            · rcases hback h1 with ⟨_, h4⟩ | ⟨_, h4⟩
              · obtain ⟨r0, h5, h6⟩ := hG _ _ h4
                rw [← h6] at h2 h3
                exact .inr ⟨t, r0, (lend_some h5).1, h2, h3⟩
              · exact .inr ⟨t, r', h4, h2, h3⟩
          have hgr : Grows w w' (ownOf ext β st.σ) (ownOf ext β σ2) := by
            intro b o v hb hv
            refine ⟨fun h1 => hb (hsub b h1), ?_⟩
            have hlt := cell?_lt hv
            have hbk : w'.heap[b]? = w.heap[b]? := hbel.block b (by
              rintro (h1 | h1)
              · obtain ⟨_, t, r', h2, _, h3⟩ := hblk b h1
                exact hb (.inr ⟨t, r', h2, h3⟩)
              · omega)
            rw [← hv]
            simp only [World.cell?, hbk]
          have hfin2 : ∀ b, ownOf ext β σ2 b → ownOf ext' β σ' b ∨ False := by
            rintro b (h1 | ⟨t, r', h1, h2, h3⟩)
            · exact .inl (.inl (.inl h1))
            · rcases hback h1 with ⟨_, h4⟩ | ⟨h0, h4⟩
              · exact .inl (.inr ⟨t, r', h4, h2, h3⟩)
              · exact .inl (.inl (.inr ⟨t, r', h4, fun e => h0 (lend_some e).2, h2, h3⟩))
          have hgr2 : Grows w' w' (ownOf ext' β σ') (ownOf ext β σ2) := Grows.less fun b hb => (hfin2 b hb).resolve_right id
          have hst2 : StRel n0 ext β ok ⟨st.τ, σ2, st.gen⟩ a w' := by
            refine ⟨h.temps.mono hgr (fun _ _ x => x) (fun _ _ _ => rfl), fun t r' hr => ?_, fun t t' r1 r2 h1 h2 hne n1 n2 => ?_, h.extlt, fun b hb => h.n0le b (Nat.le_trans hbel.size hb), h.defers, h.glob.mono hgr⟩
            · rcases hback hr with ⟨_, h4⟩ | ⟨h0, h4⟩
              · obtain ⟨h5, h6⟩ := hfin.regs t r' h4
                refine ⟨h5, ?_⟩
                have h7 := h6.mono (β' := β) (ok' := ok) (fun _ _ _ => rfl) h5 (fun _ _ x => x) hgr2 (fun _ => rfl)
                refine RegOk.dirt h7 fun hn => ?_
                obtain ⟨r0, h8, h9⟩ := hG _ _ h4
                rw [← h9] at hn ⊢
                exact reg_dirt h (lend_some h8).1 hn
              · obtain ⟨h5, h6⟩ := h.regs t r' h4
                refine ⟨h5, h6.mono (fun _ _ _ => rfl) h5 (fun _ _ x => x) hgr fun hn => ?_⟩
                refine hbel.block _ ?_
                rintro (⟨t2, r2, h7, h8, h9⟩ | h7)
                · have hne : t ≠ t2 := fun e => h0 (e ▸ (lend_some h7).2)
                  exact h.dist t t2 r' r2 h4 (lend_some h7).1 hne hn h8 h9.symm
                · have := reg_lt h h4 hn; omega
            · have old : ∀ {k : Nat} {r : Reg}, σ2[k]? = some (some r) → ∃ r0, st.σ[k]? = some (some r0) ∧ r0.g = r.g := by
                intro k r hk
                rcases hback hk with ⟨_, h4⟩ | ⟨_, h4⟩
                · obtain ⟨r0, h5, h6⟩ := hG _ _ h4
                  exact ⟨r0, (lend_some h5).1, h6⟩
                · exact ⟨r, h4, rfl⟩
              obtain ⟨q1, g1, e1⟩ := old h1
              obtain ⟨q2, g2, e2⟩ := old h2
              rw [← e1] at n1 ⊢
              rw [← e2] at n2 ⊢
              exact h.dist t t' q1 q2 g1 g2 hne n1 n2
          have hrv : RepV w' (ownOf ext β σ2) β ok r v := by
            have := hfin.temps
            cases this with
            | cons h1 _ => exact h1.mono hgr2 (fun _ _ x => x) (fun _ _ _ => rfl)
          have := hst2.still dst (x := r) hrv
          exact hK β ok _ _ (by simp only [St.after, hσ2]; exact this) hb0 (fun t g hk => .inl hk) (.refl _ _)
end
end Go.Ab
