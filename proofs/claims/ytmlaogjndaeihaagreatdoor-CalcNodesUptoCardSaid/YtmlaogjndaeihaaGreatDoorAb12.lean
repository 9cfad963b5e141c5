/- Calls, any operation, and a region that does not draw. -/
import Derived.Test.YtmlaogjndaeihaaGreatDoorAb11
namespace Go.Ab
open Go.RowKit

section
variable {P : Program} {n0 : Nat} {ext : Nat → Prop} {β : Nat → Nat → Loc} {ok : Nat → Nat → Prop} {st : St} {a : Act} {w w' : World} {own : Nat → Prop}

/-- The own memory but for some regions. -/
def ownLess (ext : Nat → Prop) (β : Nat → Nat → Loc) (σ : Sto) (ks : List Nat) (b : Nat) : Prop :=
  ext b ∨ ∃ t r, σ[t]? = some (some r) ∧ t ∉ ks ∧ (β t r.g).isNil = false ∧ (β t r.g).block = b

theorem ownLess_sub (σ : Sto) (ks : List Nat) (b : Nat) (h : ownLess ext β σ ks b) : ownOf ext β σ b := by
  rcases h with h | ⟨t, r, h1, _, h2⟩
  · exact .inl h
  · exact .inr ⟨t, r, h1, h2⟩
theorem less_grows (w : World) (σ : Sto) (ks : List Nat) : Grows w w (ownOf ext β σ) (ownLess ext β σ ks) := Grows.less (ownLess_sub σ ks)

theorem not_less (h : StRel n0 ext β ok st a w) {k : Nat} {r : Reg} (hk : st.σ[k]? = some (some r)) (hn : (β k r.g).isNil = false) (hn0 : n0 ≤ (β k r.g).block) {ks : List Nat} (hks : k ∈ ks) : ¬ ownLess ext β st.σ ks (β k r.g).block := by
  rintro (h1 | ⟨t, r', h1, h2, h3, h4⟩)
  · have := h.extlt _ h1; omega
  · have hne : k ≠ t := fun e => h2 (e ▸ hks)
    exact h.dist _ _ _ _ hk h1 hne hn h3 h4.symm

theorem row_closed (h : StRel n0 ext β ok st a w) {k g es : Nat} {els : List (List AV)} (hk : st.σ[k]? = some (some (.row g es els))) {ks : List Nat} (hks : k ∈ ks) :
    RepC w (ownLess ext β st.σ ks) (.slice els) (.slice (if (β k g).isNil then none else some ⟨(β k g).block, 0, none⟩) (β k g).len (β k g).cap) ∧
    ((β k g).isNil = false → ∃ vs, RepCL w (ownLess ext β st.σ ks) els.flatten vs ∧ At w (ownLess ext β st.σ ks) ⟨(β k g).block, 0, none⟩ vs ∧ (∀ e ∈ els, e.length = es)) := by
  obtain ⟨_, hreg⟩ := h.regs _ _ hk
  have hreg' := hreg
  obtain ⟨hlen, hes, hcap, h4⟩ := hreg
  cases hn : (β k g).isNil with
  | true =>
    rcases h4 with ⟨_, e0, hc⟩ | ⟨h5, _⟩
    · subst e0; simp at hlen
      refine ⟨?_, fun e => by cases e⟩
      rw [hlen, hc]; exact .slice0
    · rw [hn] at h5; cases h5
  | false =>
    obtain ⟨vs, hre, _, hcell⟩ := row_cells hreg' hn
    rcases h4 with ⟨h5, _⟩ | ⟨_, hn0, _⟩
    · rw [hn] at h5; cases h5
    · have hnl := not_less h hk hn hn0 hks
      have hat : At w (ownLess ext β st.σ ks) ⟨(β k g).block, 0, none⟩ vs := ⟨fun _ => rfl, fun j v hj => ⟨hnl, by rw [Nat.zero_add]; exact hcell j v hj⟩⟩
      have hre' := hre.mono (less_grows w st.σ ks)
      refine ⟨?_, fun _ => ⟨vs, hre', hat, hes⟩⟩
      rw [hlen]
      exact .slice hes hre' hat hcap

theorem closeL_sound {f : AV → Option (AV × List Nat)} {own' : List Nat → Nat → Prop} (hf : ∀ x v y ks ks', RepV w own β ok x v → f x = some (y, ks) → (∀ k ∈ ks, k ∈ ks') → RepC w (own' ks') y v) :
    ∀ {xs : List AV} {vs : List Value} {ys : List AV} {ks ks' : List Nat}, RepVL w own β ok xs vs → closeL f xs = some (ys, ks) → (∀ k ∈ ks, k ∈ ks') → RepCL w (own' ks') ys vs
  | [], _, ys, ks, ks', h, he, _ => by cases h; simp only [closeL, Option.some.injEq, Prod.mk.injEq] at he; obtain ⟨rfl, _⟩ := he; exact .nil
  | x :: xs, _, ys, ks, ks', h, he, hs => by
    cases h with
    | cons h1 h2 =>
      simp only [closeL] at he
      split at he
      · rename_i y k1 ys' k2 e1 e2
        simp only [Option.some.injEq, Prod.mk.injEq] at he; obtain ⟨rfl, rfl⟩ := he
        exact .cons (hf _ _ _ _ _ h1 e1 (fun k hk => hs k (List.mem_append_left _ hk))) (closeL_sound hf h2 e2 (fun k hk => hs k (List.mem_append_right _ hk)))
      · cases he

theorem closeV_sound (h : StRel n0 ext β ok st a w) : ∀ (n : Nat) (x : AV) (v : Value) (y : AV) (ks ks' : List Nat), RepV w (ownOf ext β st.σ) β ok x v → closeV st.σ n x = some (y, ks) → (∀ k ∈ ks, k ∈ ks') → RepC w (ownLess ext β st.σ ks') y v := by
  intro n
  induction n with
  | zero =>
    intro x v y ks ks' hx he hs
    have less := less_grows (ext := ext) (β := β) w st.σ ks'
    cases x <;> simp only [closeV] at he <;> (try (cases he; done))
    case bool => cases he; rw [hx.bool_open]; exact .bool _
    case int => cases he; rw [hx.int_open]; exact .int _ _
    case str => cases he; rw [hx.str_open]; exact .str _
    case slice => cases he; exact hx.slice_open.mono less
    case nils => cases he; rw [hx.nils_open]; exact .nils
    case cptr =>
      cases he; obtain ⟨A, vs, rfl, h1, h2⟩ := hx.cptr_open; exact .cptr (h1.mono less) (h2.mono less)
    case nilFunc => cases he; rw [hx.nilFunc_open]; exact .nilFunc
    case lit => cases he; cases hx with | closed hx => exact hx.mono less
    case view k g =>
      split at he
      · rename_i es els hl
        cases he
        obtain ⟨_, rfl⟩ := hx.view_open
        exact (row_closed h (lookRow_some hl) (hs k (by simp))).1
      · cases he
    case rptr k g es i off =>
      split at he
      · rename_i es' els hl
        split at he
        · rename_i hc
          obtain ⟨rfl, hi⟩ := hc
          cases he
          obtain ⟨_, rfl⟩ := hx.rptr_open
          have hk := lookRow_some hl
          obtain ⟨_, hreg⟩ := h.regs _ _ hk
          have hn : (β k g).isNil = false := by
            rcases hreg.2.2.2 with ⟨_, e0, _⟩ | ⟨h5, _⟩
            · subst e0; simp at hi
            · exact h5
          obtain ⟨vs, h1, h2, hes⟩ := (row_closed h hk (hs k (by simp))).2 hn
          have h3 : RepCL w (ownLess ext β st.σ ks') (els.getD i []) ((vs.drop (i * es)).take es) := by rw [← getD_flatten hes hi]; exact (h1.drop _).take _
          have h4 := (((h2.drop (i * es)).take es).drop off)
          have e : ((⟨(β k g).block, 0, none⟩ : Addr).add (i * es)).add off = ⟨(β k g).block, i * es + off, none⟩ := by rw [add_zero_block]; unfold Addr.add; split <;> simp_all
          rw [e] at h4
          exact .cptr (h3.drop off) h4
        · cases he
      · cases he
  | succ n ih =>
    intro x v y ks ks' hx he hs
    have less := less_grows (ext := ext) (β := β) w st.σ ks'
    have recl : ∀ {xs : List AV} {vs : List Value} {ys : List AV} {ks ks' : List Nat}, RepVL w (ownOf ext β st.σ) β ok xs vs → closeL (closeV st.σ n) xs = some (ys, ks) → (∀ k ∈ ks, k ∈ ks') → RepCL w (ownLess ext β st.σ ks') ys vs :=
      fun h1 h2 h3 => closeL_sound (own' := fun ks => ownLess ext β st.σ ks) (fun x v y ks ks' => ih x v y ks ks') h1 h2 h3
    cases x <;> simp only [closeV] at he <;> (try (cases he; done))
    case bool => cases he; rw [hx.bool_open]; exact .bool _
    case int => cases he; rw [hx.int_open]; exact .int _ _
    case str => cases he; rw [hx.str_open]; exact .str _
    case slice => cases he; exact hx.slice_open.mono less
    case nils => cases he; rw [hx.nils_open]; exact .nils
    case cptr =>
      cases he; obtain ⟨A, vs, rfl, h1, h2⟩ := hx.cptr_open; exact .cptr (h1.mono less) (h2.mono less)
    case nilFunc => cases he; rw [hx.nilFunc_open]; exact .nilFunc
    case lit => cases he; cases hx with | closed hx => exact hx.mono less
    case view k g =>
      split at he
      · rename_i es els hl
        cases he
        obtain ⟨_, rfl⟩ := hx.view_open
        exact (row_closed h (lookRow_some hl) (hs k (by simp))).1
      · cases he
    case rptr k g es i off =>
      split at he
      · rename_i es' els hl
        split at he
        · rename_i hc
          obtain ⟨rfl, hi⟩ := hc
          cases he
          obtain ⟨_, rfl⟩ := hx.rptr_open
          have hk := lookRow_some hl
          obtain ⟨_, hreg⟩ := h.regs _ _ hk
          have hn : (β k g).isNil = false := by
            rcases hreg.2.2.2 with ⟨_, e0, _⟩ | ⟨h5, _⟩
            · subst e0; simp at hi
            · exact h5
          obtain ⟨vs, h1, h2, hes⟩ := (row_closed h hk (hs k (by simp))).2 hn
          have h3 : RepCL w (ownLess ext β st.σ ks') (els.getD i []) ((vs.drop (i * es)).take es) := by rw [← getD_flatten hes hi]; exact (h1.drop _).take _
          have h4 := (((h2.drop (i * es)).take es).drop off)
          have e : ((⟨(β k g).block, 0, none⟩ : Addr).add (i * es)).add off = ⟨(β k g).block, i * es + off, none⟩ := by rw [add_zero_block]; unfold Addr.add; split <;> simp_all
          rw [e] at h4
          exact .cptr (h3.drop off) h4
        · cases he
      · cases he
    case ptr k g off =>
      split at he
      · rename_i cs hl
        split at he
        · rename_i ys ks0 hcl
          cases he
          obtain ⟨_, rfl⟩ := hx.ptr_open
          have hk := lookBox_some hl
          obtain ⟨_, hreg⟩ := h.regs _ _ hk
          obtain ⟨hn, hn0, c, ty, hh, hrep⟩ := hreg
          have hnl := not_less h hk hn hn0 (hs k (by simp))
          have h1 := recl hrep hcl (fun q hq => hs q (by simp [hq]))
          have h2 : At w (ownLess ext β st.σ ks') ⟨(β k g).block, 0, none⟩ c.toList := ⟨fun _ => rfl, fun j v hj => ⟨hnl, cells_at hh j v hj⟩⟩
          have h4 := h2.drop off
          rw [add_zero_block] at h4
          exact .cptr (h1.drop off) h4
        · cases he
      · cases he
    case agg cs =>
      split at he
      · rename_i ys ks0 hcl
        cases he
        obtain ⟨vs, rfl, h1⟩ := hx.agg_open
        exact .agg (recl h1 hcl hs)
      · cases he
    case func fn cs =>
      split at he
      · rename_i ys ks0 hcl
        cases he
        obtain ⟨vs, rfl, h1⟩ := hx.func_open
        exact .func (recl h1 hcl hs)
      · cases he
    case tuple cs =>
      split at he
      · rename_i ys ks0 hcl
        cases he
        obtain ⟨vs, rfl, h1⟩ := hx.tuple_open
        exact .tuple (recl h1 hcl hs)
      · cases he

theorem scalarL_rep {own own' : Nat → Prop} : ∀ {xs : List AV} {vs : List Value}, scalarL xs = true → RepCL w own xs vs → RepCL w own' xs vs
  | [], _, _, h => by cases h; exact .nil
  | x :: xs, _, hs, h => by
    cases h with
    | cons h1 h2 =>
      cases x <;> simp only [scalarL] at hs <;> (try (cases hs; done)) <;> refine .cons ?_ (scalarL_rep hs h2) <;> cases h1
      · exact .bool _
      · exact .int _ _
      · exact .str _
      · exact .nils
      · exact .nilFunc
      · exact .lit _
theorem scalarB_rep {own own' : Nat → Prop} {x : AV} {v : Value} (hs : scalarB x = true) (h : RepC w own x v) : RepC w own' x v := by
  cases x <;> simp only [scalarB] at hs <;> (try (cases hs; done)) <;> cases h
  · exact .bool _
  · exact .int _ _
  · exact .str _
  · rename_i h; exact .agg (scalarL_rep hs h)
  · exact .nils
  · exact .nilFunc
  · rename_i h; exact .tuple (scalarL_rep hs h)
  · exact .lit _

theorem StRel.below (h : StRel n0 ext β ok st a w) (hb : Below w.heap.size w w') : StRel n0 ext β ok st a w' := by
  have hg : Grows w w' (ownOf ext β st.σ) (ownOf ext β st.σ) := Grows.below hb (Nat.le_refl _) (fun _ _ x => x)
  exact ⟨h.temps.mono hg (fun _ _ x => x) (fun _ _ _ => rfl), fun t r hr => let ⟨h1, h2⟩ := h.regs t r hr; ⟨h1, h2.mono (fun _ _ _ => rfl) h1 (fun _ _ x => x) hg (fun hn => hb.block _ (reg_lt h hr hn))⟩, h.dist, h.extlt, Nat.le_trans h.n0le hb.size, h.defers⟩

theorem killed_sto : ∀ {ks : List Nat} {σ : Sto} {t : Nat} {r : Reg}, (applyUpd σ (killed ks))[t]? = some (some r) → σ[t]? = some (some r) ∧ t ∉ ks
  | [], σ, t, r, h => ⟨h, by simp⟩
  | k :: ks, σ, t, r, h => by
    have h' : (applyUpd (σ.set k none) (killed ks))[t]? = some (some r) := h
    obtain ⟨h1, h2⟩ := killed_sto h'
    rw [List.getElem?_set] at h1
    split at h1
    · split at h1
      · simp at h1
      · cases h1
    · rename_i e; exact ⟨h1, by simp [h2]; exact fun e' => e e'.symm⟩
theorem StRel.kill (h : StRel n0 ext β ok st a w) (ks : List Nat) : StRel n0 ext β ok ⟨st.τ, applyUpd st.σ (killed ks), st.gen⟩ a w := by
  have hsub : ∀ b, ownOf ext β (applyUpd st.σ (killed ks)) b → ownOf ext β st.σ b := by
    rintro b (h1 | ⟨t, r, h1, h2⟩)
    · exact .inl h1
    · exact .inr ⟨t, r, (killed_sto h1).1, h2⟩
  have hg : Grows w w (ownOf ext β st.σ) (ownOf ext β (applyUpd st.σ (killed ks))) := Grows.less hsub
  exact ⟨h.temps.mono hg (fun _ _ x => x) (fun _ _ _ => rfl), fun t r hr => let ⟨h1, h2⟩ := h.regs t r (killed_sto hr).1; ⟨h1, h2.mono (fun _ _ _ => rfl) h1 (fun _ _ x => x) hg (fun _ => rfl)⟩,
    fun t t' r r' h1 h2 => h.dist t t' r r' (killed_sto h1).1 (killed_sto h2).1, h.extlt, h.n0le, h.defers⟩

theorem buildEls_congr {ρ ρ' : Operand → AV} {es : Nat} : ∀ {ps : List (Nat × Operand)} {k : Nat}, (∀ p ∈ ps, ρ' p.2 = ρ p.2) → buildEls ρ' es k ps = buildEls ρ es k ps
  | [], _, _ => rfl
  | (j, x) :: ps, k, h => by
    simp only [buildEls]
    rw [h (j, x) (by simp), buildEls_congr (fun p hp => h p (by simp [hp]))]
theorem lit_sound (h : StRel n0 ext β ok st a w) {o : Oper} {r : Res} (hf : allocB o.op = true → ∀ d, o.dst = some d → ¬ ok d st.gen) (hl : litA P (opnd st.τ) st.σ st.gen o.dst o.op = some r) : Goes P n0 ext ok st o r a w := by
  obtain ⟨dst, op, ty, pos, after, guard⟩ := o
  simp only at hl hf ⊢
  unfold litA at hl
  split at hl
  · rename_i d t len parts
    split at hl
    · rename_i e ht
      split at hl
      · rename_i els z hb hz
        split at hl
        · rename_i hc
          obtain ⟨h1, h2, h3, h4⟩ := hc
          simp only [Option.some.injEq] at hl
          subst hl
          generalize hks : (parts.toList.flatMap fun p => closeK st.σ (opnd st.τ p.2)) = ks
          have hk := h.kill ks
          have hless : Grows w w (ownLess ext β st.σ ks) (ownOf ext β (applyUpd st.σ (killed ks))) := Grows.less (by
            rintro b (h1 | ⟨t, r', h1, h2⟩)
            · exact .inl h1
            · exact .inr ⟨t, r', (killed_sto h1).1, (killed_sto h1).2, h2⟩)
          have hρ : ∀ x, RepV w (ownOf ext β (applyUpd st.σ (killed ks))) β ok (if (closeK st.σ (opnd st.τ x)).all (fun k => decide (k ∈ ks)) = true then closeO st.σ (opnd st.τ x) else .any) (a.eval x) := by
            intro x
            split
            · rename_i hsub
              unfold closeO
              unfold closeK at hsub
              split
              · rename_i y ks' hcl
                rw [hcl] at hsub
                simp only [List.all_eq_true, decide_eq_true_eq] at hsub
                exact .closed ((closeV_sound h 4 _ _ _ _ ks (h.opnd x) hcl hsub).mono hless)
              · exact .closed (.any _)
            · exact .closed (.any _)
          have hb' := hb
          rw [← buildEls_congr (ρ' := fun x => if (closeK st.σ (opnd st.τ x)).all (fun k => decide (k ∈ ks)) = true then closeO st.σ (opnd st.τ x) else .any) (fun p hp => by
            rw [if_pos]
            simp only [List.all_eq_true, decide_eq_true_eq]
            intro k hk
            rw [← hks]
            exact List.mem_flatMap.2 ⟨p, hp, hk⟩)] at hb'
          have hL := buildSlice_sound (P := P) (st := ⟨st.τ, applyUpd st.σ (killed ks), st.gen⟩) (t := t) (len := len) (parts := parts) hk (hf rfl d rfl) hρ ht hb' hz h1 h2 h3 h4
          obtain ⟨v, w', β', ok', g1, g2, g3, g4⟩ := hL
          have hL' : Laid n0 ext ok st (some d) ⟨.view d st.gen, killed ks ++ [(d, some (.row st.gen (ti P e).size els))], ks⟩ a w ((Instr.buildSlice t len (parts.map fun (i, x) => (i, a.eval x))).run P w) := by
            refine ⟨v, w', β', ok', g1, ?_, g3, g4⟩
            have e1 : st.after (some d) ⟨.view d st.gen, killed ks ++ [(d, some (.row st.gen (ti P e).size els))], ks⟩ = (⟨st.τ, applyUpd st.σ (killed ks), st.gen⟩ : St).after (some d) ⟨.view d st.gen, [(d, some (.row st.gen (ti P e).size els))], []⟩ := by
              simp only [St.after, applyUpd, List.foldl_append]
            rw [e1]; exact g2
          exact hL'.goes rfl rfl
        · cases hl
      · cases hl
    · cases hl
  · cases hl

/-- Any operation, as the model's weakest precondition has it. -/
theorem Exec.wp (h : StRel n0 ext β ok st a w) {o : Oper} {r : Res} (he : Exec P st o r) (hf : allocB o.op = true → ∀ d, o.dst = some d → ¬ ok d st.gen) {K : Act → World → Prop} {Q : Exit → Act → World → Prop}
    (hK : ∀ β' ok' a' w', StRel n0 ext β' ok' (st.after o.dst r) a' w' → Below n0 w w' → (∀ t g, ok' t g → ok t g ∨ (allocB o.op = true ∧ o.dst = some t ∧ g = st.gen)) → K a' w') : o.wp P a w K Q := by
  have goes : Goes P n0 ext ok st o r a w → o.wp P a w K Q := by
    rintro ⟨nxt, v, w', β', ok', h1, h2, h3, h4, h5⟩
    unfold Oper.wp
    rw [h1]
    rcases h2 with rfl | ⟨rfl, rfl⟩
    · exact hK _ _ _ _ h3 h4 h5
    · exact hK _ _ _ _ h3 h4 h5
  cases he with
  | pure hp hpre =>
    obtain ⟨v, hv, hr⟩ := pure_sound (ρA := opnd st.τ) (ρ := a.eval) (fun x => h.opnd x) hp hpre
    exact goes ⟨.value v, v, w, β, ok, hv, .inl rfl, h.still o.dst hr, Below.refl _ _, fun t g hk => .inl hk⟩
  | mem hm hpre => exact goes (memOp_sound h hm hpre hf)
  | lit hl => exact goes (lit_sound h hf hl)
  | @call f args args' ks r hc hcl hA =>
    obtain ⟨hcall, hA⟩ := hA
    -- the arguments
    obtain ⟨dst, op, ty, pos, after, guard⟩ := o
    simp only at hc hK
    unfold callOf at hc
    split at hc
    · rename_i c
      split at hc
      · rename_i fo hfo
        split at hc
        · rename_i n cap hρ
          simp only [Option.some.injEq, Prod.mk.injEq] at hc; obtain ⟨rfl, rfl⟩ := hc
          have hfr := h.opnd fo; rw [hρ] at hfr
          obtain ⟨cvs, hfv, hcap⟩ := hfr.func_open
          have hargs : RepVL w (ownOf ext β st.σ) β ok (c.args.toList.map (opnd st.τ) ++ cap) (c.args.toList.map a.eval ++ cvs) := (RepVL.map (fun x => h.opnd x) _).append hcap
          have hcl' : RepCL w (ownLess ext β st.σ ks) args' (c.args.toList.map a.eval ++ cvs) :=
            closeL_sound (own' := fun ks => ownLess ext β st.σ ks) (fun x v y ks ks' => closeV_sound h 4 x v y ks ks') hargs hcl (fun _ hk => hk)
          have hlt : ∀ b, ownLess ext β st.σ ks b → b < w.heap.size := by
            rintro b (h1 | ⟨t, r', h1, _, h2, rfl⟩)
            · exact Nat.lt_of_lt_of_le (h.extlt _ h1) h.n0le
            · exact reg_lt h h1 h2
          obtain ⟨fn, hfn, hbody, hname⟩ : ∃ fn, P.funcs[n]? = some fn ∧ fn.body.isSome = true ∧ (fn.name == "runtime.NumGoroutine") = false := by
            unfold callable at hcall
            split at hcall
            · rename_i fn hfn
              simp only [Bool.and_eq_true, Bool.not_eq_true'] at hcall
              exact ⟨fn, hfn, hcall.1, hcall.2⟩
            · cases hcall
          have hrun : (execOp a.eval ⟨dst, .call c, ty, pos, after, guard⟩).run P w = .ok (.enter n (c.args.toList.map a.eval ++ cvs).toArray) w := by
            have e1 : fn.body.isNone = false := by cases hb : fn.body <;> simp [hb] at hbody ⊢
            have e2 : (c.args.map a.eval ++ cvs.toArray) = (c.args.toList.map a.eval ++ cvs).toArray := by apply Array.toList_inj.mp; simp
            simp only [execOp, resolve, hfo, hfv, Deferred.ofValue, Sem.run_bind, Sem.run_pure, Result.andThen_ok, invoke, callFunc, program]
            simp only [Sem.run, hfn, hname, e1, Bool.false_eq_true, if_false, Result.andThen_ok, Array.empty_append]
            simp [e2]
          unfold Oper.wp
          rw [hrun]
          refine (hA w (ownLess ext β st.σ ks) _ hlt hcl').mono ?_
          rintro e w' ⟨v, rfl, hrv, hbel⟩
          have hb0 : Below n0 w w' := hbel.mono h.n0le
          have hst := h.below hbel
          cases hsc : scalarB r
          · have hst2 := hst.kill ks
            have hrv2 : RepC w' (ownOf ext β (applyUpd st.σ (killed ks))) r v := hrv.mono (Grows.less (by
              rintro b (h1 | ⟨t, r', h1, h2⟩)
              · exact .inl h1
              · exact .inr ⟨t, r', (killed_sto h1).1, (killed_sto h1).2, h2⟩))
            have hfin := hst2.still dst (x := r) (.closed hrv2)
            refine hK β ok _ _ ?_ hb0 (fun t g hk => .inl hk)
            simp only [hsc]; exact hfin
          · have hfin := hst.still dst (x := r) (.closed (scalarB_rep hsc hrv))
            refine hK β ok _ _ ?_ hb0 (fun t g hk => .inl hk)
            simp only [hsc]; exact hfin
        · cases hc
      · cases hc
    · cases hc
end
end Go.Ab
