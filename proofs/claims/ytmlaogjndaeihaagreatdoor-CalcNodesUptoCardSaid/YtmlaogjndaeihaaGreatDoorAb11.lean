/- One operation on a state of trees, whatever it is; a region without a draw. -/
import Derived.Test.YtmlaogjndaeihaaGreatDoorAb10
namespace Go.Ab
open Go.RowKit

/-- The operations that lay a region of their own. -/
def allocB : Op → Bool
  | .alloc _ | .box .. | .makeSlice .. | .buildSlice .. | .makeMap .. => true
  | .call c => match c.callee with | .builtin .append => true | _ => false
  | _ => false
def killed (ks : List Nat) : List (Nat × Option Reg) := ks.map fun k => (k, none)

/-- An element of a literal that leans on the frame's own memory: closed, that memory given up. -/
def closeO (σ : Sto) (x : AV) : AV := match closeV σ 4 x with | some (y, _) => y | none => .any
def closeK (σ : Sto) (x : AV) : List Nat := match closeV σ 4 x with | some (_, ks) => ks | none => []
def litA (P : Program) (ρ : Operand → AV) (σ : Sto) (gen : Nat) : Option Tmp → Op → Option Res
  | some d, .buildSlice t len parts =>
    match (ti P t).d with
    | .slice e =>
      match buildEls (fun x => closeO σ (ρ x)) (ti P e).size 0 parts.toList, (ti P e).zero with
      | some els, some z =>
        if els.length = len ∧ okSize P e = true ∧ len * (ti P e).size ≤ 2 ^ 24 ∧ z.length = (ti P e).size then
          some ⟨.view d gen, killed (parts.toList.flatMap fun p => closeK σ (ρ p.2)) ++ [(d, some (.row gen (ti P e).size els))], parts.toList.flatMap fun p => closeK σ (ρ p.2)⟩
        else none
      | _, _ => none
    | _ => none
  | _, _ => none

inductive Exec (P : Program) (st : St) (o : Oper) : Res → Prop where
  | pure {pre : Prop} {v : AV} : pureOp P (opnd st.τ) o.op = some (pre, v) → pre → Exec P st o ⟨v, [], []⟩
  | mem {pre : Prop} {r : Res} : memOp P (opnd st.τ) st.σ st.gen o.dst o.op = some (pre, r) → pre → Exec P st o r
  | call {f : FuncId} {args args' : List AV} {ks : List Nat} {r : AV} : callOf (opnd st.τ) o.op = some (f, args) → closeL (closeV st.σ 4) args = some (args', ks) → ACalls P f args' r →
      Exec P st o ⟨r, if scalarB r then [] else killed ks, ks⟩
  | lit {r : Res} : litA P (opnd st.τ) st.σ st.gen o.dst o.op = some r → Exec P st o r

section
variable {P : Program} {n0 : Nat} {ext : Nat → Prop} {β : Nat → Nat → Loc} {ok : Nat → Nat → Prop} {st : St} {a : Act} {w w' : World} {own : Nat → Prop}

/-- What an operation brings about. -/
def Goes (P : Program) (n0 : Nat) (ext : Nat → Prop) (ok : Nat → Nat → Prop) (st : St) (o : Oper) (r : Res) (a : Act) (w : World) : Prop :=
  ∃ nxt v w' β' ok', (execOp a.eval o).run P w = .ok nxt w' ∧ (nxt = .value v ∨ (nxt = .skip ∧ v = undef)) ∧ StRel n0 ext β' ok' (st.after o.dst r) (a.put o.dst v) w' ∧ Below n0 w w' ∧
    (∀ t g, ok' t g → ok t g ∨ (allocB o.op = true ∧ o.dst = some t ∧ g = st.gen))

theorem Laid.goes {o : Oper} {r : Res} {s : Sem Value} (hal : allocB o.op = true) (h : Laid n0 ext ok st o.dst r a w (s.run P w)) (he : execOp a.eval o = (do pure (Next.value (← s)) : Sem Next)) : Goes P n0 ext ok st o r a w := by
  obtain ⟨v, w', β', ok', h1, h2, h3, h4⟩ := h
  refine ⟨.value v, v, w', β', ok', ?_, .inl rfl, h2, h3, fun t g hk => (h4 t g hk).imp id fun h => ⟨hal, h⟩⟩
  rw [he]; simp only [Sem.run_bind, h1, Result.andThen_ok, Sem.run_pure]
theorem Stored.goes {o : Oper} {r : Res} {s : Sem Unit} (h : Stored n0 ext β ok st r a w (s.run P w)) (he : execOp a.eval o = (do s; pure Next.skip : Sem Next)) : Goes P n0 ext ok st o r a w := by
  obtain ⟨w', h1, h2, h3, h4⟩ := h
  refine ⟨.skip, undef, w', β, ok, ?_, .inr ⟨rfl, rfl⟩, ?_, h3, fun t g hk => .inl hk⟩
  · rw [he]; simp only [Sem.run_bind, h1, Result.andThen_ok, Sem.run_pure]
  · have := h2.still o.dst (x := r.v) (v := undef) (by rw [h4]; exact .closed (.any _))
    exact this
theorem Goes.still {o : Oper} {x : AV} {reads : List Nat} {s : Sem Value} {v : Value} (h : StRel n0 ext β ok st a w) (h1 : s.run P w = .ok v w) (hr : RepV w (ownOf ext β st.σ) β ok x v) (he : execOp a.eval o = (do pure (Next.value (← s)) : Sem Next)) : Goes P n0 ext ok st o ⟨x, [], reads⟩ a w := by
  refine ⟨.value v, v, w, β, ok, ?_, .inl rfl, h.still o.dst hr, Below.refl _ _, fun t g hk => .inl hk⟩
  rw [he]; simp only [Sem.run_bind, h1, Result.andThen_ok, Sem.run_pure]

theorem isInt_open {x : AV} {v : Value} {own : Nat → Prop} (hr : RepV w own β ok x v) (h : (isInt x).isSome = true) : ∃ k n, x = .int k n ∧ v = .int k n := by
  cases x <;> simp [isInt] at h
  exact ⟨_, _, rfl, hr.int_open⟩

theorem memOp_sound (h : StRel n0 ext β ok st a w) {o : Oper} {pre : Prop} {r : Res} (he : memOp P (opnd st.τ) st.σ st.gen o.dst o.op = some (pre, r)) (hp : pre) (hf : allocB o.op = true → ∀ d, o.dst = some d → ¬ ok d st.gen) : Goes P n0 ext ok st o r a w := by
  obtain ⟨dst, op, ty, pos, after, guard⟩ := o
  simp only at he hf
  unfold memOp at he
  split at he
  · -- load
    rename_i t x
    obtain ⟨v, hv, hr, hu⟩ := loadM_sound (P := P) h (h.opnd x) he
    obtain ⟨rv, ru, rr⟩ := r
    simp only at hu hr; subst hu
    exact Goes.still h hv hr rfl
  · rename_i t x y
    exact (storeM_sound (P := P) h (h.opnd _) (h.opnd _) he hp).goes rfl
  · rename_i t d
    split at he
    · rename_i z hz
      split at he
      · rename_i hk
        simp only [Option.some.injEq, Prod.mk.injEq] at he; obtain ⟨_, rfl⟩ := he
        exact (alloc_sound h (hf rfl d rfl) hz hk).goes rfl rfl
      · cases he
    · cases he
  · rename_i t x d
    split at he
    · rename_i xs hc
      split at he
      · simp only [Option.some.injEq, Prod.mk.injEq] at he; obtain ⟨_, rfl⟩ := he
        exact (box_sound (P := P) h (hf rfl d rfl) (h.opnd x) hc).goes rfl rfl
      · cases he
    · cases he
  · rename_i t l c d
    split at he
    · rename_i e kl n kc m ht hl hc
      split at he
      · rename_i z hz
        split at he
        · rename_i hcond
          obtain ⟨hk, hzl, hzc⟩ := hcond
          simp only [Option.some.injEq, Prod.mk.injEq] at he; obtain ⟨rfl, rfl⟩ := he
          obtain ⟨h0, h1, h2, h3⟩ := hp
          have el : a.eval l = .int kl n := by have := h.opnd l; rw [hl] at this; exact this.int_open
          have ec : a.eval c = .int kc m := by have := h.opnd c; rw [hc] at this; exact this.int_open
          refine (makeSlice_sound (P := P) (kl := kl) (kc := kc) h (hf rfl d rfl) ht hz hk hzl hzc h0 h1 h2 h3).goes rfl ?_
          simp only [execOp, el, ec]
        · cases he
      · cases he
    · cases he
  · rename_i t len parts d
    split at he
    · rename_i e ht
      split at he
      · rename_i els z hb hz
        split at he
        · rename_i hcond
          obtain ⟨h1, h2, h3, h4⟩ := hcond
          simp only [Option.some.injEq, Prod.mk.injEq] at he; obtain ⟨_, rfl⟩ := he
          exact (buildSlice_sound (P := P) h (hf rfl d rfl) (fun x => h.opnd x) ht hb hz h1 h2 h3 h4).goes rfl rfl
        · cases he
      · cases he
    · cases he
  · rename_i t x i d
    split at he
    · rename_i e k g ki n ht hx hi
      split at he
      · rename_i es els hl
        split at he
        · rename_i hcond
          simp only [Option.some.injEq, Prod.mk.injEq] at he; obtain ⟨rfl, rfl⟩ := he
          have ei : a.eval i = .int ki n := by have := h.opnd i; rw [hi] at this; exact this.int_open
          have hxr := h.opnd x; rw [hx] at hxr
          obtain ⟨v, hv, hr⟩ := viewIndex_sound (P := P) h ht hxr ei hl hcond.1 hcond.2 hp.1 hp.2
          exact Goes.still h hv hr rfl
        · cases he
      · cases he
    · cases he
  · rename_i c d
    split at he
    · rename_i s x ts tx hc ha hty
      have ea : c.args = #[s, x] := by apply Array.toList_inj.mp; simpa using ha
      have et : c.argTypes = #[ts, tx] := by apply Array.toList_inj.mp; simpa using hty
      split at he
      · rename_i e ex hts htx
        have hal : allocB (.call c) = true := by simp [allocB, hc]
        refine (appendM_sound (P := P) (ty := ty) h (hf hal d rfl) hts htx (h.opnd s) (h.opnd x) he hp).goes hal ?_
        simp only [execOp, resolve, hc, ea, et]
        simp [invoke, builtin]
      · cases he
    · rename_i x t hc ha hty
      have ea : c.args = #[x] := by apply Array.toList_inj.mp; simpa using ha
      have et : c.argTypes = #[t] := by apply Array.toList_inj.mp; simpa using hty
      split at he
      · rename_i e k g ht hx
        split at he
        · rename_i es els hl
          simp only [Option.some.injEq, Prod.mk.injEq] at he; obtain ⟨_, rfl⟩ := he
          have hxr := h.opnd x; rw [hx] at hxr
          refine Goes.still (s := Builtin.len_ #[t] ty #[a.eval x]) h (viewLen_sound h ht hxr hl) (.closed (.int _ _)) ?_
          simp only [execOp, resolve, hc, ea, et]
          simp [invoke, builtin]
        · cases he
      · cases he
    · cases he
  · rename_i t r0 d
    split at he
    · rename_i kt e ht
      simp only [Option.some.injEq, Prod.mk.injEq] at he; obtain ⟨_, rfl⟩ := he
      exact (makeMap_sound (P := P) h (hf rfl d rfl) ht (.inl rfl)).goes rfl rfl
    · rename_i kt e x ht
      split at he
      · rename_i ki n hx
        simp only [Option.some.injEq, Prod.mk.injEq] at he; obtain ⟨_, rfl⟩ := he
        have ex : a.eval x = .int ki n := by have := h.opnd x; rw [hx] at this; exact this.int_open
        exact (makeMap_sound (P := P) (r := some (a.eval x)) h (hf rfl d rfl) ht (.inr ⟨_, _, by rw [ex]⟩)).goes rfl rfl
      · cases he
    · cases he
  · rename_i t m k x
    split at he
    · rename_i kt e key g ht hm
      split at he
      · rename_i kd ents hkt hl
        split at he
        · rename_i hc
          simp only [Option.some.injEq, Prod.mk.injEq] at he; obtain ⟨rfl, rfl⟩ := he
          obtain ⟨hne, hint⟩ := hp
          obtain ⟨kk, n, hk1, hk2⟩ := isInt_open (h.opnd k) hint
          rw [hk1] at hne ⊢
          have hmr := h.opnd m; rw [hm] at hmr
          exact (insert_sound (P := P) (m := .any) h ht hkt hmr hk2 (h.opnd x) hl hc hne).goes rfl
        · cases he
      · cases he
    · cases he
  · rename_i t m k cok
    split at he
    · rename_i kt e key g ht hm
      split at he
      · rename_i kd ents z hkt hl hz
        split at he
        · rename_i v f hlook
          simp only [Option.some.injEq, Prod.mk.injEq] at he; obtain ⟨rfl, rfl⟩ := he
          obtain ⟨kk, n, hk1, hk2⟩ := isInt_open (h.opnd k) hp
          rw [hk1] at hlook
          have hmr := h.opnd m; rw [hm] at hmr
          obtain ⟨u, hu, hr⟩ := lookup_sound (P := P) (cok := cok) h ht hkt hmr hk2 hl hz hlook
          exact Goes.still h hu hr rfl
        · cases he
      · cases he
    · cases he
  · cases he
end
end Go.Ab
