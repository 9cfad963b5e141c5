/- A region in its text's order; sequences, branches, blocks, loops; a function. -/
import Derived.Test.YtmlaogjndaeihaaGreatDoorAb12
namespace Go.Ab
open Go.RowKit

def allocDsts : List Oper → List Tmp
  | [] => []
  | o :: rest => (if allocB o.op then o.dst.toList else []) ++ allocDsts rest
def allocsOk (l : List Oper) : Bool := decide (allocDsts l).Nodup

/-- What a guard's slot holds: a bool, surely none (its own operation was skipped), or who knows. -/
def gval (ops : Array Oper) (τ : List AV) (j : Nat) : Option (Option Bool) :=
  match (ops[j]?).bind (·.dst) with
  | some d => match τ.getD d .any with | .bool b => some (some b) | .tuple [] => some none | _ => none
  | none => none

/-- A call, and what follows on its answer (left alone by 'simp' till the answer is known). -/
def CallA (P : Program) (f : FuncId) (args : List AV) (K : AV → Prop) : Prop := ∃ r, ACalls P f args r ∧ K r
theorem callA_congr {P : Program} {f : FuncId} {args args' : List AV} {K : AV → Prop} (h : args = args') : CallA P f args K = CallA P f args' K := by rw [h]
/-- One operation, to be run through by 'simp'. -/
def stepA (P : Program) (st : St) (o : Oper) (K : Res → Prop) : Prop :=
  match pureOp P (opnd st.τ) o.op with
  | some (pre, v) => pre ∧ K ⟨v, [], []⟩
  | none => match memOp P (opnd st.τ) st.σ st.gen o.dst o.op with
    | some (pre, r) => pre ∧ K r
    | none => match callOf (opnd st.τ) o.op with
      | some (f, args) => match closeL (closeV st.σ 4) args with
        | some (args', ks) => CallA P f args' fun r => K ⟨r, if scalarB r then [] else killed ks, ks⟩
        | none => False
      | none => match litA P (opnd st.τ) st.σ st.gen o.dst o.op with
        | some r => K r
        | none => False
theorem stepA_exec {P : Program} {st : St} {o : Oper} {K : Res → Prop} (h : stepA P st o K) : ∃ r, Exec P st o r ∧ K r := by
  unfold stepA at h
  split at h
  · rename_i pre v hp; exact ⟨_, .pure hp h.1, h.2⟩
  · split at h
    · rename_i pre r hm; exact ⟨_, .mem hm h.1, h.2⟩
    · split at h
      · rename_i f args hc
        split at h
        · rename_i args' ks hcl
          obtain ⟨r, h1, h2⟩ := h
          exact ⟨_, .call hc hcl h1, h2⟩
        · exact h.elim
      · split at h
        · rename_i r hl; exact ⟨r, .lit hl, h⟩
        · exact h.elim

def skipR : Res := ⟨.tuple [], [], []⟩
/-- What is learnt of a slot that holds a bool. -/
def St.learn (ops : Array Oper) (st : St) (j : Nat) (b : Bool) : St :=
  match (ops[j]?).bind (·.dst) with
  | some d => ⟨st.τ.set d (.bool b), st.σ, st.gen⟩
  | none => st
def gateA (ops : Array Oper) (st : St) (o : Oper) (run skip : St → Prop) : Prop :=
  match o.guard with
  | none => run st
  | some (j, want) => match gval ops st.τ j with
    | some (some b) => (b = want → run (st.learn ops j want)) ∧ (b = !want → skip (st.learn ops j (!want)))
    | some none => skip st
    | none => False
theorem learn_same {ops : Array Oper} {st : St} {j : Nat} {b : Bool} (h : gval ops st.τ j = some (some b)) : st.learn ops j b = st := by
  unfold gval at h
  unfold St.learn
  split at h
  · rename_i d hd
    split at h
    · rename_i b' hb
      cases h
      have hlt : d < st.τ.length := by
        rcases Nat.lt_or_ge d st.τ.length with hl | hl
        · exact hl
        · rw [List.getD_eq_getElem?_getD, List.getElem?_eq_none hl] at hb; cases hb
      rw [List.getD_eq_getElem?_getD, List.getElem?_eq_getElem hlt, Option.getD_some] at hb
      rw [← hb, List.set_getElem_self]
    · cases h
    · cases h
  · cases h

def aops (P : Program) (ops : Array Oper) (Q : St → Prop) : List Oper → St → Prop
  | [], st => Q ⟨st.τ, st.σ, st.gen + 1⟩
  | o :: rest, st => gateA ops st o (fun st => stepA P st o fun r => aops P ops Q rest (st.after o.dst r)) (fun st => aops P ops Q rest (st.after o.dst skipR))

/-- A state of trees stands for a frame. -/
def FR (n0 : Nat) (ext : Nat → Prop) (st : St) (a : Act) (w : World) : Prop := ∃ β ok, StRel n0 ext β ok st a w ∧ ∀ t g, ok t g → g < st.gen

section
variable {P : Program} {n0 : Nat} {ext : Nat → Prop} {β : Nat → Nat → Loc} {ok : Nat → Nat → Prop} {st : St} {a : Act} {w w0 w' : World} {own : Nat → Prop}

theorem gval_yielded (h : StRel n0 ext β ok st a w) {ops : Array Oper} {j : Nat} {b : Option Bool} (hg : gval ops st.τ j = some b) : yielded ops a.tmps j = b := by
  unfold gval at hg
  unfold yielded
  split at hg
  · rename_i d hd
    have key : ∀ x, st.τ.getD d .any = x → x ≠ .any → ∃ v, a.tmps[d]? = some v ∧ RepV w (ownOf ext β st.σ) β ok x v := by
      intro x hb hx
      have hlt : d < st.τ.length := by
        rcases Nat.lt_or_ge d st.τ.length with hl | hl
        · exact hl
        · rw [List.getD_eq_getElem?_getD, List.getElem?_eq_none hl] at hb; exact absurd hb.symm hx
      obtain ⟨v, hv, hr⟩ := h.temps.get d hlt
      have : st.τ[d] = x := by rw [List.getD_eq_getElem?_getD, List.getElem?_eq_getElem hlt] at hb; exact hb
      rw [this] at hr
      exact ⟨v, by simpa using hv, hr⟩
    split at hg
    · rename_i b' hb
      simp only [Option.some.injEq] at hg; subst hg
      obtain ⟨v, hv, hr⟩ := key _ hb (by simp)
      rw [hr.bool_open] at hv
      simp [hd, hv]
    · rename_i hb
      simp only [Option.some.injEq] at hg; subst hg
      obtain ⟨v, hv, hr⟩ := key _ hb (by simp)
      obtain ⟨vs, rfl⟩ : ∃ vs, v = .tuple vs := by
        cases hr with
        | closed h => cases h with | tuple h => exact ⟨_, rfl⟩
        | tuple h => exact ⟨_, rfl⟩
      simp [hd, hv]
    · cases hg
  · cases hg

theorem gateA_split (h : StRel n0 ext β ok st a w) {ops : Array Oper} {o : Oper} {run skip : St → Prop} (hg : gateA ops st o run skip) : (Region.wanted o (yielded ops a.tmps) = true ∧ run st) ∨ (Region.wanted o (yielded ops a.tmps) = false ∧ skip st) := by
  unfold gateA at hg
  unfold Region.wanted
  cases hgd : o.guard with
  | none => rw [hgd] at hg; exact .inl ⟨rfl, hg⟩
  | some p =>
    obtain ⟨j, want⟩ := p
    rw [hgd] at hg
    simp only at hg ⊢
    split at hg
    · rename_i b hb
      have hy := gval_yielded h hb
      by_cases hbw : b = want
      · subst hbw
        have := hg.1 rfl
        rw [learn_same hb] at this
        exact .inl ⟨by simp [hy], this⟩
      · have hbw' : b = !want := by cases b <;> cases want <;> simp at hbw ⊢
        have := hg.2 hbw'
        rw [← hbw', learn_same hb] at this
        exact .inr ⟨by simp [hy, hbw], this⟩
    · rename_i hb
      exact .inr ⟨by simp [gval_yielded h hb], hg⟩
    · exact hg.elim

theorem aops_sound {ops : Array Oper} {Q : St → Prop} {Q' : Exit → Act → World → Prop} (hQ : ∀ st' a' w', Q st' → FR n0 ext st' a' w' → Below n0 w0 w' → Q' .normal a' w') : ∀ {l : List Oper} {st : St} {β : Nat → Nat → Loc} {ok : Nat → Nat → Prop} {a : Act} {w : World}, aops P ops Q l st → StRel n0 ext β ok st a w → (∀ d ∈ allocDsts l, ¬ ok d st.gen) → (allocDsts l).Nodup → (∀ t g, ok t g → g ≤ st.gen) → Below n0 w0 w →
    wpList P ops Q' l a w
  | [], st, β, ok, a, w, h, hr, _, _, hg, hb => by
    refine hQ _ _ _ h ⟨β, ok, ⟨hr.temps, hr.regs, hr.dist, hr.extlt, hr.n0le, hr.defers⟩, fun t g hk => ?_⟩ hb
    have := hg t g hk; simp only; omega
  | o :: rest, st, β, ok, a, w, h, hr, hf, hnd, hg, hb => by
    simp only [allocDsts] at hf hnd
    have hnd' : (allocDsts rest).Nodup := (List.nodup_append.mp hnd).2.1
    unfold wpList
    rcases gateA_split hr h with ⟨hw, hrun⟩ | ⟨hw, hskip⟩
    · rw [if_pos hw]
      obtain ⟨r, hex, hk⟩ := stepA_exec hrun
      refine .inl (hex.wp hr (fun hal d hd => hf d (by simp [hal, hd])) (fun β' ok' a' w' h1 h2 h3 => ?_))
      refine aops_sound hQ hk h1 ?_ hnd' ?_ (hb.trans h2)
      · intro d hd hk'
        rcases h3 d _ hk' with h4 | ⟨h4, h5, _⟩
        · exact hf d (List.mem_append_right _ hd) h4
        · have := (List.nodup_append.mp hnd).2.2 d (by simp [h4, h5]) d hd
          exact this rfl
      · intro t g hk'
        rcases h3 t g hk' with h4 | ⟨_, _, rfl⟩
        · exact hg t g h4
        · exact Nat.le_refl _
    · rw [if_neg (by simp [hw])]
      have hs := hr.still o.dst (x := .tuple []) (v := undef) (.closed (.tuple .nil))
      exact aops_sound hQ (β := β) hskip hs (fun d hd => hf d (List.mem_append_right _ hd)) hnd' hg hb

/-! ### Code -/
/-- From this state of trees on the code ends in Q. -/
def ASpec (P : Program) (c : Code) (Q : Exit → St → Prop) (st : St) : Prop :=
  ∀ (n0 : Nat) (ext : Nat → Prop) (w0 : World) (a : Act) (w : World), FR n0 ext st a w → Below n0 w0 w →
    c.wp P (fun e a' w' => ∃ st', Q e st' ∧ FR n0 ext st' a' w' ∧ Below n0 w0 w') a w

theorem a_mono {c : Code} {Q Q' : Exit → St → Prop} {st : St} (h : ASpec P c Q st) (hq : ∀ e st, Q e st → Q' e st) : ASpec P c Q' st :=
  fun n0 ext w0 a w h1 h2 => wp_mono (h n0 ext w0 a w h1 h2) fun _ _ _ ⟨st', h3, h4⟩ => ⟨st', hq _ _ h3, h4⟩
theorem a_region {id : Nat} {ops : Array Oper} {Q : Exit → St → Prop} {st : St} (hok : allocsOk ops.toList = true) (h : aops P ops (Q .normal) ops.toList st) : ASpec P (.region id ops false) Q st := by
  intro n0 ext w0 a w ⟨β, ok, hr, hg⟩ hb
  refine wp_region_list ?_
  have hnd : (allocDsts ops.toList).Nodup := of_decide_eq_true hok
  exact aops_sound (fun st' a' w' h1 h2 h3 => ⟨st', h1, h2, h3⟩) h hr (fun d _ hk => Nat.lt_irrefl _ (hg _ _ hk)) hnd (fun t g hk => Nat.le_of_lt (hg t g hk)) hb

theorem a_skip {Q : Exit → St → Prop} {st : St} (h : Q .normal st) : ASpec P .skip Q st := fun _ _ _ _ _ hr hb => wp_skip ⟨st, h, hr, hb⟩
theorem a_exit {id : Nat} {Q : Exit → St → Prop} {st : St} (h : Q (.exit id) st) : ASpec P (.exit id) Q st := fun _ _ _ _ _ hr hb => wp_exit ⟨st, h, hr, hb⟩
theorem a_ret {Q : Exit → St → Prop} {st : St} (h : Q .ret st) : ASpec P .ret Q st := fun _ _ _ _ _ hr hb => wp_ret ⟨st, h, hr, hb⟩
def thenA (next : St → Prop) (Q : Exit → St → Prop) : Exit → St → Prop
  | .normal, st => next st
  | e, st => Q e st
theorem a_seq {x y : Code} {Q : Exit → St → Prop} {st : St} (h : ASpec P x (thenA (ASpec P y Q) Q) st) : ASpec P (.seq x y) Q st := by
  intro n0 ext w0 a w hr hb
  refine wp_seq (wp_mono (h n0 ext w0 a w hr hb) fun e a' w' ⟨st', h1, h2, h3⟩ => ?_)
  cases e <;> first | exact h1 n0 ext w0 a' w' h2 h3 | exact ⟨st', h1, h2, h3⟩
theorem a_seq_k {x y : Code} {Q : Exit → St → Prop} {st : St} (h : ∀ K : St → Prop, (∀ st, ASpec P y Q st → K st) → ASpec P x (thenA K Q) st) : ASpec P (.seq x y) Q st := a_seq (h _ fun _ h => h)
theorem a_cond {c : Operand} {x y : Code} {Q : Exit → St → Prop} {st : St} {b : Bool} (hc : opnd st.τ c = .bool b) (ht : b = true → ASpec P x Q st) (hf : b = false → ASpec P y Q st) : ASpec P (.cond c x y) Q st := by
  intro n0 ext w0 a w hr hb
  obtain ⟨β, ok, hs, hg⟩ := hr
  have hv := hs.opnd c
  rw [hc] at hv
  refine wp_cond (t := b) hv.bool_open ?_
  cases b
  · exact hf rfl n0 ext w0 a w ⟨β, ok, hs, hg⟩ hb
  · exact ht rfl n0 ext w0 a w ⟨β, ok, hs, hg⟩ hb
def blockA (id : Nat) (Q : Exit → St → Prop) : Exit → St → Prop
  | .exit id', st => if id' = id then Q .normal st else Q (.exit id') st
  | e, st => Q e st
theorem a_block {id : Nat} {c : Code} {Q : Exit → St → Prop} {st : St} (h : ASpec P c (blockA id Q) st) : ASpec P (.block id c) Q st := by
  intro n0 ext w0 a w hr hb
  refine wp_block (wp_mono (h n0 ext w0 a w hr hb) fun e a' w' ⟨st', h1, h2, h3⟩ => ?_)
  cases e <;> first | exact ⟨st', h1, h2, h3⟩ | skip
  rename_i id'
  simp only [blockA] at h1
  simp only [Exit.inBlock]
  split
  · rename_i e; rw [if_pos e] at h1; exact ⟨st', h1, h2, h3⟩
  · rename_i e; rw [if_neg e] at h1; exact ⟨st', h1, h2, h3⟩
theorem exists_least {p : Nat → Prop} (h : ∃ n, p n) : ∃ n, p n ∧ ∀ m, p m → n ≤ m := by
  obtain ⟨n, hn⟩ := h
  induction n using Nat.strongRecOn with
  | _ n ih =>
    by_cases hl : ∃ m, m < n ∧ p m
    · obtain ⟨m, hm, hp⟩ := hl; exact ih m hm hp
    · exact ⟨n, hn, fun m hm => Nat.le_of_not_lt fun hlt => hl ⟨m, hlt, hm⟩⟩
open Classical in
noncomputable def leastOf (p : Nat → Prop) : Nat := if h : ∃ n, p n then Classical.choose (exists_least h) else 0
theorem leastOf_spec {p : Nat → Prop} (h : ∃ n, p n) : p (leastOf p) ∧ ∀ m, p m → leastOf p ≤ m := by
  unfold leastOf; rw [dif_pos h]; exact Classical.choose_spec (exists_least h)
/-- A loop: what holds at its head, with a number that each round lowers. -/
theorem a_loop {c : Code} {Q : Exit → St → Prop} (I : Nat → St → Prop) (round : ∀ n st, I n st → ASpec P c (thenA (fun st' => ∃ m, m < n ∧ I m st') Q) st) {n : Nat} {st : St} (h0 : I n st) : ASpec P (.loop c) Q st := by
  intro n0 ext w0 a w hr hb
  refine wp_loop (fun a w => ∃ n st, I n st ∧ FR n0 ext st a w ∧ Below n0 w0 w) (fun a w => leastOf fun n => ∃ st, I n st ∧ FR n0 ext st a w ∧ Below n0 w0 w) ⟨n, st, h0, hr, hb⟩ ?_
  rintro a w ⟨n1, st1, h1⟩
  have hex : ∃ n, ∃ st, I n st ∧ FR n0 ext st a w ∧ Below n0 w0 w := ⟨n1, st1, h1⟩
  obtain ⟨⟨st2, h2, h3, h4⟩, hmin⟩ := leastOf_spec hex
  refine wp_mono (round _ _ h2 n0 ext w0 a w h3 h4) fun e a' w' ⟨st', h5, h6, h7⟩ => ?_
  cases e <;> first | exact ⟨st', h5, h6, h7⟩ | skip
  obtain ⟨m, hm, hI⟩ := h5
  refine ⟨⟨m, st', hI, h6, h7⟩, ?_⟩
  have := (leastOf_spec (p := fun n => ∃ st, I n st ∧ FR n0 ext st a' w' ∧ Below n0 w0 w') ⟨m, st', hI, h6, h7⟩).2 m ⟨st', hI, h6, h7⟩
  exact Nat.lt_of_le_of_lt this hm

/-! Forgetting. -/
/-- st tells less than st'. -/
def Less (st st' : St) : Prop := (st.τ.length = st'.τ.length ∧ ∀ i, i < st.τ.length → st.τ[i]? = st'.τ[i]? ∨ st.τ[i]? = some .any) ∧ (∀ (t : Nat) (r : Reg), st.σ[t]? = some (some r) → st'.σ[t]? = some (some r)) ∧ st'.gen ≤ st.gen
theorem RepVL.less : ∀ {xs ys : List AV} {vs : List Value}, RepVL w own β ok ys vs → xs.length = ys.length → (∀ i, i < xs.length → xs[i]? = ys[i]? ∨ xs[i]? = some .any) → RepVL w own β ok xs vs
  | [], _, _, h, hl, _ => by cases h <;> first | exact .nil | simp at hl
  | x :: xs, _, _, h, hl, hi => by
    cases h with
    | nil => simp at hl
    | cons h1 h2 =>
      refine .cons ?_ (RepVL.less h2 (by simpa using hl) (fun i hlt => by simpa using hi (i + 1) (by simpa using hlt)))
      rcases hi 0 (by simp) with h3 | h3
      · simp at h3; rw [h3]; exact h1
      · simp at h3; rw [h3]; exact .closed (.any _)
theorem FR.less {st st' : St} (h : Less st st') (hr : FR n0 ext st' a w) : FR n0 ext st a w := by
  obtain ⟨β, ok, hs, hg⟩ := hr
  obtain ⟨⟨hl, ht⟩, hσ, hgen⟩ := h
  have hsub : ∀ b, ownOf ext β st.σ b → ownOf ext β st'.σ b := by
    rintro b (h1 | ⟨t, r, h1, h2⟩)
    · exact .inl h1
    · exact .inr ⟨t, r, hσ _ _ h1, h2⟩
  have hgr : Grows w w (ownOf ext β st'.σ) (ownOf ext β st.σ) := Grows.less hsub
  refine ⟨β, ok, ⟨(hs.temps.less hl ht).mono hgr (fun _ _ x => x) (fun _ _ _ => rfl), fun t r hr => ?_, fun t t' r r' h1 h2 => hs.dist t t' r r' (hσ _ _ h1) (hσ _ _ h2), hs.extlt, hs.n0le, hs.defers⟩, fun t g hk => Nat.lt_of_lt_of_le (hg t g hk) hgen⟩
  obtain ⟨h1, h2⟩ := hs.regs t r (hσ _ _ hr)
  exact ⟨h1, h2.mono (fun _ _ _ => rfl) h1 (fun _ _ x => x) hgr (fun _ => rfl)⟩
theorem a_less {c : Code} {Q : Exit → St → Prop} {st st' : St} (hl : Less st st') (h : ASpec P c Q st) : ASpec P c Q st' :=
  fun n0 ext w0 a w hr hb => h n0 ext w0 a w (hr.less hl) hb

/-! A function. -/
def resA (P : Program) (st : St) : ResultVar → Option AV
  | .tmp t => some (st.τ.getD t .any)
  | .cell t ty => match loadM P st.σ ty (st.τ.getD t .any) with
    | some (_, r) => some r.v
    | none => none
def resL (P : Program) (st : St) : List ResultVar → Option (List AV)
  | [] => some []
  | x :: xs => match resA P st x, resL P st xs with
    | some v, some vs => some (v :: vs)
    | _, _ => none
def tupA : List AV → AV
  | [x] => x
  | xs => .tuple xs
def retA (P : Program) (rs : List ResultVar) (r : AV) : Exit → St → Prop
  | .ret, st | .normal, st => match resL P st rs with
    | some vs => match closeL (closeV st.σ 4) vs with
      | some (us, _) => tupA us = r
      | none => False
    | none => False
  | _, _ => False
def st0 (n : Nat) (args : List AV) : St := ⟨args ++ List.replicate (n - args.length) .any, List.replicate n none, 0⟩

theorem resA_sound (h : StRel n0 ext β ok st a w) {x : ResultVar} {y : AV} (he : resA P st x = some y) :
    ∃ v, ((match x with | .tmp t => pure (a.tmps.getD t undef) | .cell p t => do loadVar t (← asAddr (a.tmps.getD p undef)) : Sem Value)).run P w = .ok v w ∧ RepV w (ownOf ext β st.σ) β ok y v := by
  cases x with
  | tmp t =>
    simp only [resA, Option.some.injEq] at he; subst he
    exact ⟨_, rfl, h.opnd (.tmp t)⟩
  | cell p t =>
    simp only [resA] at he
    split at he
    · rename_i pre r hl
      simp only [Option.some.injEq] at he; subst he
      have hp := h.opnd (.tmp p)
      obtain ⟨v, hv, hr, _⟩ := loadM_sound (P := P) h hp hl
      refine ⟨v, ?_, hr⟩
      have e : a.eval (.tmp p) = a.tmps.getD p undef := rfl
      rw [e] at hv
      obtain ⟨q, hq⟩ : ∃ q, a.tmps.getD p undef = q := ⟨_, rfl⟩
      simp only [hq] at hv ⊢
      have : ∃ A, q = .pointer (some A) := by
        simp only [Instr.loadAt, Sem.run_bind] at hv
        cases q <;> try (simp [Instr.sureAddr, stuck] at hv; done)
        rename_i o
        cases o
        · simp [Instr.sureAddr, stuck] at hv
        · exact ⟨_, rfl⟩
      obtain ⟨A, rfl⟩ := this
      simpa [Instr.loadAt, Instr.sureAddr, asAddr] using hv
    · cases he
theorem resL_sound (h : StRel n0 ext β ok st a w) : ∀ {xs : List ResultVar} {ys : List AV}, resL P st xs = some ys →
    ∃ vs, (xs.mapM fun x => (match x with | .tmp t => pure (a.tmps.getD t undef) | .cell p t => do loadVar t (← asAddr (a.tmps.getD p undef)) : Sem Value)).run P w = .ok vs w ∧ RepVL w (ownOf ext β st.σ) β ok ys vs
  | [], ys, he => by simp only [resL, Option.some.injEq] at he; subst he; exact ⟨[], by simp, .nil⟩
  | x :: xs, ys, he => by
    simp only [resL] at he
    split at he
    · rename_i v vs h1 h2
      simp only [Option.some.injEq] at he; subst he
      obtain ⟨u, hu, hru⟩ := resA_sound h h1
      obtain ⟨us, hus, hrus⟩ := resL_sound h h2
      refine ⟨u :: us, ?_, .cons hru hrus⟩
      rw [List.mapM_cons]
      simp only [Sem.run_bind, hu, Result.andThen_ok, hus, Sem.run_pure]
    · cases he

theorem acalls_of {f : FuncId} {fn : Func} {c : Code} {args : List AV} {r : AV} (hf : P.funcs[f]? = some fn) (hb : fn.body = some c) (hname : (fn.name == "runtime.NumGoroutine") = false) {rs : List ResultVar} (hrs : fn.results.toList = rs) {n : Nat} (hn : fn.ntmps = n)
    (h : ASpec P c (retA P rs r) (st0 n args)) : ACalls P f args r := by
  subst hn; subst hrs
  refine ⟨by simp [callable, hf, hb, hname], fun w own vs hown hargs => ?_⟩
  refine calls_of_wp hf hb ?_
  have hlen := hargs.length
  have hfr : FR w.heap.size own (st0 fn.ntmps args) { tmps := vs.toArray ++ Array.replicate (fn.ntmps - vs.toArray.size) undef, defers := [] } w := by
    refine ⟨fun _ _ => default, fun _ _ => False, ⟨?_, ?_, ?_, hown, Nat.le_refl _, rfl⟩, fun _ _ h => h.elim⟩
    · simp only [st0, Array.toList_append, Array.toList_replicate, List.size_toArray, hlen]
      have hown2 : ∀ b, ownOf own (fun _ _ => default) (List.replicate fn.ntmps none) b → own b := by
        rintro b (h1 | ⟨t, r', h1, _⟩)
        · exact h1
        · rw [List.getElem?_replicate] at h1; split at h1 <;> simp at h1
      refine RepVL.append (hargs.mono (Grows.less hown2)).toV ?_
      generalize fn.ntmps - vs.length = m
      induction m with
      | zero => exact .nil
      | succ m ih => exact .cons (.closed (.any _)) ih
    · intro t r' h1
      simp only [st0, List.getElem?_replicate] at h1; split at h1 <;> simp at h1
    · intro t t' r1 r2 h1
      simp only [st0, List.getElem?_replicate] at h1; split at h1 <;> simp at h1
  refine wp_mono (h _ _ w _ w hfr (Below.refl _ _)) fun e a' w' ⟨st', h1, ⟨β, ok, h2, _⟩, h3⟩ => ?_
  have fin : (match resL P st' fn.results.toList with
    | some vs => match closeL (closeV st'.σ 4) vs with
      | some (us, _) => tupA us = r
      | none => False
    | none => False) → a'.defers = [] ∧ ∃ v, (results fn a'.tmps).run P w' = .ok v w' ∧ (∃ v', Ending.returned v = .returned v' ∧ RepC w' own r v' ∧ Below w.heap.size w w') := by
    intro hq
    refine ⟨h2.defers, ?_⟩
    split at hq
    · rename_i ys hy
      split at hq
      · rename_i us ks hcl
        obtain ⟨qs, hqs, hrep⟩ := resL_sound h2 hy
        have hrc : RepCL w' (ownLess own β st'.σ ks) us qs := closeL_sound (own' := fun ks => ownLess own β st'.σ ks) (fun x v y ks ks' => closeV_sound h2 4 x v y ks ks') hrep hcl (fun _ hk => hk)
        have hrc2 : RepCL w' own us qs := hrc.mono (Grows.less fun b hb => .inl hb)
        have hrun : (results fn a'.tmps).run P w' = .ok (if h : qs.toArray.size = 1 then qs.toArray[0] else .tuple qs.toArray) w' := by
          have e0 : results fn a'.tmps = (do
              let vs ← fn.results.mapM fun x => (match x with | .tmp t => pure (a'.tmps.getD t undef) | .cell p t => do loadVar t (← asAddr (a'.tmps.getD p undef)) : Sem Value)
              pure (if h : vs.size = 1 then vs[0] else .tuple vs)) := rfl
          rw [e0]
          have e : (fn.results.mapM fun x => (match x with | .tmp t => pure (a'.tmps.getD t undef) | .cell p t => do loadVar t (← asAddr (a'.tmps.getD p undef)) : Sem Value)).run P w' = .ok qs.toArray w' := by
            rw [Array.mapM_eq_mapM_toList, Sem.run_map, hqs]; rfl
          simp only [Sem.run_bind, e, Result.andThen_ok, Sem.run_pure]
        refine ⟨_, hrun, _, rfl, ?_, h3⟩
        subst hq
        cases hrc2 with
        | nil => exact .tuple .nil
        | cons h4 h5 =>
          cases h5 with
          | nil => simpa [tupA] using h4
          | cons h6 h7 => simpa [tupA] using RepC.tuple (.cons h4 (.cons h6 h7))
      · exact hq.elim
    · exact hq.elim
  cases e <;> first | exact fin h1 | exact h1.elim
theorem acalls_of_k {f : FuncId} {fn : Func} {c : Code} {args : List AV} {r : AV} (hf : P.funcs[f]? = some fn) (hb : fn.body = some c) (hname : (fn.name == "runtime.NumGoroutine") = false) {rs : List ResultVar} (hrs : fn.results.toList = rs) {n : Nat} (hn : fn.ntmps = n)
    (h : ∀ R : Exit → St → Prop, (∀ e st, retA P rs r e st → R e st) → ASpec P c R (st0 n args)) : ACalls P f args r := acalls_of hf hb hname hrs hn (h _ fun _ _ h => h)
theorem a_cond_true {c : Operand} {x y : Code} {Q : Exit → St → Prop} {st : St} (hc : opnd st.τ c = .bool true) (h : ASpec P x Q st) : ASpec P (.cond c x y) Q st := a_cond hc (fun _ => h) (fun e => by cases e)
theorem a_cond_false {c : Operand} {x y : Code} {Q : Exit → St → Prop} {st : St} (hc : opnd st.τ c = .bool false) (h : ASpec P y Q st) : ASpec P (.cond c x y) Q st := a_cond hc (fun e => by cases e) (fun _ => h)
end
end Go.Ab
