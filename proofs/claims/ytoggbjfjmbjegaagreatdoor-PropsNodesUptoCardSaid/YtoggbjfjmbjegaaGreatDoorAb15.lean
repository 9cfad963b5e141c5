/- A region in its text's order; sequences, branches, blocks, loops; a function. What an operation looks at: the rest may turn. A region whose order is drawn: whatever the order, it comes to what the text's order comes to. -/
import Derived.Test.YtoggbjfjmbjegaaGreatDoorAb12
import Derived.Scope
set_option linter.unusedSimpArgs false
set_option linter.unusedVariables false
section
namespace Go.Ab
open Go.RowKit

def allocDsts : List Oper → List Tmp
  | [] => []
  | o :: rest => (if allocB o.op then o.dst.toList else []) ++ allocDsts rest
def allocsOk (l : List Oper) : Bool := decide (allocDsts l).Nodup
def allocKeys (κ : Nat → List Nat) : Nat → List Oper → List Nat
  | _, [] => []
  | i, _ :: rest => κ i ++ allocKeys κ (i + 1) rest
def dstK (ops : List Oper) (i : Nat) : List Nat := match ops[i]? with | some o => if allocB o.op then o.dst.toList else [] | none => []
theorem allocKeys_dst {ops : List Oper} : ∀ {l : List Oper} {i : Nat}, (∀ j, l[j]? = ops[i + j]?) → allocKeys (dstK ops) i l = allocDsts l
  | [], _, _ => rfl
  | o :: l, i, h => by
    have h0 : ops[i]? = some o := by simpa using (h 0).symm
    have h1 : ∀ j, l[j]? = ops[i + 1 + j]? := fun j => by have := h (j + 1); simpa [Nat.add_assoc, Nat.add_comm 1 j] using this
    simp only [allocKeys, allocDsts, dstK, h0, allocKeys_dst h1]

def gval (ops : Array Oper) (τ : List AV) (j : Nat) : Option (Option Bool) :=
  match (ops[j]?).bind (·.dst) with
  | some d => match τ.getD d .any with | .bool b => some (some b) | .tuple [] => some none | _ => none
  | none => none

def CallA (P : Program) (f : FuncId) (args : List AV) (ks : List Nat) (raw : List AV) (st : St) (dst : Option Tmp) (K : Res → Prop) : Prop :=
  (∃ r, ACalls P f args r ∧ K ⟨r, if scalarB r then [] else killed ks, ks⟩) ∨
  (∃ ls n r σ', MCalls P f st.gen raw (lend st.σ ls n) r σ' ∧ K ⟨r, ls.map fun k => (k, σ'.getD k none), ls⟩) ∨
  (∃ d es els, dst = some d ∧ FCalls P f args es els ∧ K ⟨.view d st.gen, (if scalarL els.flatten = true then [] else killed ks) ++ [(d, some (.row st.gen es els))], ks⟩) ∨
  (∃ r, extB P f raw = some r ∧ K ⟨r, [], []⟩)
def stepA (P : Program) (st : St) (o : Oper) (K : Res → Prop) : Prop :=
  match pureOp P (opnd st.τ) o.op with
  | some (pre, v) => pre ∧ K ⟨v, [], []⟩
  | none => match memOp P (opnd st.τ) st.σ st.gen o.dst o.op with
    | some (pre, r) => pre ∧ K r
    | none => match callOf (opnd st.τ) o.op with
      | some (f, args) => match closeL (closeV st.σ 4) args with
        | some (args', ks) => CallA P f args' ks args st o.dst K
        | none => False
      | none => match litA P (opnd st.τ) st.σ st.gen o.dst o.op with
        | some r => K r
        | none => if allocB o.op = true then False else match memS P (opnd st.τ) st.σ st.gen o.dst o.op with
          | some (b, r) => b = true ∧ K r
          | none => False
theorem callOf_alloc {ρ : Operand → AV} {op : Op} {x : FuncId × List AV} (h : callOf ρ op = some x) : allocB op = true := by
  unfold callOf at h
  split at h
  · split at h
    · rename_i e; simp only [allocB, e]
    · cases h
  · cases h
theorem stepA_exec {P : Program} {rs : List Nat} {st : St} {o : Oper} {K : Res → Prop} (hin : allocB o.op = true → ∀ d, o.dst = some d → d ∈ rs) (h : stepA P st o K) : ∃ r, Exec P rs st o r ∧ K r := by
  unfold stepA at h
  split at h
  · rename_i pre v hp; exact ⟨_, .pure hp h.1, h.2⟩
  · split at h
    · rename_i pre r hm; exact ⟨_, .mem hm h.1 hin, h.2⟩
    · split at h
      · rename_i f args hc
        split at h
        · rename_i args' ks hcl
          rcases h with ⟨r, h1, h2⟩ | ⟨ls, n, r, σ', h1, h2⟩ | ⟨d, es, els, h0, h1, h2⟩ | ⟨r, h1, h2⟩
          rotate_right
          · exact ⟨_, .ext hc h1, h2⟩
          · exact ⟨_, .call hc hcl h1, h2⟩
          · exact ⟨_, .mcall hc h1, h2⟩
          · exact ⟨_, .fcall hc hcl h1 h0 (hin (callOf_alloc hc) d h0), h2⟩
        · exact h.elim
      · split at h
        · rename_i r hl; exact ⟨r, .lit hl hin, h⟩
        · split at h
          · exact h.elim
          · rename_i hal
            split at h
            · rename_i b r hm
              obtain ⟨rfl, hk⟩ := h
              exact ⟨r, .cell hm (by simpa using hal), hk⟩
            · exact h.elim

def skipR : Res := ⟨.tuple [], [], []⟩
def St.learn (ops : Array Oper) (st : St) (j : Nat) (b : Bool) : St :=
  match (ops[j]?).bind (·.dst) with
  | some d => ⟨st.τ.set d (.bool b), st.σ, st.gen⟩
  | none => st
def gateA (ops : Array Oper) (st : St) (o : Oper) (run skip : St → Prop) : Prop :=
  match o.guard with
  | none => run st
  | some (j, want) => match gval ops st.τ j with
    | some (some b) => (b = want → run (st.learn ops j want)) ∧ (b = !want → skip (st.learn ops j (!want)))
    | some none => skip st
    | none => False
theorem learn_same {ops : Array Oper} {st : St} {j : Nat} {b : Bool} (h : gval ops st.τ j = some (some b)) : st.learn ops j b = st := by
  unfold gval at h
  unfold St.learn
  split at h
  · rename_i d hd
    split at h
    · rename_i b' hb
      cases h
      have hlt : d < st.τ.length := by
        rcases Nat.lt_or_ge d st.τ.length with hl | hl
        · exact hl
        · rw [List.getD_eq_getElem?_getD, List.getElem?_eq_none hl] at hb; cases hb
      rw [List.getD_eq_getElem?_getD, List.getElem?_eq_getElem hlt, Option.getD_some] at hb
      rw [← hb, List.set_getElem_self]
    · cases h
    · cases h
  · cases h

def aops (P : Program) (ops : Array Oper) (Q : St → Prop) : List Oper → St → Prop
  | [], st => Q ⟨st.τ, st.σ, st.gen + 1⟩
  | o :: rest, st => gateA ops st o (fun st => stepA P st o fun r => aops P ops Q rest (st.after o.dst r)) (fun st => aops P ops Q rest (st.after o.dst skipR))

def xops (P : Program) (κ : Nat → List Nat) (ops : Array Oper) (Q : St → Prop) : Nat → List Oper → St → Prop
  | _, [], st => Q ⟨st.τ, st.σ, st.gen + 1⟩
  | i, o :: rest, st => gateA ops st o (fun st => ∃ r, Exec P (κ i) st o r ∧ xops P κ ops Q (i + 1) rest (st.after o.dst r)) (fun st => xops P κ ops Q (i + 1) rest (st.after o.dst skipR))
theorem gateA_mono {ops : Array Oper} {st : St} {o : Oper} {run run' skip skip' : St → Prop} (h1 : ∀ st, run st → run' st) (h2 : ∀ st, skip st → skip' st) (h : gateA ops st o run skip) : gateA ops st o run' skip' := by
  unfold gateA at h ⊢
  split at h
  · exact h1 _ h
  · split at h
    · exact ⟨fun e => h1 _ (h.1 e), fun e => h2 _ (h.2 e)⟩
    · exact h2 _ h
    · exact h.elim
theorem aops_x {P : Program} {ops : Array Oper} {L : List Oper} {Q : St → Prop} : ∀ {l : List Oper} {i : Nat} {st : St}, (∀ j, l[j]? = L[i + j]?) → aops P ops Q l st → xops P (dstK L) ops Q i l st
  | [], _, _, _, h => h
  | o :: l, i, _, hl, h => by
    have h0 : L[i]? = some o := by simpa using (hl 0).symm
    have h1 : ∀ j, l[j]? = L[i + 1 + j]? := fun j => by have := hl (j + 1); simpa [Nat.add_assoc, Nat.add_comm 1 j] using this
    refine gateA_mono (fun _ h => ?_) (fun _ h => aops_x h1 h) h
    obtain ⟨r, h2, h3⟩ := stepA_exec (rs := dstK L i) (fun e d hd => by simp [dstK, h0, e, hd]) h
    exact ⟨r, h2, aops_x h1 h3⟩

structure Base where
  β : Nat → Nat → Loc
  ok : Nat → Nat → Prop
def FR (n0 : Nat → Prop) (ext : Nat → Prop) (bs : Base) (st : St) (a : Act) (w : World) : Prop := ∃ β ok, StRel n0 ext β ok st a w ∧ (∀ t g, ok t g → g < st.gen) ∧ Exts bs.β bs.ok β ok

section
variable {P : Program} {n0 : Nat → Prop} {ext : Nat → Prop} {bs : Base} {β : Nat → Nat → Loc} {ok : Nat → Nat → Prop} {st : St} {a : Act} {w w0 w' : World} {own : Nat → Prop}

theorem gval_yielded (h : StRel n0 ext β ok st a w) {ops : Array Oper} {j : Nat} {b : Option Bool} (hg : gval ops st.τ j = some b) : yielded ops a.tmps j = b := by
  unfold gval at hg
  unfold yielded
  split at hg
  · rename_i d hd
    have key : ∀ x, st.τ.getD d .any = x → x ≠ .any → ∃ v, a.tmps[d]? = some v ∧ RepV w (ownOf ext β st.σ) β ok x v := by
      intro x hb hx
      have hlt : d < st.τ.length := by
        rcases Nat.lt_or_ge d st.τ.length with hl | hl
        · exact hl
        · rw [List.getD_eq_getElem?_getD, List.getElem?_eq_none hl] at hb; exact absurd hb.symm hx
      obtain ⟨v, hv, hr⟩ := h.temps.get d hlt
      have : st.τ[d] = x := by rw [List.getD_eq_getElem?_getD, List.getElem?_eq_getElem hlt] at hb; exact hb
      rw [this] at hr
      exact ⟨v, by simpa using hv, hr⟩
    split at hg
    · rename_i b' hb
      simp only [Option.some.injEq] at hg; subst hg
      obtain ⟨v, hv, hr⟩ := key _ hb (by simp)
      rw [hr.bool_open] at hv
      simp [hd, hv]
    · rename_i hb
      simp only [Option.some.injEq] at hg; subst hg
      obtain ⟨v, hv, hr⟩ := key _ hb (by simp)
      obtain ⟨vs, rfl⟩ : ∃ vs, v = .tuple vs := by
        cases hr with
        | closed h => cases h with | tuple h => exact ⟨_, rfl⟩
        | tuple h => exact ⟨_, rfl⟩
      simp [hd, hv]
    · cases hg
  · cases hg

theorem gateA_split (h : StRel n0 ext β ok st a w) {ops : Array Oper} {o : Oper} {run skip : St → Prop} (hg : gateA ops st o run skip) : (Region.wanted o (yielded ops a.tmps) = true ∧ run st) ∨ (Region.wanted o (yielded ops a.tmps) = false ∧ skip st) := by
  unfold gateA at hg
  unfold Region.wanted
  cases hgd : o.guard with
  | none => rw [hgd] at hg; exact .inl ⟨rfl, hg⟩
  | some p =>
    obtain ⟨j, want⟩ := p
    rw [hgd] at hg
    simp only at hg ⊢
    split at hg
    · rename_i b hb
      have hy := gval_yielded h hb
      by_cases hbw : b = want
      · subst hbw
        have := hg.1 rfl
        rw [learn_same hb] at this
        exact .inl ⟨by simp [hy], this⟩
      · have hbw' : b = !want := by cases b <;> cases want <;> simp at hbw ⊢
        have := hg.2 hbw'
        rw [← hbw', learn_same hb] at this
        exact .inr ⟨by simp [hy, hbw], this⟩
    · rename_i hb
      exact .inr ⟨by simp [gval_yielded h hb], hg⟩
    · exact hg.elim

theorem xops_sound {κ : Nat → List Nat} {ops : Array Oper} {Q : St → Prop} {Q' : Exit → Act → World → Prop} (hQ : ∀ st' a' w', Q st' → FR n0 ext bs st' a' w' → Bel n0 w0 w' → Q' .normal a' w') : ∀ {l : List Oper} {i : Nat} {st : St} {β : Nat → Nat → Loc} {ok : Nat → Nat → Prop} {a : Act} {w : World}, xops P κ ops Q i l st → StRel n0 ext β ok st a w → (∀ d ∈ allocKeys κ i l, ¬ ok d st.gen) → (allocKeys κ i l).Nodup → (∀ t g, ok t g → g ≤ st.gen) → Exts bs.β bs.ok β ok → Bel n0 w0 w →
    wpList P ops Q' l a w
  | [], i, st, β, ok, a, w, h, hr, _, _, hg, hx, hb => by
    refine hQ _ _ _ h ⟨β, ok, ⟨hr.temps, hr.regs, hr.dist, hr.extlt, hr.n0le, hr.defers, hr.glob⟩, fun t g hk => ?_, hx⟩ hb
    have := hg t g hk; simp only; omega
  | o :: rest, i, st, β, ok, a, w, h, hr, hf, hnd, hg, hx, hb => by
    simp only [allocKeys] at hf hnd
    have hnd' : (allocKeys κ (i + 1) rest).Nodup := (List.nodup_append.mp hnd).2.1
    unfold wpList
    rcases gateA_split hr h with ⟨hw, hrun⟩ | ⟨hw, hskip⟩
    · rw [if_pos hw]
      obtain ⟨r, hex, hk⟩ := hrun
      refine .inl (hex.wp hr (fun k hk => hf k (by simp [hk])) hg (fun β' ok' a' w' h1 h2 h3 h3x => ?_))
      refine xops_sound hQ hk h1 ?_ hnd' ?_ (hx.trans h3x) (hb.trans h2)
      · intro d hd hk'
        rcases h3 d _ hk' with h4 | ⟨h4, _⟩
        · exact hf d (List.mem_append_right _ hd) h4
        · have := (List.nodup_append.mp hnd).2.2 d (by simp [h4]) d hd
          exact this rfl
      · intro t g hk'
        rcases h3 t g hk' with h4 | ⟨_, rfl⟩
        · exact hg t g h4
        · exact Nat.le_refl _
    · rw [if_neg (by simp [hw])]
      have hs := hr.still o.dst (x := .tuple []) (v := undef) (.closed (.tuple .nil))
      exact xops_sound hQ (β := β) hskip hs (fun d hd => hf d (List.mem_append_right _ hd)) hnd' hg hx hb

/-! ### Code -/
def ASpec (P : Program) (c : Code) (Q : Exit → St → Prop) (st : St) : Prop :=
  ∀ (n0 : Nat → Prop) (ext : Nat → Prop) (bs : Base) (w0 : World) (a : Act) (w : World), FR n0 ext bs st a w → Bel n0 w0 w →
    c.wp P (fun e a' w' => ∃ st', Q e st' ∧ FR n0 ext bs st' a' w' ∧ Bel n0 w0 w') a w

theorem a_mono {c : Code} {Q Q' : Exit → St → Prop} {st : St} (h : ASpec P c Q st) (hq : ∀ e st, Q e st → Q' e st) : ASpec P c Q' st :=
  fun n0 ext bs w0 a w h1 h2 => wp_mono (h n0 ext bs w0 a w h1 h2) fun _ _ _ ⟨st', h3, h4⟩ => ⟨st', hq _ _ h3, h4⟩
theorem a_xregion {κ : Nat → List Nat} {id : Nat} {ops : Array Oper} {Q : Exit → St → Prop} {st : St} (hnd : (allocKeys κ 0 ops.toList).Nodup) (h : xops P κ ops (Q .normal) 0 ops.toList st) : ASpec P (.region id ops false) Q st := by
  intro n0 ext bs w0 a w ⟨β, ok, hr, hg, hx⟩ hb
  refine wp_region_list ?_
  exact xops_sound (fun st' a' w' h1 h2 h3 => ⟨st', h1, h2, h3⟩) h hr (fun d _ hk => Nat.lt_irrefl _ (hg _ _ hk)) hnd (fun t g hk => Nat.le_of_lt (hg t g hk)) hx hb

theorem a_region {id : Nat} {ops : Array Oper} {Q : Exit → St → Prop} {st : St} (hok : allocsOk ops.toList = true) (h : aops P ops (Q .normal) ops.toList st) : ASpec P (.region id ops false) Q st := a_xregion (κ := dstK ops.toList) (by rw [allocKeys_dst (fun j => by rw [Nat.zero_add])]; exact of_decide_eq_true hok) (aops_x (fun j => by rw [Nat.zero_add]) h)

theorem a_skip {Q : Exit → St → Prop} {st : St} (h : Q .normal st) : ASpec P .skip Q st := fun _ _ _ _ _ _ hr hb => wp_skip ⟨st, h, hr, hb⟩
theorem a_exit {id : Nat} {Q : Exit → St → Prop} {st : St} (h : Q (.exit id) st) : ASpec P (.exit id) Q st := fun _ _ _ _ _ _ hr hb => wp_exit ⟨st, h, hr, hb⟩
theorem a_ret {Q : Exit → St → Prop} {st : St} (h : Q .ret st) : ASpec P .ret Q st := fun _ _ _ _ _ _ hr hb => wp_ret ⟨st, h, hr, hb⟩
theorem a_label {l : Nat} {Q : Exit → St → Prop} {st : St} (h : Q .normal st) : ASpec P (.label l) Q st := fun _ _ _ _ _ _ hr hb => wp_label ⟨st, h, hr, hb⟩
def noGotoA (Q : Exit → St → Prop) : Exit → St → Prop
  | .goto _, _ => False
  | e, st => Q e st
theorem a_scope {c : Code} {Q : Exit → St → Prop} {st : St} (h : ASpec P c (noGotoA Q) st) : ASpec P (.scope c) Q st := by
  intro n0 ext bs w0 a w hr hb
  refine wp_scope_straight (wp_mono (h n0 ext bs w0 a w hr hb) fun e a' w' ⟨st', h1, h2, h3⟩ => ?_)
  cases e <;> first | exact h1.elim | exact ⟨st', h1, h2, h3⟩
def thenA (next : St → Prop) (Q : Exit → St → Prop) : Exit → St → Prop
  | .normal, st => next st
  | e, st => Q e st
theorem a_seq {x y : Code} {Q : Exit → St → Prop} {st : St} (h : ASpec P x (thenA (ASpec P y Q) Q) st) : ASpec P (.seq x y) Q st := by
  intro n0 ext bs w0 a w hr hb
  refine wp_seq (wp_mono (h n0 ext bs w0 a w hr hb) fun e a' w' ⟨st', h1, h2, h3⟩ => ?_)
  cases e <;> first | exact h1 n0 ext bs w0 a' w' h2 h3 | exact ⟨st', h1, h2, h3⟩
theorem a_seq_k {x y : Code} {Q : Exit → St → Prop} {st : St} (h : ∀ K : St → Prop, (∀ st, ASpec P y Q st → K st) → ASpec P x (thenA K Q) st) : ASpec P (.seq x y) Q st := a_seq (h _ fun _ h => h)
theorem a_cond {c : Operand} {x y : Code} {Q : Exit → St → Prop} {st : St} {b : Bool} (hc : opnd st.τ c = .bool b) (ht : b = true → ASpec P x Q st) (hf : b = false → ASpec P y Q st) : ASpec P (.cond c x y) Q st := by
  intro n0 ext bs w0 a w hr hb
  obtain ⟨β, ok, hs, hg⟩ := hr
  have hv := hs.opnd c
  rw [hc] at hv
  refine wp_cond (t := b) hv.bool_open ?_
  cases b
  · exact hf rfl n0 ext bs w0 a w ⟨β, ok, hs, hg⟩ hb
  · exact ht rfl n0 ext bs w0 a w ⟨β, ok, hs, hg⟩ hb
def blockA (id : Nat) (Q : Exit → St → Prop) : Exit → St → Prop
  | .exit id', st => if id' = id then Q .normal st else Q (.exit id') st
  | e, st => Q e st
theorem a_block {id : Nat} {c : Code} {Q : Exit → St → Prop} {st : St} (h : ASpec P c (blockA id Q) st) : ASpec P (.block id c) Q st := by
  intro n0 ext bs w0 a w hr hb
  refine wp_block (wp_mono (h n0 ext bs w0 a w hr hb) fun e a' w' ⟨st', h1, h2, h3⟩ => ?_)
  cases e <;> first | exact ⟨st', h1, h2, h3⟩ | skip
  rename_i id'
  simp only [blockA] at h1
  simp only [Exit.inBlock]
  split
  · rename_i e; rw [if_pos e] at h1; exact ⟨st', h1, h2, h3⟩
  · rename_i e; rw [if_neg e] at h1; exact ⟨st', h1, h2, h3⟩
theorem exists_least {p : Nat → Prop} (h : ∃ n, p n) : ∃ n, p n ∧ ∀ m, p m → n ≤ m := by
  obtain ⟨n, hn⟩ := h
  induction n using Nat.strongRecOn with
  | _ n ih =>
    by_cases hl : ∃ m, m < n ∧ p m
    · obtain ⟨m, hm, hp⟩ := hl; exact ih m hm hp
    · exact ⟨n, hn, fun m hm => Nat.le_of_not_lt fun hlt => hl ⟨m, hlt, hm⟩⟩
open Classical in
noncomputable def leastOf (p : Nat → Prop) : Nat := if h : ∃ n, p n then Classical.choose (exists_least h) else 0
theorem leastOf_spec {p : Nat → Prop} (h : ∃ n, p n) : p (leastOf p) ∧ ∀ m, p m → leastOf p ≤ m := by
  unfold leastOf; rw [dif_pos h]; exact Classical.choose_spec (exists_least h)
theorem a_loop {c : Code} {Q : Exit → St → Prop} (I : Nat → St → Prop) (round : ∀ n st, I n st → ASpec P c (thenA (fun st' => ∃ m, m < n ∧ I m st') Q) st) {n : Nat} {st : St} (h0 : I n st) : ASpec P (.loop c) Q st := by
  intro n0 ext bs w0 a w hr hb
  refine wp_loop (fun a w => ∃ n st, I n st ∧ FR n0 ext bs st a w ∧ Bel n0 w0 w) (fun a w => leastOf fun n => ∃ st, I n st ∧ FR n0 ext bs st a w ∧ Bel n0 w0 w) ⟨n, st, h0, hr, hb⟩ ?_
  rintro a w ⟨n1, st1, h1⟩
  have hex : ∃ n, ∃ st, I n st ∧ FR n0 ext bs st a w ∧ Bel n0 w0 w := ⟨n1, st1, h1⟩
  obtain ⟨⟨st2, h2, h3, h4⟩, hmin⟩ := leastOf_spec hex
  refine wp_mono (round _ _ h2 n0 ext bs w0 a w h3 h4) fun e a' w' ⟨st', h5, h6, h7⟩ => ?_
  cases e <;> first | exact ⟨st', h5, h6, h7⟩ | skip
  obtain ⟨m, hm, hI⟩ := h5
  refine ⟨⟨m, st', hI, h6, h7⟩, ?_⟩
  have := (leastOf_spec (p := fun n => ∃ st, I n st ∧ FR n0 ext bs st a' w' ∧ Bel n0 w0 w') ⟨m, st', hI, h6, h7⟩).2 m ⟨st', hI, h6, h7⟩
  exact Nat.lt_of_le_of_lt this hm

/-! Forgetting. -/
def Less (st st' : St) : Prop := (st.τ.length = st'.τ.length ∧ ∀ i, i < st.τ.length → st.τ[i]? = st'.τ[i]? ∨ st.τ[i]? = some .any) ∧ (∀ (t : Nat) (r : Reg), st.σ[t]? = some (some r) → st'.σ[t]? = some (some r)) ∧ st'.gen ≤ st.gen
theorem RepVL.less : ∀ {xs ys : List AV} {vs : List Value}, RepVL w own β ok ys vs → xs.length = ys.length → (∀ i, i < xs.length → xs[i]? = ys[i]? ∨ xs[i]? = some .any) → RepVL w own β ok xs vs
  | [], _, _, h, hl, _ => by cases h <;> first | exact .nil | simp at hl
  | x :: xs, _, _, h, hl, hi => by
    cases h with
    | nil => simp at hl
    | cons h1 h2 =>
      refine .cons ?_ (RepVL.less h2 (by simpa using hl) (fun i hlt => by simpa using hi (i + 1) (by simpa using hlt)))
      rcases hi 0 (by simp) with h3 | h3
      · simp at h3; rw [h3]; exact h1
      · simp at h3; rw [h3]; exact .closed (.any _)
theorem FR.less {st st' : St} (h : Less st st') (hr : FR n0 ext bs st' a w) : FR n0 ext bs st a w := by
  obtain ⟨β, ok, hs, hg, hx⟩ := hr
  obtain ⟨⟨hl, ht⟩, hσ, hgen⟩ := h
  have hsub : ∀ b, ownOf ext β st.σ b → ownOf ext β st'.σ b := by
    rintro b (h1 | ⟨t, r, h1, h2⟩)
    · exact .inl h1
    · exact .inr ⟨t, r, hσ _ _ h1, h2⟩
  have hgr : Grows w w (ownOf ext β st'.σ) (ownOf ext β st.σ) := Grows.less hsub
  refine ⟨β, ok, ⟨(hs.temps.less hl ht).mono hgr (fun _ _ x => x) (fun _ _ _ => rfl), fun t r hr => ?_, fun t t' r r' h1 h2 => hs.dist t t' r r' (hσ _ _ h1) (hσ _ _ h2), hs.extlt, hs.n0le, hs.defers, hs.glob.mono hgr⟩, fun t g hk => Nat.lt_of_lt_of_le (hg t g hk) hgen, hx⟩
  obtain ⟨h1, h2⟩ := hs.regs t r (hσ _ _ hr)
  exact ⟨h1, h2.mono (fun _ _ _ => rfl) h1 (fun _ _ x => x) hgr (fun _ => rfl)⟩
theorem a_less {c : Code} {Q : Exit → St → Prop} {st st' : St} (hl : Less st st') (h : ASpec P c Q st) : ASpec P c Q st' :=
  fun n0 ext bs w0 a w hr hb => h n0 ext bs w0 a w (hr.less hl) hb

/-! A function. -/
def resA (P : Program) (st : St) : ResultVar → Option AV
  | .tmp t => some (st.τ.getD t .any)
  | .cell t ty => match loadM P st.σ ty (st.τ.getD t .any) with
    | some (_, r) => some r.v
    | none => none
def resL (P : Program) (st : St) : List ResultVar → Option (List AV)
  | [] => some []
  | x :: xs => match resA P st x, resL P st xs with
    | some v, some vs => some (v :: vs)
    | _, _ => none
def tupA : List AV → AV
  | [x] => x
  | xs => .tuple xs
def retA (P : Program) (rs : List ResultVar) (r : AV) : Exit → St → Prop
  | .ret, st | .normal, st => match resL P st rs with
    | some vs => match closeL (closeV st.σ 4) vs with
      | some (us, _) => tupA us = r
      | none => False
    | none => False
  | _, _ => False
def st0 (n : Nat) (args : List AV) : St := ⟨args ++ List.replicate (n - args.length) .any, List.replicate n none, 0⟩

theorem resA_sound (h : StRel n0 ext β ok st a w) {x : ResultVar} {y : AV} (he : resA P st x = some y) :
    ∃ v, ((match x with | .tmp t => pure (a.tmps.getD t undef) | .cell p t => do loadVar t (← asAddr (a.tmps.getD p undef)) : Sem Value)).run P w = .ok v w ∧ RepV w (ownOf ext β st.σ) β ok y v := by
  cases x with
  | tmp t =>
    simp only [resA, Option.some.injEq] at he; subst he
    exact ⟨_, rfl, h.opnd (.tmp t)⟩
  | cell p t =>
    simp only [resA] at he
    split at he
    · rename_i pre r hl
      simp only [Option.some.injEq] at he; subst he
      have hp := h.opnd (.tmp p)
      obtain ⟨v, hv, hr, _⟩ := loadM_sound (P := P) h hp hl
      refine ⟨v, ?_, hr⟩
      have e : a.eval (.tmp p) = a.tmps.getD p undef := rfl
      rw [e] at hv
      obtain ⟨q, hq⟩ : ∃ q, a.tmps.getD p undef = q := ⟨_, rfl⟩
      simp only [hq] at hv ⊢
      have : ∃ A, q = .pointer (some A) := by
        simp only [Instr.loadAt, Sem.run_bind] at hv
        cases q <;> try (simp [Instr.sureAddr, stuck] at hv; done)
        rename_i o
        cases o
        · simp [Instr.sureAddr, stuck] at hv
        · exact ⟨_, rfl⟩
      obtain ⟨A, rfl⟩ := this
      simpa [Instr.loadAt, Instr.sureAddr, asAddr] using hv
    · cases he
theorem resL_sound (h : StRel n0 ext β ok st a w) : ∀ {xs : List ResultVar} {ys : List AV}, resL P st xs = some ys →
    ∃ vs, (xs.mapM fun x => (match x with | .tmp t => pure (a.tmps.getD t undef) | .cell p t => do loadVar t (← asAddr (a.tmps.getD p undef)) : Sem Value)).run P w = .ok vs w ∧ RepVL w (ownOf ext β st.σ) β ok ys vs
  | [], ys, he => by simp only [resL, Option.some.injEq] at he; subst he; exact ⟨[], by simp, .nil⟩
  | x :: xs, ys, he => by
    simp only [resL] at he
    split at he
    · rename_i v vs h1 h2
      simp only [Option.some.injEq] at he; subst he
      obtain ⟨u, hu, hru⟩ := resA_sound h h1
      obtain ⟨us, hus, hrus⟩ := resL_sound h h2
      refine ⟨u :: us, ?_, .cons hru hrus⟩
      rw [List.mapM_cons]
      simp only [Sem.run_bind, hu, Result.andThen_ok, hus, Sem.run_pure]
    · cases he

theorem results_run {fn : Func} (h : StRel n0 ext β ok st a w) {ys : List AV} (hy : resL P st fn.results.toList = some ys) :
    ∃ qs : List Value, (results fn a.tmps).run P w = .ok (if h : qs.toArray.size = 1 then qs.toArray[0] else .tuple qs.toArray) w ∧ RepVL w (ownOf ext β st.σ) β ok ys qs := by
  obtain ⟨qs, hqs, hrep⟩ := resL_sound h hy
  refine ⟨qs, ?_, hrep⟩
  have e0 : results fn a.tmps = (do
      let vs ← fn.results.mapM fun x => (match x with | .tmp t => pure (a.tmps.getD t undef) | .cell p t => do loadVar t (← asAddr (a.tmps.getD p undef)) : Sem Value)
      pure (if h : vs.size = 1 then vs[0] else .tuple vs)) := rfl
  rw [e0]
  have e : (fn.results.mapM fun x => (match x with | .tmp t => pure (a.tmps.getD t undef) | .cell p t => do loadVar t (← asAddr (a.tmps.getD p undef)) : Sem Value)).run P w = .ok qs.toArray w := by
    rw [Array.mapM_eq_mapM_toList, Sem.run_map, hqs]; rfl
  simp only [Sem.run_bind, e, Result.andThen_ok, Sem.run_pure]
theorem acalls_of {f : FuncId} {fn : Func} {c : Code} {args : List AV} {r : AV} (hf : P.funcs[f]? = some fn) (hb : fn.body = some c) (hname : (fn.name == "runtime.NumGoroutine") = false) {rs : List ResultVar} (hrs : fn.results.toList = rs) {n : Nat} (hn : fn.ntmps = n)
    (h : ASpec P c (retA P rs r) (st0 n args)) : ACalls P f args r := by
  subst hn; subst hrs
  refine ⟨by simp [callable, hf, hb, hname], fun w own vs hown hglob hargs => ?_⟩
  refine calls_of_wp hf hb ?_
  have hlen := hargs.length
  have hown2 : ∀ b, ownOf own (fun _ _ => default) (List.replicate fn.ntmps none) b → own b := by
    rintro b (h1 | ⟨t, r', h1, _⟩)
    · exact h1
    · rw [List.getElem?_replicate] at h1; split at h1 <;> simp at h1
  have hfr : FR (fun b => w.heap.size ≤ b) own ⟨fun _ _ => default, fun _ _ => False⟩ (st0 fn.ntmps args) { tmps := vs.toArray ++ Array.replicate (fn.ntmps - vs.toArray.size) undef, defers := [] } w := by
    refine ⟨fun _ _ => default, fun _ _ => False, ⟨?_, ?_, ?_, fun b hb => Nat.not_le.mpr (hown b hb), fun _ h => h, rfl, hglob.mono (Grows.less hown2)⟩, fun _ _ h => h.elim, fun _ _ h => h.elim⟩
    · simp only [st0, Array.toList_append, Array.toList_replicate, List.size_toArray, hlen]
      refine RepVL.append (hargs.mono (Grows.less hown2)).toV ?_
      generalize fn.ntmps - vs.length = m
      induction m with
      | zero => exact .nil
      | succ m ih => exact .cons (.closed (.any _)) ih
    · intro t r' h1
      simp only [st0, List.getElem?_replicate] at h1; split at h1 <;> simp at h1
    · intro t t' r1 r2 h1
      simp only [st0, List.getElem?_replicate] at h1; split at h1 <;> simp at h1
  refine wp_mono (h _ _ _ w _ w hfr (Bel.refl _ _)) fun e a' w' ⟨st', h1, ⟨β, ok, h2, _⟩, h3'⟩ => ?_
  have h3 := h3'.below
  have fin : (match resL P st' fn.results.toList with
    | some vs => match closeL (closeV st'.σ 4) vs with
      | some (us, _) => tupA us = r
      | none => False
    | none => False) → a'.defers = [] ∧ ∃ v, (results fn a'.tmps).run P w' = .ok v w' ∧ (∃ v', Ending.returned v = .returned v' ∧ RepC w' own r v' ∧ Below w.heap.size w w') := by
    intro hq
    refine ⟨h2.defers, ?_⟩
    split at hq
    · rename_i ys hy
      split at hq
      · rename_i us ks hcl
        obtain ⟨qs, hqs, hrep⟩ := resL_sound h2 hy
        have hrc : RepCL w' (ownLess own β st'.σ ks) us qs := closeL_sound (own' := fun ks => ownLess own β st'.σ ks) (fun x v y ks ks' => closeV_sound h2 4 x v y ks ks') hrep hcl (fun _ hk => hk)
        have hrc2 : RepCL w' own us qs := hrc.mono (Grows.less fun b hb => .inl hb)
        have hrun : (results fn a'.tmps).run P w' = .ok (if h : qs.toArray.size = 1 then qs.toArray[0] else .tuple qs.toArray) w' := by
          have e0 : results fn a'.tmps = (do
              let vs ← fn.results.mapM fun x => (match x with | .tmp t => pure (a'.tmps.getD t undef) | .cell p t => do loadVar t (← asAddr (a'.tmps.getD p undef)) : Sem Value)
              pure (if h : vs.size = 1 then vs[0] else .tuple vs)) := rfl
          rw [e0]
          have e : (fn.results.mapM fun x => (match x with | .tmp t => pure (a'.tmps.getD t undef) | .cell p t => do loadVar t (← asAddr (a'.tmps.getD p undef)) : Sem Value)).run P w' = .ok qs.toArray w' := by
            rw [Array.mapM_eq_mapM_toList, Sem.run_map, hqs]; rfl
          simp only [Sem.run_bind, e, Result.andThen_ok, Sem.run_pure]
        refine ⟨_, hrun, _, rfl, ?_, h3⟩
        subst hq
        cases hrc2 with
        | nil => exact .tuple .nil
        | cons h4 h5 =>
          cases h5 with
          | nil => simpa [tupA] using h4
          | cons h6 h7 => simpa [tupA] using RepC.tuple (.cons h4 (.cons h6 h7))
      · exact hq.elim
    · exact hq.elim
  cases e <;> first | exact fin h1 | exact h1.elim
theorem acalls_of_k {f : FuncId} {fn : Func} {c : Code} {args : List AV} {r : AV} (hf : P.funcs[f]? = some fn) (hb : fn.body = some c) (hname : (fn.name == "runtime.NumGoroutine") = false) {rs : List ResultVar} (hrs : fn.results.toList = rs) {n : Nat} (hn : fn.ntmps = n)
    (h : ∀ R : Exit → St → Prop, (∀ e st, retA P rs r e st → R e st) → ASpec P c R (st0 n args)) : ACalls P f args r := acalls_of hf hb hname hrs hn (h _ fun _ _ h => h)
theorem a_cond_true {c : Operand} {x y : Code} {Q : Exit → St → Prop} {st : St} (hc : opnd st.τ c = .bool true) (h : ASpec P x Q st) : ASpec P (.cond c x y) Q st := a_cond hc (fun _ => h) (fun e => by cases e)
theorem a_cond_false {c : Operand} {x y : Code} {Q : Exit → St → Prop} {st : St} (hc : opnd st.τ c = .bool false) (h : ASpec P y Q st) : ASpec P (.cond c x y) Q st := a_cond hc (fun e => by cases e) (fun _ => h)
end
end Go.Ab
end

section
namespace Go.Ab
open Go.RowKit

def Agree (σ σ' : Sto) (ks : List Nat) : Prop := ∀ k ∈ ks, σ'.getD k none = σ.getD k none
theorem Agree.left {σ σ' : Sto} {a b : List Nat} (h : Agree σ σ' (a ++ b)) : Agree σ σ' a := fun k hk => h k (List.mem_append_left _ hk)
theorem Agree.right {σ σ' : Sto} {a b : List Nat} (h : Agree σ σ' (a ++ b)) : Agree σ σ' b := fun k hk => h k (List.mem_append_right _ hk)

section
variable {P : Program} {σ σ' : Sto}
theorem lookBox_congr {k g : Nat} (h : σ'.getD k none = σ.getD k none) : lookBox σ' k g = lookBox σ k g := by unfold lookBox; rw [h]
theorem lookRow_congr {k g : Nat} (h : σ'.getD k none = σ.getD k none) : lookRow σ' k g = lookRow σ k g := by unfold lookRow; rw [h]
theorem lookMap_congr {k g : Nat} (h : σ'.getD k none = σ.getD k none) : lookMap σ' k g = lookMap σ k g := by unfold lookMap; rw [h]

theorem loadM_local {t : TypeId} {x : AV} {pre : Prop} {r : Res} (he : loadM P σ t x = some (pre, r)) (ha : Agree σ σ' r.reads) : loadM P σ' t x = some (pre, r) := by
  cases x <;> simp only [loadM] at he ⊢ <;> (try (cases he; done)) <;> (try exact he)
  all_goals
    split at he
    · rename_i hl
      split at he
      · rename_i hc
        simp only [Option.some.injEq, Prod.mk.injEq] at he
        obtain ⟨rfl, rfl⟩ := he
        have hk := ha _ (List.mem_cons_self ..)
        first | rw [lookBox_congr hk] | rw [lookRow_congr hk]
        simp only [hl]
        exact if_pos hc
      · cases he
    · cases he
theorem storeM_local {t : TypeId} {x p : AV} {pre : Prop} {r : Res} (he : storeM P σ t x p = some (pre, r)) (ha : Agree σ σ' r.reads) : storeM P σ' t x p = some (pre, r) := by
  cases p <;> simp only [storeM] at he ⊢ <;> (try (cases he; done))
  all_goals
    split at he
    · rename_i hl hx
      split at he
      · rename_i hc
        simp only [Option.some.injEq, Prod.mk.injEq] at he
        obtain ⟨rfl, rfl⟩ := he
        have hk := ha _ (List.mem_cons_self ..)
        first | rw [lookBox_congr hk] | rw [lookRow_congr hk]
        simp only [hl, hx]
        exact if_pos hc
      · cases he
    · cases he
theorem srcEls_local {x : AV} {els : List (List AV)} {ks : List Nat} (he : srcEls σ x = some (els, ks)) (ha : Agree σ σ' ks) : srcEls σ' x = some (els, ks) := by
  cases x <;> simp only [srcEls] at he ⊢ <;> (try (cases he; done)) <;> (try exact he)
  all_goals
    split at he
    · rename_i h
      simp only [Option.some.injEq, Prod.mk.injEq] at he
      obtain ⟨rfl, rfl⟩ := he
      have hk := ha _ (List.mem_cons_self ..)
      rw [lookRow_congr hk, h]
    · cases he
theorem appendM_local {gen d : Nat} {e : TypeId} {s x : AV} {pre : Prop} {r : Res} (he : appendM P σ gen d e s x = some (pre, r)) (ha : Agree σ σ' r.reads) : appendM P σ' gen d e s x = some (pre, r) := by
  unfold appendM at he ⊢
  split at he
  · rename_i els2 ks hs
    split at he
    · rename_i hc
      simp only [Option.some.injEq, Prod.mk.injEq] at he
      obtain ⟨rfl, rfl⟩ := he
      rw [srcEls_local hs ha]
      simp only [hc, and_self, if_true]
    · cases he
  · rename_i els2 ks k g hs
    split at he
    · rename_i es els hl
      split at he
      · rename_i hc
        simp only [Option.some.injEq, Prod.mk.injEq] at he
        obtain ⟨rfl, rfl⟩ := he
        have hk := ha _ (List.mem_cons_self ..)
        rw [srcEls_local hs (fun q hq => ha q (List.mem_cons_of_mem _ hq))]
        simp only [lookRow_congr hk, hl, hc, and_self, if_true]
      · cases he
    · cases he
  · rename_i els2 ks els hs
    split at he
    · rename_i hc
      simp only [Option.some.injEq, Prod.mk.injEq] at he
      obtain ⟨rfl, rfl⟩ := he
      rw [srcEls_local hs ha]
      simp only [hc, and_self, if_true]
    · cases he
  · cases he

theorem memOp_local {ρ : Operand → AV} {gen : Nat} {dst : Option Tmp} {op : Op} {pre : Prop} {r : Res} (he : memOp P ρ σ gen dst op = some (pre, r)) (ha : Agree σ σ' r.reads) : memOp P ρ σ' gen dst op = some (pre, r) := by
  unfold memOp at he ⊢
  split at he
  · exact loadM_local he ha
  · exact storeM_local he ha
  · exact he
  · exact he
  · exact he
  · exact he
  · split at he
    · split at he
      · split at he
        · rename_i hl _ hc
          simp only [Option.some.injEq, Prod.mk.injEq] at he
          obtain ⟨rfl, rfl⟩ := he
          have hk := ha _ (List.mem_cons_self ..)
          simp only [*, lookRow_congr hk, if_true, and_self]
        · cases he
      · cases he
    · cases he
  · split at he
    · split at he
      · have hap := appendM_local he ha
        clear he
        simp only [*]
      · cases he
    · split at he
      · split at he
        · simp only [Option.some.injEq, Prod.mk.injEq] at he
          obtain ⟨rfl, rfl⟩ := he
          have hk := ha _ (List.mem_cons_self ..)
          simp only [*, lookRow_congr hk]
        · cases he
      · cases he
    · cases he
  · exact he
  · split at he
    · split at he
      · split at he
        · simp only [Option.some.injEq, Prod.mk.injEq] at he
          obtain ⟨rfl, rfl⟩ := he
          have hk := ha _ (List.mem_cons_self ..)
          simp only [*, lookMap_congr hk, if_true]
        · cases he
      · cases he
    · cases he
  · split at he
    · split at he
      · split at he
        · simp only [Option.some.injEq, Prod.mk.injEq] at he
          obtain ⟨rfl, rfl⟩ := he
          have hk := ha _ (List.mem_cons_self ..)
          simp only [*, lookMap_congr hk]
        · cases he
      · cases he
    · cases he
  · cases he

theorem closeL_local {f f' : AV → Option (AV × List Nat)} (hf : ∀ x y ks, f x = some (y, ks) → Agree σ σ' ks → f' x = some (y, ks)) : ∀ {xs ys : List AV} {ks : List Nat}, closeL f xs = some (ys, ks) → Agree σ σ' ks → closeL f' xs = some (ys, ks)
  | [], _, _, h, _ => h
  | x :: xs, ys, ks, h, ha => by
    simp only [closeL] at h ⊢
    split at h
    · rename_i y k1 ys' k2 e1 e2
      simp only [Option.some.injEq, Prod.mk.injEq] at h
      obtain ⟨rfl, rfl⟩ := h
      rw [hf _ _ _ e1 ha.left, closeL_local hf e2 ha.right]
    · cases h
theorem closeV_local : ∀ (n : Nat) (x y : AV) (ks : List Nat), closeV σ n x = some (y, ks) → Agree σ σ' ks → closeV σ' n x = some (y, ks) := by
  intro n
  induction n with
  | zero =>
    intro x y ks he ha
    cases x <;> simp only [closeV] at he ⊢ <;> (try (cases he; done)) <;> (try exact he)
    · split at he
      · rename_i h
        simp only [Option.some.injEq, Prod.mk.injEq] at he
        obtain ⟨rfl, rfl⟩ := he
        rw [lookRow_congr (ha _ (List.mem_cons_self ..)), h]
      · cases he
    · split at he
      · split at he
        · rename_i h hc
          simp only [Option.some.injEq, Prod.mk.injEq] at he
          obtain ⟨rfl, rfl⟩ := he
          rw [lookRow_congr (ha _ (List.mem_cons_self ..)), h]
          simp only [hc, and_self, if_true]
        · cases he
      · cases he
    · split at he
      · rename_i h
        simp only [Option.some.injEq, Prod.mk.injEq] at he
        obtain ⟨rfl, rfl⟩ := he
        rw [lookRow_congr (ha _ (List.mem_cons_self ..)), h]
      · cases he
  | succ n ih =>
    intro x y ks he ha
    cases x <;> simp only [closeV] at he ⊢ <;> (try (cases he; done)) <;> (try exact he)
    · split at he
      · rename_i h
        simp only [Option.some.injEq, Prod.mk.injEq] at he
        obtain ⟨rfl, rfl⟩ := he
        rw [closeL_local (fun x y ks => ih x y ks) h ha]
      · cases he
    · split at he
      · rename_i h
        simp only [Option.some.injEq, Prod.mk.injEq] at he
        obtain ⟨rfl, rfl⟩ := he
        rw [closeL_local (fun x y ks => ih x y ks) h ha]
      · cases he
    · split at he
      · rename_i h
        simp only [Option.some.injEq, Prod.mk.injEq] at he
        obtain ⟨rfl, rfl⟩ := he
        rw [closeL_local (fun x y ks => ih x y ks) h ha]
      · cases he
    · split at he
      · rename_i h
        simp only [Option.some.injEq, Prod.mk.injEq] at he
        obtain ⟨rfl, rfl⟩ := he
        rw [closeL_local (fun x y ks => ih x y ks) h ha]
      · cases he
    · split at he
      · rename_i h
        simp only [Option.some.injEq, Prod.mk.injEq] at he
        obtain ⟨rfl, rfl⟩ := he
        rw [lookRow_congr (ha _ (List.mem_cons_self ..)), h]
      · cases he
    · split at he
      · split at he
        · have h := ‹lookBox σ _ _ = some _›
          have h2 := ‹closeL _ _ = some _›
          simp only [Option.some.injEq, Prod.mk.injEq] at he
          obtain ⟨rfl, rfl⟩ := he
          rw [lookBox_congr (ha _ (List.mem_cons_self ..)), h]
          simp only [closeL_local (fun x y ks => ih x y ks) h2 (fun q hq => ha q (List.mem_cons_of_mem _ hq))]
        · cases he
      · cases he
    · split at he
      · split at he
        · rename_i h hc
          simp only [Option.some.injEq, Prod.mk.injEq] at he
          obtain ⟨rfl, rfl⟩ := he
          rw [lookRow_congr (ha _ (List.mem_cons_self ..)), h]
          simp only [hc, and_self, if_true]
        · cases he
      · cases he
    · split at he
      · rename_i h
        simp only [Option.some.injEq, Prod.mk.injEq] at he
        obtain ⟨rfl, rfl⟩ := he
        rw [lookRow_congr (ha _ (List.mem_cons_self ..)), h]
      · cases he

theorem pureOp_congr {ρ ρ' : Operand → AV} {op : Op} (h : ∀ x ∈ op.operands, ρ' x = ρ x) : pureOp P ρ' op = pureOp P ρ op := by
  cases op <;> simp only [pureOp] <;> simp only [Op.operands] at h
  case build t parts =>
    have : (parts.toList.map fun p => (p.1, ρ' p.2)) = parts.toList.map fun p => (p.1, ρ p.2) := List.map_congr_left fun p hp => by rw [h p.2 (by simp; exact ⟨p.1, by simpa using hp⟩)]
    rw [this]
  case makeFunc fn first captured =>
    have : captured.toList.map ρ' = captured.toList.map ρ := List.map_congr_left fun p hp => h p (by simp at hp ⊢; exact .inr hp)
    have h2 : first.toList.map ρ' = first.toList.map ρ := List.map_congr_left fun p hp => h p (by simp at hp ⊢; exact .inl hp)
    rw [this, h2]
  case call c =>
    have ha : ∀ x ∈ c.args.toList, ρ' x = ρ x := fun x hx => h x (by simp [Call.operands] at hx ⊢; exact .inr hx)
    split
    · split
      · rename_i x t e1 e2; rw [ha x (by simp [e1])]
      · rfl
    · split
      · rename_i x xs e1
        rw [ha x (by simp [e1]), List.map_congr_left fun y hy => ha y (by simp [e1, hy])]
      · rfl
    · split
      · rename_i x xs e1
        rw [ha x (by simp [e1]), List.map_congr_left fun y hy => ha y (by simp [e1, hy])]
      · rfl
    · rfl
  case slice t x lo hi mx =>
    cases mx with
    | none =>
      show sliceFA P t (ρ' x) (lo.map ρ') (hi.map ρ') = sliceFA P t (ρ x) (lo.map ρ) (hi.map ρ)
      have h1 : ρ' x = ρ x := h x (by simp)
      have h2 : lo.map ρ' = lo.map ρ := by cases lo with | none => rfl | some y => simp [h y (by simp)]
      have h3 : hi.map ρ' = hi.map ρ := by cases hi with | none => rfl | some y => simp [h y (by simp)]
      rw [h1, h2, h3]
    | some _ => rfl
  case pick c a b => rw [h c (by simp), h a (by simp), h b (by simp)]
  case binOp op t x y _ => rw [h x (by simp), h y (by simp)]
  case indexAddr t x i => rw [h x (by simp), h i (by simp)]
  case index t x i => rw [h x (by simp), h i (by simp)]
  all_goals first | rfl | (rename_i x; rw [h x (by simp)]) | (rename_i x _; rw [h x (by simp)]) | (rename_i _ x; rw [h x (by simp)]) | (rename_i _ x _; rw [h x (by simp)])

theorem memOp_congr {ρ ρ' : Operand → AV} {gen : Nat} {dst : Option Tmp} {op : Op} (h : ∀ x ∈ op.operands, ρ' x = ρ x) : memOp P ρ' σ gen dst op = memOp P ρ σ gen dst op := by
  cases op <;> simp only [Op.operands] at h <;> cases dst <;> simp only [memOp] <;> (try rfl)
  case load.none t x => rw [h x (by simp)]
  case load.some t x d => rw [h x (by simp)]
  case store.none t x y => rw [h x (by simp), h y (by simp)]
  case store.some t x y d => rw [h x (by simp), h y (by simp)]
  case box.some t x d => rw [h x (by simp)]
  case makeSlice.some t l c d => rw [h l (by simp), h c (by simp)]
  case buildSlice.some t n ps d =>
    have hb : ∀ es k, buildEls ρ' es k ps.toList = buildEls ρ es k ps.toList := fun es k => buildEls_congr (fun p hp => h p.2 (by simp; exact ⟨p.1, by simpa using hp⟩))
    simp only [hb]
  case indexAddr.some t x i d => rw [h x (by simp), h i (by simp)]
  case makeMap.some t r d =>
    cases r with
    | none => cases (ti P t).d <;> rfl
    | some x =>
      have hx := h x (by simp)
      cases (ti P t).d <;> first | rfl | (show (match ρ' x with | .int _ _ => _ | _ => none) = (match ρ x with | .int _ _ => _ | _ => none); rw [hx])
  case insert.none t m k x => rw [h m (by simp), h k (by simp), h x (by simp)]
  case insert.some t m k x d => rw [h m (by simp), h k (by simp), h x (by simp)]
  case lookup.none t m k c => rw [h m (by simp), h k (by simp)]
  case lookup.some t m k c d => rw [h m (by simp), h k (by simp)]
  case call.some c d =>
    have ha : ∀ x ∈ c.args.toList, ρ' x = ρ x := fun x hx => h x (by simp [Call.operands] at hx ⊢; exact .inr hx)
    split
    · rename_i s x ts tx _ e1 _; rw [ha s (by simp [e1]), ha x (by simp [e1])]
    · rename_i x t _ e1 _; rw [ha x (by simp [e1])]
    · rfl
theorem callOf_congr {ρ ρ' : Operand → AV} {op : Op} (h : ∀ x ∈ op.operands, ρ' x = ρ x) : callOf ρ' op = callOf ρ op := by
  cases op <;> simp only [callOf]
  rename_i c
  have ha : c.args.toList.map ρ' = c.args.toList.map ρ := List.map_congr_left fun x hx => h x (by simp [Op.operands, Call.operands] at hx ⊢; exact .inr hx)
  rw [ha]
  split
  · rename_i f hf; rw [h f (by simp [Op.operands, Call.operands, hf])]
  · rfl

theorem buildEls_any {ρ : Operand → AV} {es : Nat} : ∀ {ps : List (Nat × Operand)} {k : Nat} {els : List (List AV)}, buildEls ρ es k ps = some els → ∀ p ∈ ps, ρ p.2 ≠ .any
  | [], _, _, _, p, hp => by simp at hp
  | (j, x) :: ps, k, els, h, p, hp => by
    simp only [buildEls] at h
    split at h
    · rename_i xs l hc hr
      split at h
      · rename_i hcond
        rcases List.mem_cons.1 hp with rfl | hp
        · intro e
          simp only at e
          rw [e] at hc
          simp only [cellsA] at hc
          have h3 := hcond.2.2
          first
            | (rw [← hc] at h3; simp [closedB] at h3; done)
            | (cases hc; done)
        · exact buildEls_any hr p hp
      · cases h
    · cases h
theorem closeO_local {x : AV} (hx : closeO σ x ≠ .any) (ha : Agree σ σ' (closeK σ x)) : closeO σ' x = closeO σ x ∧ closeK σ' x = closeK σ x := by
  unfold closeO closeK at *
  cases hc : closeV σ 4 x with
  | none => rw [hc] at hx; exact absurd rfl hx
  | some y =>
    obtain ⟨y, ks⟩ := y
    rw [hc] at ha
    rw [closeV_local 4 x y ks hc ha]
    exact ⟨rfl, rfl⟩
theorem litA_local {ρ ρ' : Operand → AV} {gen : Nat} {dst : Option Tmp} {op : Op} {r : Res} (h : litA P ρ σ gen dst op = some r) (ho : ∀ x ∈ op.operands, ρ' x = ρ x) (ha : Agree σ σ' r.reads) : litA P ρ' σ' gen dst op = some r := by
  unfold litA at h ⊢
  split at h
  · rename_i d t len parts
    split at h
    · rename_i e ht
      split at h
      · rename_i els z hb hz
        split at h
        · rename_i hc
          simp only [Option.some.injEq] at h
          subst h
          have hm : ∀ p ∈ parts.toList, ρ' p.2 = ρ p.2 := fun p hp => ho p.2 (by simp [Op.operands]; exact ⟨p.1, by simpa using hp⟩)
          have hl : ∀ p ∈ parts.toList, closeO σ' (ρ p.2) = closeO σ (ρ p.2) ∧ closeK σ' (ρ p.2) = closeK σ (ρ p.2) := fun p hp =>
            closeO_local (buildEls_any hb p hp) (fun k hk => ha k (List.mem_flatMap.2 ⟨p, hp, hk⟩))
          have e1 : buildEls (fun x => closeO σ' (ρ' x)) (ti P e).size 0 parts.toList = some els := by
            rw [buildEls_congr (ρ := fun x => closeO σ (ρ x)) (fun p hp => by rw [hm p hp]; exact (hl p hp).1)]; exact hb
          have e2 : (parts.toList.flatMap fun p => closeK σ' (ρ' p.2)) = parts.toList.flatMap fun p => closeK σ (ρ p.2) := by
            rw [List.flatMap_def, List.flatMap_def]
            congr 1
            exact List.map_congr_left (fun p hp => by rw [hm p hp]; exact (hl p hp).2)
          simp only [e1, hz, if_pos hc, e2]
        · cases h
      · cases h
    · cases h
  · cases h

theorem lend_congr {σ σ' : Sto} {ks : List Nat} {n : Nat} (h : Agree σ σ' ks) : lend σ' ks n = lend σ ks n := by
  unfold lend
  refine List.map_congr_left fun k _ => ?_
  by_cases hk : ks.contains k = true
  · rw [if_pos hk, if_pos hk, h k (List.contains_iff_mem.mp hk)]
  · rw [if_neg hk, if_neg hk]
theorem buildElsS_congr {ρ ρ' : Operand → AV} {es : Nat} : ∀ {ps : List (Nat × Operand)} {k : Nat}, (∀ p ∈ ps, ρ' p.2 = ρ p.2) → buildElsS ρ' es k ps = buildElsS ρ es k ps
  | [], _, _ => rfl
  | (j, x) :: ps, k, h => by
    simp only [buildElsS]
    rw [h (j, x) (by simp), buildElsS_congr (fun p hp => h p (by simp [hp]))]
theorem zeroNum_congr {ρ ρ' : Operand → AV} {o : Option Operand} (h : ∀ x, o = some x → ρ' x = ρ x) : zeroNum o ρ' = zeroNum o ρ := by
  cases o with
  | none => rfl
  | some x => simp only [zeroNum, h x rfl]
theorem memS0_congr {ρ ρ' : Operand → AV} {gen : Nat} {dst : Option Tmp} {op : Op} (h : ∀ x ∈ op.operands, ρ' x = ρ x) : memS0 P ρ' σ gen dst op = memS0 P ρ σ gen dst op := by
  cases op <;> simp only [Op.operands] at h <;> cases dst <;> simp only [memS0] <;> (try rfl)
  case makeSlice.some t l c d => rw [h l (by simp), h c (by simp)]
  case buildSlice.some t n ps d =>
    have hb : ∀ es k, buildElsS ρ' es k ps.toList = buildElsS ρ es k ps.toList := fun es k => buildElsS_congr (fun p hp => h p.2 (by simp; exact ⟨p.1, by simpa using hp⟩))
    simp only [hb]
  case indexAddr.some t x i d => rw [h x (by simp), h i (by simp)]
  case slice.some t x lo hi mx d =>
    have h1 : ρ' x = ρ x := h x (by simp)
    have h2 : lo.map ρ' = lo.map ρ := by cases lo with | none => rfl | some y => simp [h y (by simp)]
    have h3 : hi.map ρ' = hi.map ρ := by cases hi with | none => rfl | some y => simp [h y (by simp)]
    have z1 : zeroNum lo ρ' = zeroNum lo ρ := zeroNum_congr fun y e => h y (by simp [e])
    have z2 : zeroNum hi ρ' = zeroNum hi ρ := zeroNum_congr fun y e => h y (by simp [e])
    have z3 : zeroNum mx ρ' = zeroNum mx ρ := zeroNum_congr fun y e => h y (by simp [e])
    cases mx with
    | none => cases hi <;> simp only [h1, h2] <;> first | rfl | (rw [h3])
    | some m =>
      cases hi with
      | none => rfl
      | some y => simp only [h1, z1, z2, z3]
  case insert.none t m k x => rw [h m (by simp), h k (by simp), h x (by simp)]
  case insert.some t m k x d => rw [h m (by simp), h k (by simp), h x (by simp)]
  case lookup.none t m k c => rw [h m (by simp), h k (by simp)]
  case lookup.some t m k c d => rw [h m (by simp), h k (by simp)]
  case mapUpdate.none t m k x => rw [h m (by simp), h k (by simp), h x (by simp)]
  case mapUpdate.some t m k x d => rw [h m (by simp), h k (by simp), h x (by simp)]
  case call.some c d =>
    have ha : ∀ x ∈ c.args.toList, ρ' x = ρ x := fun x hx => h x (by simp [Call.operands] at hx ⊢; exact .inr hx)
    split
    · rename_i x t _ e1 _; rw [ha x (by simp [e1])]
    · rename_i s x ts tx _ e1 _; rw [ha s (by simp [e1]), ha x (by simp [e1])]
    · rfl
theorem srcS_local {x : AV} {xs : List AV} {n : Nat} {ks : List Nat} (he : srcS σ x = some (xs, n, ks)) (ha : Agree σ σ' ks) : srcS σ' x = some (xs, n, ks) := by
  cases x <;> simp only [srcS] at he ⊢ <;> (try (cases he; done)) <;> (try exact he)
  split at he
  · rename_i cs hl
    split at he
    · rename_i hc
      cases he
      rw [lookBox_congr (ha _ (List.mem_singleton.mpr rfl)), hl]
      simp only [hc, if_true]
    · cases he
  · cases he
theorem insS_local {t : TypeId} {m k x : AV} {b : Bool} {r : Res} (he : insS P σ t m k x = some (b, r)) (ha : Agree σ σ' r.reads) : insS P σ' t m k x = some (b, r) := by
  unfold insS at he ⊢
  split at he
  · split at he
    · rename_i ents hl
      split at he
      · rename_i hc
        simp only [Option.some.injEq, Prod.mk.injEq] at he; obtain ⟨rfl, rfl⟩ := he
        simp only [lookMap_congr (ha _ (List.mem_singleton.mpr rfl)), hl, hc, and_self, if_true]
      · cases he
    · cases he
  · cases he
theorem lookS_local {t : TypeId} {m k : AV} {c b : Bool} {r : Res} (he : lookS P σ t m k c = some (b, r)) (ha : Agree σ σ' r.reads) : lookS P σ' t m k c = some (b, r) := by
  unfold lookS at he ⊢
  split at he
  · split at he
    · rename_i ents z hl hz
      split at he
      · rename_i v f hlook
        split at he
        · rename_i hc
          simp only [Option.some.injEq, Prod.mk.injEq] at he; obtain ⟨rfl, rfl⟩ := he
          simp only [lookMap_congr (ha _ (List.mem_singleton.mpr rfl)), hl, hz, hlook, hc, if_true]
        · cases he
      · cases he
    · cases he
  · cases he
theorem memS0_local {ρ : Operand → AV} {gen : Nat} {dst : Option Tmp} {op : Op} {b : Bool} {r : Res} (he : memS0 P ρ σ gen dst op = some (b, r)) (ha : Agree σ σ' r.reads) : memS0 P ρ σ' gen dst op = some (b, r) := by
  unfold memS0 at he ⊢
  split at he
  · exact he
  · exact he
  · exact he
  · exact he
  · exact he
  · exact insS_local he ha
  · exact insS_local he ha
  · exact lookS_local he ha
  · split at he
    · exact he
    · split at he
      · split at he
        · rename_i xs n ks z hsrc hz
          split at he
          · rename_i hcond
            have key : Agree σ σ' ks → srcS σ' (ρ _) = some (xs, n, ks) := srcS_local hsrc
            split at he
            · rename_i hs
              have hks : Agree σ σ' ks := by
                split at he <;> (simp only [Option.some.injEq, Prod.mk.injEq] at he; obtain ⟨_, rfl⟩ := he; exact ha)
              simp only [key hks, hz, hcond, and_self, if_true, hs]
              exact he
            · rename_i hs
              have hks : Agree σ σ' ks := by
                split at he <;> (simp only [Option.some.injEq, Prod.mk.injEq] at he; obtain ⟨_, rfl⟩ := he; exact ha)
              simp only [key hks, hz, hcond, and_self, if_true, hs]
              exact he
            · rename_i k g es off len hs
              split at he
              · rename_i cs hl
                split at he
                · rename_i hc2
                  simp only [Option.some.injEq, Prod.mk.injEq] at he; obtain ⟨rfl, rfl⟩ := he
                  have hks : Agree σ σ' ks := fun q hq => ha q (List.mem_cons_of_mem _ hq)
                  have hk := ha k (List.mem_cons_self ..)
                  simp only [key hks, hz, hcond, and_self, if_true, hs, lookBox_congr hk, hl]
                  exact if_pos hc2
                · cases he
              · cases he
            · cases he
          · cases he
        · cases he
      · cases he
    · cases he
  · cases he
theorem memT_congr {ρ ρ' : Operand → AV} {gen : Nat} {dst : Option Tmp} {op : Op} (h : ∀ x ∈ op.operands, ρ' x = ρ x) : memT P ρ' gen dst op = memT P ρ gen dst op := by
  cases op <;> simp only [Op.operands] at h <;> cases dst <;> simp only [memT] <;> (try rfl)
  case slice.some t x lo hi mx d =>
    have h1 : ρ' x = ρ x := h x (by simp)
    have h2 : lo.map ρ' = lo.map ρ := by cases lo with | none => rfl | some y => simp [h y (by simp)]
    have h3 : hi.map ρ' = hi.map ρ := by cases hi with | none => rfl | some y => simp [h y (by simp)]
    cases mx with
    | none => simp only [h1, h2, h3]
    | some m => rfl
  case call.some c d =>
    have ha : ∀ x ∈ c.args.toList, ρ' x = ρ x := fun x hx => h x (by simp [Call.operands] at hx ⊢; exact .inr hx)
    split
    · rename_i x t _ e1 _; rw [ha x (by simp [e1])]
    · rename_i s x ts tx _ e1 _; rw [ha s (by simp [e1]), ha x (by simp [e1])]
    · rfl
theorem memS_congr {ρ ρ' : Operand → AV} {gen : Nat} {dst : Option Tmp} {op : Op} (h : ∀ x ∈ op.operands, ρ' x = ρ x) : memS P ρ' σ gen dst op = memS P ρ σ gen dst op := by
  unfold memS; rw [memT_congr h, memS0_congr h]
theorem memS_local {ρ : Operand → AV} {gen : Nat} {dst : Option Tmp} {op : Op} {b : Bool} {r : Res} (he : memS P ρ σ gen dst op = some (b, r)) (ha : Agree σ σ' r.reads) : memS P ρ σ' gen dst op = some (b, r) := by
  unfold memS at he ⊢
  split at he
  · exact he
  · exact memS0_local he ha
theorem Exec.local {rs : List Nat} {st st' : St} {o : Oper} {r : Res} (h : Exec P rs st o r) (ho : ∀ x ∈ o.op.operands, opnd st'.τ x = opnd st.τ x) (ha : Agree st.σ st'.σ r.reads) (hg : st'.gen = st.gen) : Exec P rs st' o r := by
  cases h with
  | pure hp hpre => exact .pure (by rw [pureOp_congr ho]; exact hp) hpre
  | mem hm hpre hin => exact .mem (by rw [memOp_congr ho, hg]; exact memOp_local hm ha) hpre hin
  | call hc hcl hA => exact .call (by rw [callOf_congr ho]; exact hc) (closeL_local (fun x y ks => closeV_local 4 x y ks) hcl ha) hA
  | lit hl hin => exact .lit (by rw [hg]; exact litA_local hl ho ha) hin
  | fcall hc hcl hA hd hdr => rw [← hg]; exact .fcall (by rw [callOf_congr ho]; exact hc) (closeL_local (fun x y ks => closeV_local 4 x y ks) hcl ha) hA hd hdr
  | ext hc he => exact .ext (by rw [callOf_congr ho]; exact hc) he
  | cell hm hal => exact .cell (by rw [memS_congr ho, hg]; exact memS_local hm ha) hal
  | lay hk hm => exact .lay hk (by rw [memS_congr ho, hg]; exact memS_local hm ha)
  | layM hk hm hpre => exact .layM hk (by rw [memOp_congr ho, hg]; exact memOp_local hm ha) hpre
  | gcall hc hM hms => exact .gcall (by rw [callOf_congr ho]; exact hc) (by rw [hg, lend_congr ha]; exact hM) (by rw [lend_congr ha]; exact hms)
  | mcall hc hM => exact .mcall (by rw [callOf_congr ho]; exact hc) (by rw [hg, lend_congr ha]; exact hM)
end
end Go.Ab
end

section
namespace Go.Ab
open Go.RowKit

abbrev Foot := List Nat × List Nat
def Res.foot (r : Res) : Foot := (r.reads, r.upd.map (·.1))
def footB (x y : Foot) : Bool := x.2.any (fun k => y.1.contains k || y.2.contains k) || x.1.any fun k => y.2.contains k

def aopsD (P : Program) (ops : Array Oper) (Q : List Foot → St → Prop) : List Oper → List Foot → St → Prop
  | [], acc, st => Q acc.reverse ⟨st.τ, st.σ, st.gen + 1⟩
  | o :: rest, acc, st => gateA ops st o (fun st => stepA P st o fun r => aopsD P ops Q rest (r.foot :: acc) (st.after o.dst r)) (fun st => aopsD P ops Q rest (([], []) :: acc) (st.after o.dst skipR))

def xopsD (P : Program) (κ : Nat → List Nat) (ops : Array Oper) (Q : List Foot → St → Prop) : Nat → List Oper → List Foot → St → Prop
  | _, [], acc, st => Q acc.reverse ⟨st.τ, st.σ, st.gen + 1⟩
  | i, o :: rest, acc, st => gateA ops st o (fun st => ∃ r, Exec P (κ i) st o r ∧ xopsD P κ ops Q (i + 1) rest (r.foot :: acc) (st.after o.dst r)) (fun st => xopsD P κ ops Q (i + 1) rest (([], []) :: acc) (st.after o.dst skipR))
theorem aopsD_x {P : Program} {ops : Array Oper} {L : List Oper} {Q : List Foot → St → Prop} : ∀ {l : List Oper} {i : Nat} {acc : List Foot} {st : St}, (∀ j, l[j]? = L[i + j]?) → aopsD P ops Q l acc st → xopsD P (dstK L) ops Q i l acc st
  | [], _, _, _, _, h => h
  | o :: l, i, _, _, hl, h => by
    have h0 : L[i]? = some o := by simpa using (hl 0).symm
    have h1 : ∀ j, l[j]? = L[i + 1 + j]? := fun j => by have := hl (j + 1); simpa [Nat.add_assoc, Nat.add_comm 1 j] using this
    refine gateA_mono (fun _ h => ?_) (fun _ h => aopsD_x h1 h) h
    obtain ⟨r, h2, h3⟩ := stepA_exec (rs := dstK L i) (fun e d hd => by simp [dstK, h0, e, hd]) h
    exact ⟨r, h2, aopsD_x h1 h3⟩

def befs (ops : List Oper) : List (List Nat) :=
  ops.foldl (fun acc o => acc ++ [((o.after.toList.filter (Region.binds .any)).flatMap fun e => e.on :: acc.getD e.on []).eraseDups]) []
def backB (ops : List Oper) : Bool := ops.zipIdx.all fun p => (p.1.after.toList.filter (Region.binds .any)).all fun e => e.on < p.2
def confB (ops : List Oper) (acc : List Foot) : Bool :=
  let bs := befs ops
  (List.range ops.length).all fun j => (List.range j).all fun i =>
    (match ops[i]?, ops[j]? with
     | some x, some y => x.apart ops.toArray y && !footB (acc.getD i ([], [])) (acc.getD j ([], []))
     | _, _ => true) || (bs.getD j []).contains i
def drawOk (ops : List Oper) : Bool := allocsOk ops && backB ops && Region.noSelect ops.toArray

inductive Prec (ops : List Oper) : Nat → Nat → Prop where
  | edge {i j : Nat} {o : Oper} {e : Edge} : ops[j]? = some o → e ∈ o.after.toList → Region.binds .any e = true → e.on = i → Prec ops i j
  | step {i k j : Nat} : Prec ops i k → Prec ops k j → Prec ops i j

theorem befs_prec_aux (all : List Oper) : ∀ (l : List Oper) (pre : List Oper) (acc : List (List Nat)), all = pre ++ l → acc.length = pre.length → (∀ j a, a ∈ acc.getD j [] → Prec all a j) →
    ∀ j a, a ∈ (l.foldl (fun acc o => acc ++ [((o.after.toList.filter (Region.binds .any)).flatMap fun e => e.on :: acc.getD e.on []).eraseDups]) acc).getD j [] → Prec all a j
  | [], _, _, _, _, h, j, a, ha => h j a ha
  | o :: l, pre, acc, he, hl, h, j, a, ha => by
    refine befs_prec_aux all l (pre ++ [o]) (acc ++ [((o.after.toList.filter (Region.binds .any)).flatMap fun e => e.on :: acc.getD e.on []).eraseDups]) (by simp [he]) (by simp [hl]) ?_ j a (by simpa using ha)
    intro j a ha
    by_cases hj : j < acc.length
    · rw [List.getD_eq_getElem?_getD, List.getElem?_append_left hj, ← List.getD_eq_getElem?_getD] at ha
      exact h j a ha
    · by_cases hj2 : j = acc.length
      · subst hj2
        rw [List.getD_eq_getElem?_getD, List.getElem?_append_right (Nat.le_refl _)] at ha
        simp only [Nat.sub_self, List.getElem?_cons_zero, Option.getD_some, List.mem_eraseDups, List.mem_flatMap, List.mem_filter, List.mem_cons] at ha
        obtain ⟨e, ⟨he1, he2⟩, ha⟩ := ha
        have hget : all[acc.length]? = some o := by rw [he, hl]; simp
        have hedge : Prec all e.on acc.length := .edge hget he1 he2 rfl
        rcases ha with rfl | ha
        · exact hedge
        · exact .step (h _ _ ha) hedge
      · rw [List.getD_eq_getElem?_getD, List.getElem?_eq_none (by simp; omega)] at ha
        simp at ha
theorem befs_prec {ops : List Oper} {i j : Nat} (h : i ∈ (befs ops).getD j []) : Prec ops i j :=
  befs_prec_aux ops ops [] [] rfl rfl (fun j a ha => by simp at ha) j i h

section
variable {P : Program} {n0 : Nat → Prop} {ext : Nat → Prop} {bs : Base} {β : Nat → Nat → Loc} {ok : Nat → Nat → Prop} {st : St} {a : Act} {w w0 w' : World} {own : Nat → Prop}

inductive Chain (P : Program) (κ : Nat → List Nat) (ops : Array Oper) (ρ : Nat → Res) : List Nat → St → St → Prop where
  | nil {st : St} : Chain P κ ops ρ [] st st
  | run {i : Nat} {l : List Nat} {o : Oper} {st st' : St} : ops[i]? = some o → (o.guard = none ∨ ∃ j want b, o.guard = some (j, want) ∧ gval ops st.τ j = some b ∧ b = some want) → Exec P (κ i) st o (ρ i) → Chain P κ ops ρ l (st.after o.dst (ρ i)) st' → Chain P κ ops ρ (i :: l) st st'
  | skip {i : Nat} {l : List Nat} {o : Oper} {st st' : St} : ops[i]? = some o → (∃ j want b, o.guard = some (j, want) ∧ gval ops st.τ j = some b ∧ b ≠ some want) → ρ i = skipR → Chain P κ ops ρ l (st.after o.dst skipR) st' → Chain P κ ops ρ (i :: l) st st'

theorem chain_congr {κ : Nat → List Nat} {ops : Array Oper} {ρ ρ' : Nat → Res} : ∀ {l : List Nat} {st st' : St}, Chain P κ ops ρ l st st' → (∀ i ∈ l, ρ' i = ρ i) → Chain P κ ops ρ' l st st'
  | _, _, _, .nil, _ => .nil
  | _, _, _, .run (i := i) h1 h2 h3 h4, he => .run h1 h2 (by rw [he i (by simp)]; exact h3) (by rw [he i (by simp)]; exact chain_congr h4 (fun j hj => he j (by simp [hj])))
  | _, _, _, .skip (i := i) h1 h2 h3 h4, he => .skip h1 h2 (by rw [he i (by simp)]; exact h3) (chain_congr h4 (fun j hj => he j (by simp [hj])))

theorem gateA_cases {ops : Array Oper} {o : Oper} {run skip : St → Prop} (hg : gateA ops st o run skip) :
    ((o.guard = none ∨ ∃ j want b, o.guard = some (j, want) ∧ gval ops st.τ j = some b ∧ b = some want) ∧ run st) ∨ ((∃ j want b, o.guard = some (j, want) ∧ gval ops st.τ j = some b ∧ b ≠ some want) ∧ skip st) := by
  unfold gateA at hg
  cases hgd : o.guard with
  | none => rw [hgd] at hg; exact .inl ⟨.inl rfl, hg⟩
  | some p =>
    obtain ⟨j, want⟩ := p
    rw [hgd] at hg
    simp only at hg
    split at hg
    · rename_i b hb
      by_cases hbw : b = want
      · subst hbw
        have := hg.1 rfl
        rw [learn_same hb] at this
        exact .inl ⟨.inr ⟨j, b, some b, rfl, hb, rfl⟩, this⟩
      · have hbw' : b = !want := by cases b <;> cases want <;> simp at hbw ⊢
        have := hg.2 hbw'
        rw [← hbw', learn_same hb] at this
        exact .inr ⟨⟨j, want, some b, rfl, hb, by simpa using hbw⟩, this⟩
    · rename_i hb
      exact .inr ⟨⟨j, want, none, rfl, hb, by simp⟩, hg⟩
    · exact hg.elim

theorem xopsD_chain {κ : Nat → List Nat} {ops : Array Oper} {Q : List Foot → St → Prop} : ∀ {l : List Oper} {k : Nat} {acc : List Foot} {st : St}, xopsD P κ ops Q k l acc st → (∀ j, l[j]? = ops[k + j]?) → acc.length = k →
    ∃ ρ st' fs, Chain P κ ops ρ (List.range' k l.length) st st' ∧ Q (acc.reverse ++ fs) ⟨st'.τ, st'.σ, st'.gen + 1⟩ ∧ fs.length = l.length ∧ (∀ j, j < l.length → fs[j]? = some (ρ (k + j)).foot)
  | [], k, acc, st, h, _, _ => ⟨fun _ => skipR, st, [], .nil, by simpa [xopsD] using h, rfl, fun j hj => by simp at hj⟩
  | o :: l, k, acc, st, h, ho, hk => by
    have ho0 : ops[k]? = some o := by simpa using (ho 0).symm
    have ho' : ∀ j, l[j]? = ops[k + 1 + j]? := fun j => by have := ho (j + 1); simpa [Nat.add_assoc, Nat.add_comm 1 j] using this
    simp only [xopsD] at h
    rcases gateA_cases h with ⟨hg, hrun⟩ | ⟨hg, hskip⟩
    · obtain ⟨r, hex, hrest⟩ := hrun
      obtain ⟨ρ, st', fs, hch, hQ, hl, hfs⟩ := xopsD_chain hrest ho' (by simp [hk])
      refine ⟨fun i => if i = k then r else ρ i, st', r.foot :: fs, ?_, by simpa using hQ, by simp [hl], ?_⟩
      · simp only [List.length_cons, List.range'_succ]
        refine .run ho0 hg (by simpa using hex) ?_
        simp only [if_true]
        refine chain_congr hch (fun i hi => ?_)
        have := List.mem_range'.mp hi
        obtain ⟨q, _, rfl⟩ := this
        rw [if_neg (by omega)]
      · intro j hj
        cases j with
        | zero => simp
        | succ j =>
          have := hfs j (by simpa using hj)
          simp only [List.getElem?_cons_succ, this]
          rw [if_neg (by omega)]
          simp [Nat.add_assoc, Nat.add_comm 1 j]
    · obtain ⟨ρ, st', fs, hch, hQ, hl, hfs⟩ := xopsD_chain hskip ho' (by simp [hk])
      refine ⟨fun i => if i = k then skipR else ρ i, st', ([], []) :: fs, ?_, by simpa using hQ, by simp [hl], ?_⟩
      · simp only [List.length_cons, List.range'_succ]
        refine .skip ho0 hg (by simp) ?_
        refine chain_congr hch (fun i hi => ?_)
        have := List.mem_range'.mp hi
        obtain ⟨q, _, rfl⟩ := this
        rw [if_neg (by omega)]
      · intro j hj
        cases j with
        | zero => simp [skipR, Res.foot]
        | succ j =>
          have := hfs j (by simpa using hj)
          simp only [List.getElem?_cons_succ, this]
          rw [if_neg (by omega)]
          simp [Nat.add_assoc, Nat.add_comm 1 j]

/-! Two neighbours that do not meet may change places. -/
theorem getD_set_ne' {xs : List AV} {i j : Nat} {v : AV} (h : i ≠ j) : (xs.set i v).getD j .any = xs.getD j .any := by
  simp only [List.getD_eq_getElem?_getD, List.getElem?_set_ne h]
theorem putτ_other {τ : List AV} {dst : Option Tmp} {v : AV} {t : Tmp} (h : ∀ d, dst = some d → d ≠ t) : (putτ τ dst v).getD t .any = τ.getD t .any := by
  cases dst with
  | none => rfl
  | some d => exact getD_set_ne' (h d rfl)
theorem applyUpd_other : ∀ {u : List (Nat × Option Reg)} {σ : Sto} {k : Nat}, k ∉ u.map (·.1) → (applyUpd σ u)[k]? = σ[k]?
  | [], _, _, _ => rfl
  | p :: u, σ, k, h => by
    simp only [List.map_cons, List.mem_cons, not_or] at h
    have : applyUpd σ (p :: u) = applyUpd (σ.set p.1 p.2) u := rfl
    rw [this, applyUpd_other h.2, List.getElem?_set_ne (fun e => h.1 e.symm)]
theorem applyUpd_set {u : List (Nat × Option Reg)} : ∀ {σ : Sto} {k : Nat} {r : Option Reg}, k ∉ u.map (·.1) → applyUpd (σ.set k r) u = (applyUpd σ u).set k r := by
  induction u with
  | nil => intro _ _ _ _; rfl
  | cons p u ih =>
    intro σ k r h
    simp only [List.map_cons, List.mem_cons, not_or] at h
    show applyUpd ((σ.set k r).set p.1 p.2) u = (applyUpd (σ.set p.1 p.2) u).set k r
    rw [List.set_comm _ _ h.1, ih h.2]
theorem applyUpd_comm {v : List (Nat × Option Reg)} : ∀ {u : List (Nat × Option Reg)} {σ : Sto}, (∀ k ∈ u.map (·.1), k ∉ v.map (·.1)) → applyUpd (applyUpd σ u) v = applyUpd (applyUpd σ v) u := by
  intro u
  induction u with
  | nil => intro _ _; rfl
  | cons p u ih =>
    intro σ h
    show applyUpd (applyUpd (σ.set p.1 p.2) u) v = applyUpd ((applyUpd σ v).set p.1 p.2) u
    rw [ih (fun k hk => h k (by simp at hk ⊢; exact .inr hk)), applyUpd_set (h p.1 (by simp))]

theorem footB_false {x y : Foot} (h : footB x y = false) : (∀ k ∈ x.2, k ∉ y.1 ∧ k ∉ y.2) ∧ (∀ k ∈ x.1, k ∉ y.2) := by
  unfold footB at h
  simp only [Bool.or_eq_false_iff, List.any_eq_false, Bool.or_eq_true, List.contains_iff_mem, not_or] at h
  exact h

theorem after_comm {x y : Oper} {rx ry : Res} {ops : Array Oper} (hap : x.apart ops y = true) (hf : footB rx.foot ry.foot = false) : (st.after x.dst rx).after y.dst ry = (st.after y.dst ry).after x.dst rx := by
  obtain ⟨h1, h2, h3⟩ := Oper.apart_spec hap
  obtain ⟨f1, f2⟩ := footB_false hf
  unfold St.after
  simp only [St.mk.injEq, and_true]
  refine ⟨?_, applyUpd_comm (fun k hk => (f1 k hk).2)⟩
  unfold putτ
  cases hx : x.dst with
  | none => cases y.dst <;> rfl
  | some d =>
    cases hy : y.dst with
    | none => rfl
    | some e => exact List.set_comm _ _ (fun e' => h2 d hx (by rw [hy, e']))

theorem looks_opnd {ops : Array Oper} {o : Oper} {dst : Option Tmp} {v : AV} {τ : List AV} (h : ∀ d, dst = some d → d ∉ o.looksAt ops) : ∀ x ∈ o.op.operands, opnd (putτ τ dst v) x = opnd τ x := by
  intro x hx
  cases x with
  | tmp t =>
    refine putτ_other (fun d hd e => h d hd ?_)
    subst e
    unfold Oper.looksAt
    refine List.mem_append_left _ ?_
    simp only [List.mem_filterMap]
    exact ⟨.tmp d, by simpa using hx, rfl⟩
  | const => rfl
  | global => rfl
  | func => rfl
theorem looks_gval {ops : Array Oper} {o : Oper} {dst : Option Tmp} {v : AV} {τ : List AV} (h : ∀ d, dst = some d → d ∉ o.looksAt ops) {j : Nat} {want : Bool} (hg : o.guard = some (j, want)) : gval ops (putτ τ dst v) j = gval ops τ j := by
  unfold gval
  cases hj : (ops[j]?).bind (·.dst) with
  | none => rfl
  | some d =>
    simp only
    rw [putτ_other (fun d' hd' e => h d' hd' ?_)]
    unfold Oper.looksAt
    refine List.mem_append_right _ ?_
    rw [hg]; simp [hj, e]

def Link (P : Program) (κ : Nat → List Nat) (ops : Array Oper) (ρ : Nat → Res) (i : Nat) (o : Oper) (st : St) : Prop :=
  ops[i]? = some o ∧ (((o.guard = none ∨ ∃ j want b, o.guard = some (j, want) ∧ gval ops st.τ j = some b ∧ b = some want) ∧ Exec P (κ i) st o (ρ i)) ∨ ((∃ j want b, o.guard = some (j, want) ∧ gval ops st.τ j = some b ∧ b ≠ some want) ∧ ρ i = skipR))
theorem chain_cons {κ : Nat → List Nat} {ops : Array Oper} {ρ : Nat → Res} {i : Nat} {l : List Nat} {st st' : St} : Chain P κ ops ρ (i :: l) st st' ↔ ∃ o, Link P κ ops ρ i o st ∧ Chain P κ ops ρ l (st.after o.dst (ρ i)) st' := by
  constructor
  · intro h
    cases h with
    | run h1 h2 h3 h4 => exact ⟨_, ⟨h1, .inl ⟨h2, h3⟩⟩, h4⟩
    | skip h1 h2 h3 h4 => exact ⟨_, ⟨h1, .inr ⟨h2, h3⟩⟩, by rw [h3]; exact h4⟩
  · rintro ⟨o, ⟨h1, h2 | h2⟩, h3⟩
    · exact .run h1 h2.1 h2.2 h3
    · exact .skip h1 h2.1 h2.2 (by rw [← h2.2]; exact h3)
theorem Link.move {κ : Nat → List Nat} {ops : Array Oper} {ρ : Nat → Res} {i : Nat} {o : Oper} {st : St} {dst : Option Tmp} {r : Res} (hl : ∀ d, dst = some d → d ∉ o.looksAt ops) (hm : ∀ k ∈ r.upd.map (·.1), k ∉ (ρ i).reads) : Link P κ ops ρ i o (st.after dst r) ↔ Link P κ ops ρ i o st := by
  have hg : ∀ j want, o.guard = some (j, want) → gval ops (st.after dst r).τ j = gval ops st.τ j := fun j want h => looks_gval hl h
  have ho := looks_opnd (τ := st.τ) (v := r.v) hl
  have hag : Agree st.σ (st.after dst r).σ (ρ i).reads := fun k hk => by
    simp only [St.after, List.getD_eq_getElem?_getD]
    rw [applyUpd_other (fun e => hm k e hk)]
  have hag' : Agree (st.after dst r).σ st.σ (ρ i).reads := fun k hk => (hag k hk).symm
  unfold Link
  refine and_congr_right fun _ => or_congr (and_congr (or_congr Iff.rfl ?_) ⟨fun h => h.local (fun x hx => (ho x hx).symm) hag' rfl, fun h => h.local ho hag rfl⟩) (and_congr ?_ Iff.rfl)
  · constructor <;> rintro ⟨j, want, b, h1, h2, h3⟩
    · exact ⟨j, want, b, h1, by rw [← hg j want h1]; exact h2, h3⟩
    · exact ⟨j, want, b, h1, by rw [hg j want h1]; exact h2, h3⟩
  · constructor <;> rintro ⟨j, want, b, h1, h2, h3⟩
    · exact ⟨j, want, b, h1, by rw [← hg j want h1]; exact h2, h3⟩
    · exact ⟨j, want, b, h1, by rw [hg j want h1]; exact h2, h3⟩

def Free (ops : Array Oper) (ρ : Nat → Res) (i j : Nat) : Prop := ∀ x y, ops[i]? = some x → ops[j]? = some y → x.apart ops y = true ∧ footB (ρ i).foot (ρ j).foot = false

theorem chain_front {κ : Nat → List Nat} {ops : Array Oper} {ρ : Nat → Res} : ∀ {A : List Nat} {i : Nat} {B : List Nat} {st st' : St}, Chain P κ ops ρ (A ++ i :: B) st st' → (∀ j ∈ A, Free ops ρ j i) → Chain P κ ops ρ (i :: (A ++ B)) st st'
  | [], _, _, _, _, h, _ => h
  | j :: A, i, B, st, st', h, hf => by
    obtain ⟨x, hx, h1⟩ := chain_cons.mp h
    have h2 := chain_front h1 (fun k hk => hf k (by simp [hk]))
    obtain ⟨y, hy, h3⟩ := chain_cons.mp h2
    obtain ⟨hap, hfoot⟩ := hf j (by simp) x y hx.1 hy.1
    obtain ⟨a1, a2, a3⟩ := Oper.apart_spec hap
    obtain ⟨f1, f2⟩ := footB_false hfoot
    have hy' : Link P κ ops ρ i y st := (Link.move a1 (fun k hk => (f1 k hk).1)).mp hy
    have hx' : Link P κ ops ρ j x (st.after y.dst (ρ i)) := (Link.move a3 (fun k hk hk2 => f2 k hk2 hk)).mpr hx
    refine chain_cons.mpr ⟨y, hy', ?_⟩
    refine chain_cons.mpr ⟨x, hx', ?_⟩
    rw [← after_comm hap hfoot]; exact h3

theorem prec_listed {ops : Array Oper} {p : Nat → Prop} (hcl : ∀ j o e, p j → ops[j]? = some o → e ∈ o.after.toList → Region.binds .any e = true → p e.on) :
    ∀ {i j : Nat}, Prec ops.toList i j → (∀ o e, ops[j]? = some o → e ∈ o.after.toList → Region.binds .any e = true → p e.on) → p i := by
  intro i j h
  induction h with
  | edge h1 h2 h3 h4 => intro hj; subst h4; exact hj _ _ (by simpa using h1) h2 h3
  | step _ _ ih1 ih2 => intro hj; exact ih1 (fun o e h1 h2 h3 => hcl _ o e (ih2 hj) h1 h2 h3)

theorem ready_iff {ops : Array Oper} {listed : Array Bool} {i : Nat} : i ∈ Region.ready .any ops listed ↔ i < ops.size ∧ listed.getD i true = false ∧ ∃ o, ops[i]? = some o ∧ ∀ e ∈ o.after.toList, Region.binds .any e = true → listed.getD e.on false = true := by
  unfold Region.ready
  simp only [List.mem_filter, List.mem_range, Bool.and_eq_true, Bool.not_eq_true']
  constructor
  · rintro ⟨h1, h2, h3⟩
    refine ⟨h1, h2, ?_⟩
    cases ho : ops[i]? with
    | none => rw [ho] at h3; cases h3
    | some o =>
      rw [ho] at h3
      simp only [Option.map_some, Option.getD_some] at h3
      rw [← Array.all_toList] at h3
      refine ⟨o, rfl, fun e he hb => ?_⟩
      have := List.all_eq_true.mp h3 e he
      simpa [hb] using this
  · rintro ⟨h1, h2, o, ho, h3⟩
    refine ⟨h1, h2, ?_⟩
    rw [ho]
    simp only [Option.map_some, Option.getD_some]
    rw [← Array.all_toList]
    refine List.all_eq_true.mpr fun e he => ?_
    cases hb : Region.binds .any e
    · rfl
    · simpa using h3 e he hb

def todoL (n : Nat) (listed : Array Bool) : List Nat := (List.range n).filter fun i => !listed.getD i true
theorem todo_pairwise (n : Nat) (listed : Array Bool) : (todoL n listed).Pairwise (· < ·) := List.Pairwise.filter _ List.pairwise_lt_range
theorem todo_set {n : Nat} {listed : Array Bool} (hs : listed.size = n) {i : Nat} {A B : List Nat} (h : todoL n listed = A ++ i :: B) : todoL n (listed.setIfInBounds i true) = A ++ B := by
  have hpw := todo_pairwise n listed
  rw [h] at hpw
  have hA : ∀ j ∈ A, j ≠ i := fun j hj => Nat.ne_of_lt ((List.pairwise_append.mp hpw).2.2 j hj i (by simp))
  have hB : ∀ j ∈ B, j ≠ i := fun j hj => (Nat.ne_of_lt ((List.pairwise_cons.mp (List.pairwise_append.mp hpw).2.1).1 j hj)).symm
  have e : todoL n (listed.setIfInBounds i true) = (todoL n listed).filter (fun j => j != i) := by
    unfold todoL
    rw [List.filter_filter]
    apply List.filter_congr
    intro j hj
    have hj : j < n := by simpa using hj
    by_cases hji : j = i
    · subst hji
      simp [Array.getD_eq_getD_getElem?, hs, hj]
    · have : (listed.setIfInBounds i true).getD j true = listed.getD j true := by
        simp only [Array.getD_eq_getD_getElem?]
        rw [Array.getElem?_setIfInBounds_ne (fun e => hji e.symm)]
      rw [this]; simp [hji]
  rw [e, h, List.filter_append, List.filter_cons]
  simp only [bne_self_eq_false, Bool.false_eq_true, if_false]
  rw [List.filter_eq_self.mpr (fun j hj => by simpa using hA j hj), List.filter_eq_self.mpr (fun j hj => by simpa using hB j hj)]

def keysOf (κ : Nat → List Nat) (i : Nat) (_ : Oper) : List Nat := κ i
theorem keys_apart {κ : Nat → List Nat} {d : Nat} : ∀ {l : List Oper} {b i j : Nat} {x y : Oper}, (allocKeys κ b l).Nodup → i ≠ j → l[i]? = some x → l[j]? = some y → d ∈ keysOf κ (b + i) x → d ∈ keysOf κ (b + j) y → False := by
  have mem : ∀ {l : List Oper} {b j : Nat} {y : Oper}, l[j]? = some y → d ∈ keysOf κ (b + j) y → d ∈ allocKeys κ b l := by
    intro l
    induction l with
    | nil => intro b j y h; simp at h
    | cons o l ih =>
      intro b j y h h1
      simp only [allocKeys]
      cases j with
      | zero => simp at h; subst h; exact List.mem_append_left _ h1
      | succ j => exact List.mem_append_right _ (ih (b := b + 1) (j := j) (by simpa using h) (by rw [Nat.add_assoc, Nat.add_comm 1 j]; exact h1))
  intro l
  induction l with
  | nil => intro b i j x y _ _ hi; simp at hi
  | cons o l ih =>
    intro b i j x y h hij hi hj hx hy
    simp only [allocKeys] at h
    obtain ⟨h1, h2, h3⟩ := List.nodup_append.mp h
    cases i with
    | zero =>
      cases j with
      | zero => exact hij rfl
      | succ j =>
        simp at hi; subst hi
        exact h3 d hx d (mem (b := b + 1) (j := j) (by simpa using hj) (by rw [Nat.add_assoc, Nat.add_comm 1 j]; exact hy)) rfl
    | succ i =>
      cases j with
      | zero =>
        simp at hj; subst hj
        exact h3 d hy d (mem (b := b + 1) (j := i) (by simpa using hi) (by rw [Nat.add_assoc, Nat.add_comm 1 i]; exact hx)) rfl
      | succ j => exact ih (b := b + 1) (i := i) (j := j) h2 (fun e => hij (congrArg (· + 1) e)) (by simpa using hi) (by simpa using hj) (by rw [Nat.add_assoc, Nat.add_comm 1 i]; exact hx) (by rw [Nat.add_assoc, Nat.add_comm 1 j]; exact hy)

theorem drawn_any {κ : Nat → List Nat} {ops : Array Oper} {ρ : Nat → Res} {stE : St} {Q : Exit → Act → World → Prop} (hnd : (allocKeys κ 0 ops.toList).Nodup)
    (hconf : ∀ i j, i < j → j < ops.size → Free ops ρ i j ∨ Prec ops.toList i j) (hback : ∀ j o e, ops[j]? = some o → e ∈ o.after.toList → Region.binds .any e = true → e.on < j)
    (hQ : ∀ β ok a w, StRel n0 ext β ok stE a w → (∀ t g, ok t g → g ≤ stE.gen) → Exts bs.β bs.ok β ok → Bel n0 w0 w → Q .normal a w) :
    ∀ (fuel : Nat) (listed : Array Bool) (st : St) (β : Nat → Nat → Loc) (ok : Nat → Nat → Prop) (a : Act) (w : World), listed.size = ops.size → (todoL ops.size listed).length = fuel → Chain P κ ops ρ (todoL ops.size listed) st stE →
      (∀ j o e, listed.getD j false = true → ops[j]? = some o → e ∈ o.after.toList → Region.binds .any e = true → listed.getD e.on false = true) →
      StRel n0 ext β ok st a w → (∀ i ∈ todoL ops.size listed, ∀ o, ops[i]? = some o → ∀ d ∈ keysOf κ i o, ¬ ok d st.gen) → (∀ t g, ok t g → g ≤ st.gen) → Exts bs.β bs.ok β ok → Bel n0 w0 w →
      wpAny P .any ops Q fuel listed a w := by
  have getD_ft : ∀ (listed : Array Bool) (i : Nat), i < listed.size → listed.getD i false = listed.getD i true := by
    intro listed i hi; simp [Array.getD_eq_getD_getElem?, hi]
  have sub : ∀ (listed : Array Bool) (i : Nat), i ∈ Region.ready .any ops listed → i ∈ todoL ops.size listed := by
    intro listed i hi
    obtain ⟨h1, h2, _⟩ := ready_iff.mp hi
    simp only [todoL, List.mem_filter, List.mem_range, h2, Bool.not_false, and_true]; exact h1
  intro fuel
  induction fuel with
  | zero =>
    intro listed st β ok a w hs hl hch _ hr _ hg hx hb
    have h0 : todoL ops.size listed = [] := List.length_eq_zero_iff.mp hl
    rw [h0] at hch
    cases hch
    refine ⟨?_, hQ β ok a w hr hg hx hb⟩
    refine List.eq_nil_iff_forall_not_mem.mpr fun i hi => ?_
    have := sub listed i hi
    rw [h0] at this; cases this
  | succ fuel ih =>
    intro listed st β ok a w hs hl hch hcl hr hf hg hx hb
    refine ⟨fun hnil => ?_, fun i hi => ?_⟩
    · exfalso
      cases ht : todoL ops.size listed with
      | nil => rw [ht] at hl; simp at hl
      | cons i0 rest =>
        have hmem : i0 ∈ todoL ops.size listed := by rw [ht]; simp
        have h2 := hmem
        simp only [todoL, List.mem_filter, List.mem_range, Bool.not_eq_true'] at h2
        have hpw := todo_pairwise ops.size listed
        rw [ht] at hpw
        have hleast : ∀ j, j < i0 → listed.getD j false = true := by
          intro j hj
          cases hq : listed.getD j true with
          | true => rw [getD_ft _ _ (by omega)]; exact hq
          | false =>
            have : j ∈ todoL ops.size listed := by simp only [todoL, List.mem_filter, List.mem_range, hq, Bool.not_false, and_true]; omega
            rw [ht] at this
            rcases List.mem_cons.mp this with e | e
            · omega
            · have := (List.pairwise_cons.mp hpw).1 j e; omega
        have hlt : i0 < ops.size := h2.1
        have : i0 ∈ Region.ready .any ops listed := ready_iff.mpr ⟨h2.1, h2.2, ops[i0], by simp [hlt], fun e he hbn => hleast _ (hback i0 _ e (by simp [hlt]) he hbn)⟩
        rw [hnil] at this; cases this
    · have hmem := sub listed i hi
      obtain ⟨h1, h2, o, ho, h3⟩ := ready_iff.mp hi
      obtain ⟨A, B, hAB⟩ := List.append_of_mem hmem
      have hpw := todo_pairwise ops.size listed
      rw [hAB] at hpw hch
      have hA : ∀ j ∈ A, j < i := fun j hj => (List.pairwise_append.mp hpw).2.2 j hj i (by simp)
      have hfree : ∀ j ∈ A, Free ops ρ j i := by
        intro j hj
        rcases hconf j i (hA j hj) h1 with hfr | hpr
        · exact hfr
        · exfalso
          have hlj := prec_listed (p := fun j => listed.getD j false = true) (fun j o e => hcl j o e) hpr (fun o' e ho' he hbn => h3 e (by rw [ho] at ho'; cases ho'; exact he) hbn)
          have hjt : j ∈ todoL ops.size listed := by rw [hAB]; simp [hj]
          simp only [todoL, List.mem_filter, List.mem_range, Bool.not_eq_true'] at hjt
          rw [getD_ft _ _ (by rw [hs]; exact hjt.1), hjt.2] at hlj
          cases hlj
      obtain ⟨o', hlink, hrest⟩ := chain_cons.mp (chain_front hch hfree)
      have hoo : o' = o := by have := hlink.1; rw [ho] at this; cases this; rfl
      subst hoo
      have hset := todo_set hs hAB
      have hs' : (listed.setIfInBounds i true).size = ops.size := by simpa using hs
      have hl' : (todoL ops.size (listed.setIfInBounds i true)).length = fuel := by rw [hset]; rw [hAB] at hl; simp at hl ⊢; omega
      have hcl' : ∀ j o e, (listed.setIfInBounds i true).getD j false = true → ops[j]? = some o → e ∈ o.after.toList → Region.binds .any e = true → (listed.setIfInBounds i true).getD e.on false = true := by
        intro j oj e hj hoj he hbn
        have base : listed.getD e.on false = true := by
          by_cases hji : j = i
          · subst hji; rw [ho] at hoj; cases hoj; exact h3 e he hbn
          · refine hcl j oj e ?_ hoj he hbn
            rw [getD_set_ne false (fun e => hji e.symm)] at hj; exact hj
        exact getD_set_true base
      have hf' : ∀ (ok' : Nat → Nat → Prop), (∀ t g, ok' t g → ok t g ∨ (t ∈ κ i ∧ g = st.gen)) → ∀ k ∈ todoL ops.size (listed.setIfInBounds i true), ∀ ok_, ops[k]? = some ok_ → ∀ d ∈ keysOf κ k ok_, ¬ ok' d st.gen := by
        intro ok' hok' k hk y hy d hd hk'
        have hki : k ≠ i := by
          rintro rfl
          rw [hset] at hk
          rcases List.mem_append.mp hk with hk | hk
          · exact Nat.lt_irrefl _ (hA _ hk)
          · exact Nat.lt_irrefl _ ((List.pairwise_cons.mp (List.pairwise_append.mp hpw).2.1).1 _ hk)
        have hkt : k ∈ todoL ops.size listed := by
          rw [hset] at hk; rw [hAB]
          rcases List.mem_append.mp hk with hk | hk
          · simp [hk]
          · simp [hk]
        rcases hok' d _ hk' with h4 | ⟨h4, _⟩
        · exact hf k hkt y hy d hd h4
        · exact keys_apart (κ := κ) (b := 0) hnd hki (by simpa using hy) (by simpa using ho) (by rw [Nat.zero_add]; exact hd) (by rw [Nat.zero_add]; exact h4)
      unfold wpOp
      rw [ho]
      simp only
      rcases hlink.2 with ⟨hgate, hex⟩ | ⟨hgate, hsk⟩
      · have hw : Region.wanted o' (yielded ops a.tmps) = true := by
          unfold Region.wanted
          rcases hgate with hgd | ⟨j, want, b, hgd, hb1, hb2⟩
          · rw [hgd]
          · rw [hgd]; simp [gval_yielded hr hb1, hb2]
        rw [if_pos hw]
        refine .inl (hex.wp hr (fun k hk => hf i hmem o' ho k hk) hg (fun β' ok' a' w' k1 k2 k3 k4 => ?_))
        refine ih _ _ β' ok' a' w' hs' hl' (by rw [hset]; exact hrest) hcl' k1 (hf' ok' k3) (fun t g hk => ?_) (hx.trans k4) (hb.trans k2)
        rcases k3 t g hk with h4 | ⟨_, rfl⟩
        · exact hg t g h4
        · exact Nat.le_refl _
      · have hw : Region.wanted o' (yielded ops a.tmps) = false := by
          obtain ⟨j, want, b, hgd, hb1, hb2⟩ := hgate
          unfold Region.wanted
          rw [hgd]; simp [gval_yielded hr hb1, hb2]
        rw [if_neg (by simp [hw])]
        rw [hsk] at hrest
        have hstill := hr.still o'.dst (x := .tuple []) (v := undef) (.closed (.tuple .nil))
        exact ih _ _ β ok _ w hs' hl' (by rw [hset]; exact hrest) hcl' hstill (hf' ok (fun _ _ => .inl)) hg hx hb

theorem a_xdraw {κ : Nat → List Nat} {id : Nat} {ops : Array Oper} {Q : Exit → St → Prop} {st : St} (hm : P.follows .mixedOrders = true) (hnd : (allocKeys κ 0 ops.toList).Nodup) (hbk : backB ops.toList = true)
    (h : xopsD P κ ops (fun acc st => confB ops.toList acc = true ∧ Q .normal st) 0 ops.toList [] st) : ASpec P (.region id ops true) Q st := by
  intro n0 ext bs w0 a w ⟨β, ok, hr, hg, hx⟩ hb
  obtain ⟨ρ, stE, fs, hch, ⟨hc, hQ⟩, hfl, hfs⟩ := xopsD_chain (k := 0) h (by simp) rfl
  refine wp_region_any hm ?_
  have htodo : todoL ops.size (Array.replicate ops.size false) = List.range ops.size := by
    unfold todoL
    refine List.filter_eq_self.mpr fun i hi => ?_
    have : i < ops.size := by simpa using hi
    simp [Array.getD_eq_getD_getElem?, this]
  have hgen : ∀ {l : List Nat} {s s' : St}, Chain P κ ops ρ l s s' → s'.gen = s.gen := by
    intro l s s' hcc
    induction hcc with
    | nil => rfl
    | run _ _ _ _ ih => exact ih
    | skip _ _ _ _ ih => exact ih
  have hback : ∀ j o e, ops[j]? = some o → e ∈ o.after.toList → Region.binds .any e = true → e.on < j := by
    intro j o e hj he hbn
    have h1 := List.all_eq_true.mp hbk (o, j) (by
      rw [List.mk_mem_zipIdx_iff_getElem?]; simpa using hj)
    have := List.all_eq_true.mp h1 e (by simp only [List.mem_filter]; exact ⟨he, hbn⟩)
    simpa using this
  refine drawn_any (bs := bs) (w0 := w0) (n0 := n0) (ext := ext) (ρ := ρ) (stE := stE) hnd ?_ hback ?_ ops.size _ st β ok a _ (by simp) (by rw [htodo]; simp) ?_ ?_ hr.drew ?_ (fun t g hk => Nat.le_of_lt (hg t g hk)) hx ⟨hb.os, hb.tape, hb.output, hb.size, hb.block⟩
  · intro i j hij hj
    simp only [confB, List.all_eq_true, List.mem_range, Array.length_toList] at hc
    have := hc j hj i hij
    simp only [Bool.or_eq_true, List.contains_iff_mem] at this
    rcases this with this | this
    · left
      intro x y hx hy
      have hx' : ops.toList[i]? = some x := by simpa using hx
      have hy' : ops.toList[j]? = some y := by simpa using hy
      rw [hx', hy'] at this
      simp only [Bool.and_eq_true, Bool.not_eq_true', Array.toArray_toList] at this
      have f1 := hfs i (by simp; omega)
      have f2 := hfs j (by simp; omega)
      simp only [Nat.zero_add, List.reverse_nil, List.nil_append] at f1 f2 this
      rw [List.getD_eq_getElem?_getD, List.getD_eq_getElem?_getD, f1, f2] at this
      exact this
    · exact .inr (befs_prec this)
  · intro β' ok' a' w' k1 k2 k2x k3
    exact ⟨_, hQ, ⟨β', ok', ⟨k1.temps, k1.regs, k1.dist, k1.extlt, k1.n0le, k1.defers, k1.glob⟩, fun t g hk => Nat.lt_succ_of_le (k2 t g hk), k2x⟩, k3⟩
  · rw [htodo]
    simpa [List.range_eq_range'] using hch
  · intro j o e hj _ _ _
    exfalso
    simp only [Array.getD_eq_getD_getElem?, Array.getElem?_replicate] at hj
    split at hj <;> simp at hj
  · intro i _ o _ d _ hk
    exact Nat.lt_irrefl _ (hg _ _ hk)
theorem a_region_draw {id : Nat} {ops : Array Oper} {Q : Exit → St → Prop} {st : St} (hm : P.follows .mixedOrders = true) (hok : drawOk ops.toList = true)
    (h : aopsD P ops (fun acc st => confB ops.toList acc = true ∧ Q .normal st) ops.toList [] st) : ASpec P (.region id ops true) Q st := by
  simp only [drawOk, Bool.and_eq_true] at hok
  exact a_xdraw (κ := dstK ops.toList) hm (by rw [allocKeys_dst (fun j => by rw [Nat.zero_add])]; exact of_decide_eq_true hok.1.1) hok.1.2 (aopsD_x (fun j => by rw [Nat.zero_add]) h)
end
end Go.Ab
end
