/- The rules in the shape that a short script drives. Two steps that the code does not take: a nil slice as a row of its own; a row that is not written again. What a loop's head knows of a state: some slots, some regions. A law's arguments are opened into trees, and its answer is closed. -/
import Derived.Test.YtoggbjfjmbjegaaGreatDoorAb15
import Derived.ChangeArms
import Derived.ChangeSame
import Derived.Carry
import Derived.RowKit
set_option linter.unusedSimpArgs false
set_option linter.unusedVariables false
section
namespace Go.Ab
structure ConfOk (ops : List Oper) (acc : List Foot) : Prop where
  conf : confB ops acc = true
structure RetOk (P : Program) (rs : List ResultVar) (r : AV) (e : Exit) (st : St) : Prop where
  ret : retA P rs r e st
section
variable {P : Program} {st : St} {Q : Exit → St → Prop}
def CallS (P : Program) (ops : Array Oper) (Q : St → Prop) (rest : List Oper) (st : St) (dst : Option Tmp) (ks : List Nat) (f : FuncId) (args raw : List AV) : Prop :=
  CallA P f args ks raw st dst fun r => aops P ops Q rest (st.after dst r)
def CallD (P : Program) (ops : Array Oper) (Q : List Foot → St → Prop) (rest : List Oper) (acc : List Foot) (st : St) (dst : Option Tmp) (ks : List Nat) (f : FuncId) (args raw : List AV) : Prop :=
  CallA P f args ks raw st dst fun r => aopsD P ops Q rest (r.foot :: acc) (st.after dst r)
def stepS (P : Program) (ops : Array Oper) (Q : St → Prop) (o : Oper) (rest : List Oper) (st : St) : Prop :=
  match pureOp P (opnd st.τ) o.op with
  | some (pre, v) => pre ∧ aops P ops Q rest (st.after o.dst ⟨v, [], []⟩)
  | none => match memOp P (opnd st.τ) st.σ st.gen o.dst o.op with
    | some (pre, r) => pre ∧ aops P ops Q rest (st.after o.dst r)
    | none => match callOf (opnd st.τ) o.op with
      | some (f, args) => match closeL (closeV st.σ 4) args with
        | some (args', ks) => CallS P ops Q rest st o.dst ks f args' args
        | none => False
      | none => match litA P (opnd st.τ) st.σ st.gen o.dst o.op with
        | some r => aops P ops Q rest (st.after o.dst r)
        | none => if allocB o.op = true then False else match memS P (opnd st.τ) st.σ st.gen o.dst o.op with
          | some (b, r) => b = true ∧ aops P ops Q rest (st.after o.dst r)
          | none => False
def stepD (P : Program) (ops : Array Oper) (Q : List Foot → St → Prop) (o : Oper) (rest : List Oper) (acc : List Foot) (st : St) : Prop :=
  match pureOp P (opnd st.τ) o.op with
  | some (pre, v) => pre ∧ aopsD P ops Q rest ((⟨v, [], []⟩ : Res).foot :: acc) (st.after o.dst ⟨v, [], []⟩)
  | none => match memOp P (opnd st.τ) st.σ st.gen o.dst o.op with
    | some (pre, r) => pre ∧ aopsD P ops Q rest (r.foot :: acc) (st.after o.dst r)
    | none => match callOf (opnd st.τ) o.op with
      | some (f, args) => match closeL (closeV st.σ 4) args with
        | some (args', ks) => CallD P ops Q rest acc st o.dst ks f args' args
        | none => False
      | none => match litA P (opnd st.τ) st.σ st.gen o.dst o.op with
        | some r => aopsD P ops Q rest (r.foot :: acc) (st.after o.dst r)
        | none => if allocB o.op = true then False else match memS P (opnd st.τ) st.σ st.gen o.dst o.op with
          | some (b, r) => b = true ∧ aopsD P ops Q rest (r.foot :: acc) (st.after o.dst r)
          | none => False
def parts (b want : Bool) (p q : Prop) : Prop := (b = want → p) ∧ (b = !want → q)
theorem parts_tt {p q : Prop} : parts true true p q = p := by simp [parts]
theorem parts_ff {p q : Prop} : parts false false p q = p := by simp [parts]
theorem parts_tf {p q : Prop} : parts true false p q = q := by simp [parts]
theorem parts_ft {p q : Prop} : parts false true p q = q := by simp [parts]
theorem parts_eq {b want : Bool} {p q : Prop} : parts b want p q = ((b = want → p) ∧ (b = !want → q)) := rfl
theorem aops_nil {ops : Array Oper} {Q : St → Prop} : aops P ops Q [] st = Q ⟨st.τ, st.σ, st.gen + 1⟩ := rfl
theorem aops_cons {ops : Array Oper} {Q : St → Prop} {o : Oper} {rest : List Oper} : aops P ops Q (o :: rest) st =
    match o.guard with
    | none => stepS P ops Q o rest st
    | some (j, want) => match gval ops st.τ j with
      | some (some b) => parts b want (stepS P ops Q o rest (st.learn ops j want)) (aops P ops Q rest ((st.learn ops j (!want)).after o.dst skipR))
      | some none => aops P ops Q rest (st.after o.dst skipR)
      | none => False := rfl
theorem aopsD_nil {ops : Array Oper} {Q : List Foot → St → Prop} {acc : List Foot} : aopsD P ops Q [] acc st = Q acc.reverse ⟨st.τ, st.σ, st.gen + 1⟩ := rfl
theorem aopsD_cons {ops : Array Oper} {Q : List Foot → St → Prop} {o : Oper} {rest : List Oper} {acc : List Foot} : aopsD P ops Q (o :: rest) acc st =
    match o.guard with
    | none => stepD P ops Q o rest acc st
    | some (j, want) => match gval ops st.τ j with
      | some (some b) => parts b want (stepD P ops Q o rest acc (st.learn ops j want)) (aopsD P ops Q rest (([], []) :: acc) ((st.learn ops j (!want)).after o.dst skipR))
      | some none => aopsD P ops Q rest (([], []) :: acc) (st.after o.dst skipR)
      | none => False := rfl
theorem CallS.intro {ops : Array Oper} {Q : St → Prop} {rest : List Oper} {dst : Option Tmp} {ks : List Nat} {f : FuncId} {args raw : List AV} {r : AV} (h : ACalls P f args r) (k : aops P ops Q rest (st.after dst ⟨r, if scalarB r then [] else killed ks, ks⟩)) : CallS P ops Q rest st dst ks f args raw := .inl ⟨r, h, k⟩
theorem CallS.lent {ops : Array Oper} {Q : St → Prop} {rest : List Oper} {dst : Option Tmp} {ks : List Nat} {f : FuncId} {args raw : List AV} (ls : List Nat) (n : Nat) {r : AV} {σ' : Sto} (h : MCalls P f st.gen raw (lend st.σ ls n) r σ') (k : aops P ops Q rest (st.after dst ⟨r, ls.map fun k => (k, σ'.getD k none), ls⟩)) : CallS P ops Q rest st dst ks f args raw := .inr (.inl ⟨ls, n, r, σ', h, k⟩)
theorem CallS.fresh {ops : Array Oper} {Q : St → Prop} {rest : List Oper} {d : Tmp} {ks : List Nat} {f : FuncId} {args raw : List AV} {es : Nat} {els : List (List AV)} (h : FCalls P f args es els) (k : aops P ops Q rest (st.after (some d) ⟨.view d st.gen, (if scalarL els.flatten = true then [] else killed ks) ++ [(d, some (.row st.gen es els))], ks⟩)) : CallS P ops Q rest st (some d) ks f args raw := .inr (.inr (.inl ⟨d, es, els, rfl, h, k⟩))
theorem CallD.fresh {ops : Array Oper} {Q : List Foot → St → Prop} {rest : List Oper} {acc : List Foot} {d : Tmp} {ks : List Nat} {f : FuncId} {args raw : List AV} {es : Nat} {els : List (List AV)} (h : FCalls P f args es els) (k : aopsD P ops Q rest ((⟨.view d st.gen, (if scalarL els.flatten = true then [] else killed ks) ++ [(d, some (.row st.gen es els))], ks⟩ : Res).foot :: acc) (st.after (some d) ⟨.view d st.gen, (if scalarL els.flatten = true then [] else killed ks) ++ [(d, some (.row st.gen es els))], ks⟩)) : CallD P ops Q rest acc st (some d) ks f args raw := .inr (.inr (.inl ⟨d, es, els, rfl, h, k⟩))
theorem CallD.lent {ops : Array Oper} {Q : List Foot → St → Prop} {rest : List Oper} {acc : List Foot} {dst : Option Tmp} {ks : List Nat} {f : FuncId} {args raw : List AV} (ls : List Nat) (n : Nat) {r : AV} {σ' : Sto} (h : MCalls P f st.gen raw (lend st.σ ls n) r σ') (k : aopsD P ops Q rest ((⟨r, ls.map fun k => (k, σ'.getD k none), ls⟩ : Res).foot :: acc) (st.after dst ⟨r, ls.map fun k => (k, σ'.getD k none), ls⟩)) : CallD P ops Q rest acc st dst ks f args raw := .inr (.inl ⟨ls, n, r, σ', h, k⟩)
theorem CallS.ext {ops : Array Oper} {Q : St → Prop} {rest : List Oper} {dst : Option Tmp} {ks : List Nat} {f : FuncId} {args raw : List AV} {r : AV} (h : extB P f raw = some r) (k : aops P ops Q rest (st.after dst ⟨r, [], []⟩)) : CallS P ops Q rest st dst ks f args raw := .inr (.inr (.inr ⟨r, h, k⟩))
theorem CallD.ext {ops : Array Oper} {Q : List Foot → St → Prop} {rest : List Oper} {acc : List Foot} {dst : Option Tmp} {ks : List Nat} {f : FuncId} {args raw : List AV} {r : AV} (h : extB P f raw = some r) (k : aopsD P ops Q rest ((⟨r, [], []⟩ : Res).foot :: acc) (st.after dst ⟨r, [], []⟩)) : CallD P ops Q rest acc st dst ks f args raw := .inr (.inr (.inr ⟨r, h, k⟩))
theorem CallD.intro {ops : Array Oper} {Q : List Foot → St → Prop} {rest : List Oper} {acc : List Foot} {dst : Option Tmp} {ks : List Nat} {f : FuncId} {args raw : List AV} {r : AV} (h : ACalls P f args r) (k : aopsD P ops Q rest ((⟨r, if scalarB r then [] else killed ks, ks⟩ : Res).foot :: acc) (st.after dst ⟨r, if scalarB r then [] else killed ks, ks⟩)) : CallD P ops Q rest acc st dst ks f args raw := .inl ⟨r, h, k⟩
theorem aopsD_mono {ops : Array Oper} {Q Q' : List Foot → St → Prop} (h : ∀ acc st, Q acc st → Q' acc st) {l : List Oper} {acc : List Foot} {st : St} (hq : aopsD P ops Q l acc st) : aopsD P ops Q' l acc st := by
  induction l generalizing acc st with
  | nil => exact h _ _ hq
  | cons o l ih =>
    simp only [aopsD] at hq ⊢
    have hs : ∀ st, stepA P st o (fun r => aopsD P ops Q l (r.foot :: acc) (st.after o.dst r)) → stepA P st o (fun r => aopsD P ops Q' l (r.foot :: acc) (st.after o.dst r)) := by
      intro st h1
      unfold stepA at h1 ⊢
      split at h1
      · exact ⟨h1.1, ih h1.2⟩
      · split at h1
        · exact ⟨h1.1, ih h1.2⟩
        · split at h1
          · split at h1
            · rcases h1 with ⟨r, h2, h3⟩ | ⟨ls, n, r, σ', h2, h3⟩ | ⟨d, es, els, h0, h2, h3⟩ | ⟨r, h2, h3⟩
              rotate_right
              · exact .inr (.inr (.inr ⟨r, h2, ih h3⟩))
              · exact .inl ⟨r, h2, ih h3⟩
              · exact .inr (.inl ⟨ls, n, r, σ', h2, ih h3⟩)
              · exact .inr (.inr (.inl ⟨d, es, els, h0, h2, ih h3⟩))
            · exact h1
          · split at h1
            · exact ih h1
            · split at h1
              · exact h1.elim
              · rename_i hal
                rw [if_neg hal]
                split at h1
                · exact ⟨h1.1, ih h1.2⟩
                · exact h1.elim
    unfold gateA at hq ⊢
    split at hq
    · exact hs _ hq
    · split at hq
      · exact ⟨fun e => hs _ (hq.1 e), fun e => ih (hq.2 e)⟩
      · exact ih hq
      · exact hq
theorem a_draw {id : Nat} {ops : Array Oper} (hm : P.follows .mixedOrders = true) (hok : drawOk ops.toList = true)
    (h : ∀ C : List Foot → Prop, (∀ acc, ConfOk ops.toList acc → C acc) → aopsD P ops (fun acc st => C acc ∧ Q .normal st) ops.toList [] st) : ASpec P (.region id ops true) Q st :=
  a_region_draw hm hok (aopsD_mono (fun _ _ h => ⟨h.1.conf, h.2⟩) (h (fun acc => ConfOk ops.toList acc) fun _ h => h))
def learnT (st : St) (c : Operand) (b : Bool) : St :=
  match c with
  | .tmp t => ⟨st.τ.set t (.bool b), st.σ, st.gen⟩
  | _ => st
theorem learnT_same {c : Operand} {b : Bool} (h : opnd st.τ c = .bool b) : learnT st c b = st := by
  unfold learnT
  split
  · rename_i t
    simp only [opnd] at h
    have hlt : t < st.τ.length := by
      rcases Nat.lt_or_ge t st.τ.length with hl | hl
      · exact hl
      · rw [List.getD_eq_getElem?_getD, List.getElem?_eq_none hl] at h; cases h
    rw [List.getD_eq_getElem?_getD, List.getElem?_eq_getElem hlt, Option.getD_some] at h
    rw [← h, List.set_getElem_self]
  · rfl
theorem a_cond_k {c : Operand} {x y : Code} (h : ∀ X Y : St → Prop, (∀ st, ASpec P x Q st → X st) → (∀ st, ASpec P y Q st → Y st) → match opnd st.τ c with | .bool b => (b = true → X (learnT st c true)) ∧ (b = false → Y (learnT st c false)) | _ => False) : ASpec P (.cond c x y) Q st := by
  have h := h _ _ (fun _ h => h) (fun _ h => h)
  split at h
  · rename_i b hb
    refine a_cond hb (fun e => ?_) (fun e => ?_)
    · subst e; have := h.1 rfl; rwa [learnT_same hb] at this
    · subst e; have := h.2 rfl; rwa [learnT_same hb] at this
  · exact h.elim
theorem acalls_k {f : FuncId} {fn : Func} {c : Code} {args : List AV} {r : AV} (hf : P.funcs[f]? = some fn) (hb : fn.body = some c) (hname : (fn.name == "runtime.NumGoroutine") = false) {rs : List ResultVar} (hrs : fn.results.toList = rs) {n : Nat} (hn : fn.ntmps = n)
    (h : ∀ R : Exit → St → Prop, (∀ e st, RetOk P rs r e st → R e st) → ASpec P c R (st0 n args)) : ACalls P f args r := acalls_of hf hb hname hrs hn (h _ fun _ _ h => h.ret)
end
end Go.Ab
end

section
namespace Go.Ab
open Go.RowKit

def putAll (τ : List AV) (x : AV) : List Nat → List AV
  | [] => τ
  | t :: ts => putAll (τ.set t x) x ts
section
variable {P : Program} {n0 : Nat → Prop} {ext : Nat → Prop} {β : Nat → Nat → Loc} {ok : Nat → Nat → Prop} {st : St} {a : Act} {w w' : World} {own : Nat → Prop} {Q : Exit → St → Prop} {c : Code}
theorem RepVL.set_same : ∀ {xs : List AV} {vs : List Value} {i : Nat} {x : AV}, RepVL w own β ok xs vs → (∀ v, vs[i]? = some v → RepV w own β ok x v) → RepVL w own β ok (xs.set i x) vs
  | [], _, i, x, h, _ => by simpa using h
  | y :: xs, _, i, x, h, hx => by
    cases h with
    | cons h1 h2 =>
      cases i with
      | zero => exact .cons (hx _ rfl) h2
      | succ i => exact .cons h1 (RepVL.set_same h2 (fun v hv => hx v (by simpa using hv)))
theorem RepVL.put_all {x : AV} : ∀ {ts : List Nat} {xs : List AV} {vs : List Value}, RepVL w own β ok xs vs → (∀ i ∈ ts, ∀ v, vs[i]? = some v → RepV w own β ok x v) → RepVL w own β ok (putAll xs x ts) vs
  | [], _, _, h, _ => h
  | t :: ts, xs, vs, h, hx => by
    unfold putAll
    exact RepVL.put_all (ts := ts) (xs := xs.set t x) (h.set_same (hx t (by simp))) (fun i hi => hx i (by simp [hi]))
theorem RepVL.at_get {xs : List AV} {vs : List Value} (h : RepVL w own β ok xs vs) : ∀ {i : Nat} {x : AV} {v : Value}, xs[i]? = some x → vs[i]? = some v → RepV w own β ok x v := by
  induction xs generalizing vs with
  | nil => intro i x v h1; simp at h1
  | cons y xs ih =>
    intro i x v h1 h2
    cases h with
    | cons h3 h4 =>
      cases i with
      | zero => simp at h1 h2; subst h1 h2; exact h3
      | succ i => exact ih h4 (by simpa using h1) (by simpa using h2)

theorem a_nilrow (ts : List Nat) (k es : Nat) (hτ : ∀ t ∈ ts, st.τ[t]? = some .nils) (h : ASpec P c Q ⟨putAll st.τ (.view k st.gen) ts, st.σ.set k (some (.row st.gen es [])), st.gen + 1⟩) : ASpec P c Q st := by
  intro n0 ext bs w0 a w ⟨β, ok, hs, hg, hx⟩ hb
  have hf : ¬ ok k st.gen := fun hk => Nat.lt_irrefl _ (hg _ _ hk)
  have L : Lays n0 β ok st w w k (.row st.gen es []) (st.σ.set k (some (.row st.gen es []))) ⟨0, 0, 0, true⟩ :=
    ⟨hf, rfl, set_sto, Nat.le_refl _, fun _ _ _ => rfl, fun e => by cases e⟩
  have hR := L.rel hs (by
    refine ⟨?_, by simp, by simp, .inl ⟨?_, rfl, ?_⟩⟩ <;> simp only [layβ_new, List.length_nil])
  refine h n0 ext bs w0 a w ⟨_, _, ⟨hR.temps.put_all (fun i hi v hv => ?_), hR.regs, hR.dist, hR.extlt, hR.n0le, hR.defers, hR.glob⟩, ?_⟩ hb
  · have h1 := hs.temps.at_get (hτ i hi) hv
    have h2 := h1.nils_open
    subst h2
    have := RepV.view (w := w) (own := ownOf ext (layβ β k st.gen ⟨0, 0, 0, true⟩) (st.σ.set k (some (.row st.gen es [])))) (β := layβ β k st.gen ⟨0, 0, 0, true⟩) (ok := layok ok k st.gen) (t := k) (g := st.gen) (.inr ⟨rfl, rfl⟩)
    rw [layβ_new] at this
    exact this
  · refine ⟨?_, hx.trans (exts_lay hf)⟩
    rintro t g (h1 | ⟨_, rfl⟩)
    · exact Nat.lt_succ_of_lt (hg _ _ h1)
    · exact Nat.lt_succ_self _

theorem a_freeze (ts : List Nat) {k g es : Nat} {els : List (List AV)} (hτ : ∀ t ∈ ts, st.τ[t]? = some (.view k g)) (hl : lookRow st.σ k g = some (es, els)) (h : ASpec P c Q ⟨putAll st.τ (.slice els) ts, applyUpd st.σ [(k, none)], st.gen⟩) : ASpec P c Q st := by
  intro n0 ext bs w0 a w ⟨β, ok, hs, hg, hx⟩ hb
  have hk := hs.kill [k]
  have e : killed [k] = [(k, none)] := rfl
  rw [e] at hk
  have hrow := lookRow_some hl
  obtain ⟨hc, _⟩ := row_closed (ks := [k]) hs hrow (by simp)
  have hsub : ∀ b, ownOf ext β (applyUpd st.σ [(k, none)]) b → ownLess ext β st.σ [k] b := by
    rintro b (h1 | ⟨t, r, h1, h2⟩)
    · exact .inl h1
    · have h3 := killed_sto (ks := [k]) h1
      exact .inr ⟨t, r, h3.1, h3.2, h2⟩
  refine h n0 ext bs w0 a w ⟨β, ok, ⟨hk.temps.put_all (fun i hi v hv => ?_), hk.regs, hk.dist, hk.extlt, hk.n0le, hk.defers, hk.glob⟩, hg, hx⟩ hb
  have h1 := hs.temps.at_get (hτ i hi) hv
  rw [h1.view_open.2]
  exact .closed (hc.mono (Grows.less hsub))

theorem a_rekey (ts : List Nat) (k k' : Nat) {g es : Nat} {els : List (List AV)} (hkk : k ≠ k') (hτ : ∀ t ∈ ts, st.τ[t]? = some (.view k g)) (hl : lookRow st.σ k g = some (es, els))
    (h : ASpec P c Q ⟨putAll st.τ (.view k' st.gen) ts, (st.σ.set k none).set k' (some (.row st.gen es els)), st.gen + 1⟩) : ASpec P c Q st := by
  intro n0 ext bs w0 a w ⟨β, ok, hs, hg, hx⟩ hb
  have hf : ¬ ok k' st.gen := fun hk => Nat.lt_irrefl _ (hg _ _ hk)
  have hrow := lookRow_some hl
  obtain ⟨hok, hreg⟩ := hs.regs _ _ hrow
  have hsto : ∀ t r', ((st.σ.set k none).set k' (some (.row st.gen es els)))[t]? = some (some r') → (t = k' ∧ r' = .row st.gen es els) ∨ (t ≠ k' ∧ st.σ[t]? = some (some r') ∧ t ≠ k) := by
    intro t r' h1
    rcases set_sto _ _ h1 with h2 | ⟨h2, h3⟩
    · exact .inl h2
    · rw [List.getElem?_set] at h3
      split at h3
      · split at h3 <;> simp at h3
      · rename_i h4; exact .inr ⟨h2, h3, fun e => h4 e.symm⟩
  have L : Lays n0 β ok st w w k' (.row st.gen es els) ((st.σ.set k none).set k' (some (.row st.gen es els))) (β k g) :=
    ⟨hf, rfl, fun t r' h1 => (hsto t r' h1).imp id fun ⟨x, y, _⟩ => ⟨x, y⟩, Nat.le_refl _, fun _ _ _ => rfl, fun hn => by
      obtain ⟨_, _, _, h4⟩ := hreg
      rcases h4 with ⟨h5, _⟩ | ⟨_, h5, _⟩
      · rw [h5] at hn; cases hn
      · refine ⟨h5, .inr ⟨k, _, hrow, hn, rfl, .inr fun r' h6 => ?_⟩⟩
        rcases hsto _ _ h6 with ⟨h7, _⟩ | ⟨_, _, h7⟩
        · exact hkk h7
        · exact h7 rfl⟩
  have hgr := L.grows hs
  have hR := L.rel hs (by
    obtain ⟨h1, h2, h3, h4⟩ := hreg
    refine ⟨by rw [layβ_new]; exact h1, h2, by rw [layβ_new]; exact h3, ?_⟩
    rw [layβ_new]
    rcases h4 with h4 | ⟨h5, h6, c, ty, vs, rest, h7, h8, h9, h10⟩
    · exact .inl h4
    · exact .inr ⟨h5, h6, c, ty, vs, rest, h7, h8, RepCL.mono hgr h9, h10⟩)
  refine h n0 ext bs w0 a w ⟨_, _, ⟨hR.temps.put_all (fun i hi v hv => ?_), hR.regs, hR.dist, hR.extlt, hR.n0le, hR.defers, hR.glob⟩, ?_⟩ hb
  · have h1 := hs.temps.at_get (hτ i hi) hv
    rw [h1.view_open.2]
    have := RepV.view (w := w) (own := ownOf ext (layβ β k' st.gen (β k g)) ((st.σ.set k none).set k' (some (.row st.gen es els)))) (β := layβ β k' st.gen (β k g)) (ok := layok ok k' st.gen) (t := k') (g := st.gen) (.inr ⟨rfl, rfl⟩)
    rw [layβ_new] at this
    exact this
  · refine ⟨?_, hx.trans (exts_lay hf)⟩
    rintro t g' (h1 | ⟨_, rfl⟩)
    · exact Nat.lt_succ_of_lt (hg _ _ h1)
    · exact Nat.lt_succ_self _
end
end Go.Ab
end

section
namespace Go.Ab

def lookT : List (Nat × AV) → Nat → AV → AV
  | [], _, d => d
  | (j, x) :: r, i, d => if i = j then x else lookT r i d
def lookR : List (Nat × Reg) → Nat → Option Reg → Option Reg
  | [], _, d => d
  | (j, x) :: r, i, d => if i = j then some x else lookR r i d
def tabT (ts : List (Nat × AV)) (τ : List AV) : Nat → Nat → List AV
  | 0, _ => []
  | n + 1, i => lookT ts i (τ.getD i .any) :: tabT ts τ n (i + 1)
def tabR (rs : List (Nat × Reg)) (σ : Sto) : Nat → Nat → Sto
  | 0, _ => []
  | n + 1, i => lookR rs i (σ.getD i none) :: tabR rs σ n (i + 1)
structure Has (st : St) (n : Nat) (ts : List (Nat × AV)) (rs : List (Nat × Reg)) : Prop where
  len : st.τ.length = n
  len' : st.σ.length = n
  slots : ∀ p ∈ ts, st.τ.getD p.1 .any = p.2
  regs : ∀ p ∈ rs, st.σ.getD p.1 none = some p.2
theorem lookT_of {ts : List (Nat × AV)} {τ : List AV} (h : ∀ p ∈ ts, τ.getD p.1 .any = p.2) (i : Nat) : lookT ts i (τ.getD i .any) = τ.getD i .any := by
  induction ts with
  | nil => rfl
  | cons p r ih =>
    obtain ⟨j, x⟩ := p
    simp only [lookT]
    split
    · rename_i e; subst e; exact (h (i, x) (by simp)).symm
    · exact ih fun q hq => h q (by simp [hq])
theorem lookR_of {ts : List (Nat × Reg)} {σ : Sto} (h : ∀ p ∈ ts, σ.getD p.1 none = some p.2) (i : Nat) : lookR ts i (σ.getD i none) = σ.getD i none := by
  induction ts with
  | nil => rfl
  | cons p r ih =>
    obtain ⟨j, x⟩ := p
    simp only [lookR]
    split
    · rename_i e; subst e; exact (h (i, x) (by simp)).symm
    · exact ih fun q hq => h q (by simp [hq])
theorem tabT_of {ts : List (Nat × AV)} {τ : List AV} (h : ∀ p ∈ ts, τ.getD p.1 .any = p.2) : ∀ (n i : Nat), τ.length = i + n → tabT ts τ n i = τ.drop i
  | 0, i, hl => by simp only [tabT]; rw [List.drop_eq_nil_of_le (by omega)]
  | n + 1, i, hl => by
    simp only [tabT, lookT_of h]
    rw [tabT_of h n (i + 1) (by omega), List.getD_eq_getElem?_getD, List.getElem?_eq_getElem (by omega), Option.getD_some, ← List.drop_eq_getElem_cons]
theorem tabR_of {ts : List (Nat × Reg)} {σ : Sto} (h : ∀ p ∈ ts, σ.getD p.1 none = some p.2) : ∀ (n i : Nat), σ.length = i + n → tabR ts σ n i = σ.drop i
  | 0, i, hl => by simp only [tabR]; rw [List.drop_eq_nil_of_le (by omega)]
  | n + 1, i, hl => by
    simp only [tabR, lookR_of h]
    rw [tabR_of h n (i + 1) (by omega), List.getD_eq_getElem?_getD, List.getElem?_eq_getElem (by omega), Option.getD_some, ← List.drop_eq_getElem_cons]
theorem Has.eta {st : St} {n : Nat} {ts : List (Nat × AV)} {rs : List (Nat × Reg)} (h : Has st n ts rs) : st = ⟨tabT ts st.τ n 0, tabR rs st.σ n 0, st.gen⟩ := by
  rw [tabT_of h.slots n 0 (by simp [h.len]), tabR_of h.regs n 0 (by simp [h.len'])]
  rfl
theorem a_has {P : Program} {c : Code} {Q : Exit → St → Prop} {st : St} {n : Nat} {ts : List (Nat × AV)} {rs : List (Nat × Reg)} (h : Has st n ts rs) (hc : ∀ τ σ g, ASpec P c Q ⟨tabT ts τ n 0, tabR rs σ n 0, g⟩) : ASpec P c Q st := by
  rw [h.eta]; exact hc _ _ _
structure Again (I : Nat → St → Prop) (n : Nat) (st : St) : Prop where
  again : ∃ m, m < n ∧ I m st
theorem a_loop_k {P : Program} {c : Code} {Q : Exit → St → Prop} {st : St} (I : Nat → St → Prop) (n : Nat) (h0 : I n st)
    (round : ∀ n st, I n st → ∀ K : St → Prop, (∀ st', Again I n st' → K st') → ASpec P c (thenA K Q) st) : ASpec P (.loop c) Q st :=
  a_loop I (fun n st h => a_mono (round n st h _ fun _ h => h.again) fun e st' => by cases e <;> exact id) h0
theorem wrap_nat (n : Nat) (h : n < 2 ^ 62) : IntKind.wrap .i64 ((n : Int) + 1) = ((n + 1 : Nat) : Int) := by
  simp [IntKind.wrap, IntKind.bits, IntKind.signed]
  omega

structure Meets (M : St → Prop) (st : St) : Prop where
  meets : M st
theorem a_cut {P : Program} {x y : Code} {Q : Exit → St → Prop} {st : St} (M : St → Prop) (h1 : ∀ K : St → Prop, (∀ st', Meets M st' → K st') → ASpec P x (thenA K Q) st) (h2 : ∀ st', M st' → ASpec P y Q st') : ASpec P (.seq x y) Q st :=
  a_seq (a_mono (h1 M fun _ h => h.meets) fun e st' h => by cases e <;> first | exact h2 _ h | exact h)
theorem a_seq_reg {P : Program} {id : Nat} {ops : Array Oper} {b : Bool} {y : Code} {Q : Exit → St → Prop} {st : St} (h : ∀ K : St → Prop, (∀ st, ASpec P y Q st → K st) → ASpec P (.region id ops b) (thenA K Q) st) : ASpec P (.seq (.region id ops b) y) Q st := a_seq_k h

theorem tmod2 (n : Nat) : (n : Int).tmod 2 = ((n % 2 : Nat) : Int) := rfl
theorem castn0 : ((0 : Nat) : Int) = 0 := rfl
theorem castn1 : ((1 : Nat) : Int) = 1 := rfl
theorem castn2 : ((2 : Nat) : Int) = 2 := rfl
theorem castn3 : ((3 : Nat) : Int) = 3 := rfl
theorem wrap_pred (a b : Nat) (h : a + b < 2 ^ 62) : IntKind.wrap .i64 (((a + (b + 1) : Nat) : Int) - 1) = ((a + b : Nat) : Int) := by
  simp [IntKind.wrap, IntKind.bits, IntKind.signed]
  omega
theorem ne_nil_of_lt {α : Type} {n : Nat} {rest : List α} (h : (n : Int) < ((n + rest.length : Nat) : Int)) : rest ≠ [] := by rintro rfl; simp at h
theorem elOk1 (x : AV) : elOk 1 [x] = leafB x := by simp [elOk]
theorem elOk3 (x y z : AV) : elOk 3 [x, y, z] = (leafB x && (leafB y && leafB z)) := by simp [elOk]
theorem elOk4 (x y z u : AV) : elOk 4 [x, y, z, u] = (leafB x && (leafB y && (leafB z && leafB u))) := by simp [elOk]
/-! Lists cut in two. -/
theorem getD_mid {α : Type} (pre : List α) (x : α) (r : List α) (d : α) : (pre ++ x :: r).getD pre.length d = x := by simp [List.getD_eq_getElem?_getD]
theorem getD_mid_map {α β : Type} (f : β → α) (pre : List β) (x : α) (r : List α) (d : α) : (pre.map f ++ x :: r).getD pre.length d = x := by simp [List.getD_eq_getElem?_getD]
theorem at_lt (a b : Nat) : decide ((a : Int) < ((a + (b + 1) : Nat) : Int)) = true := by simp; omega
theorem at_end (a : Nat) : decide ((a : Int) < (a : Int)) = false := by simp
theorem mid_lt (a b : Nat) : ((a : Int) < ((a + (b + 1) : Nat) : Int)) = True := by simp; omega
theorem mid_lt' (a b : Nat) : (a < a + (b + 1)) = True := by simp
theorem nat_ge (a : Nat) : ((0 : Int) ≤ (a : Int)) = True := by simp
end Go.Ab
end

section
namespace Go.Ab
open Go.RowKit

inductive TT where
  | int (k : IntKind)
  | str
  | bool
  | fields (ts : List TT)
  | slice (es : Nat) (t : TT)

mutual
def treeOf (P : Program) : Nat → TypeId → Option TT
  | 0, _ => none
  | n + 1, t =>
    match P.underlying t with
    | some (.int k) => some (.int k)
    | some .string => some .str
    | some .bool => some .bool
    | some (.slice e) => if 0 < P.bytesOf e then (treeOf P n e).map (.slice (P.cellsOf e)) else none
    | some (.struct fs) => (treesOf P n 0 (P.cellsOf t) fs.toList).map .fields
    | _ => none
def treesOf (P : Program) : Nat → Nat → Nat → List Field → Option (List TT)
  | 0, _, _, _ => none
  | _ + 1, off, sz, [] => if off = sz then some [] else none
  | n + 1, off, sz, f :: fs => if f.offset = off then (treeOf P n f.type).bind fun x => (treesOf P n (off + P.cellsOf f.type) sz fs).map (x :: ·) else none
end

inductive Ty {H : Type} : TT → DataW H → List AV → Prop where
  | int {k : IntKind} {n : Int} : (Lit.int k n).wf = true → Ty (.int k) (.lit (.int k n)) [.int k n]
  | str {s : ByteArray} : s.size ≤ reachBytes → Ty .str (.lit (.string s.data.toList)) [.str s]
  | bool {b : Bool} : Ty .bool (.lit (.bool b)) [.bool b]
  | fnil : Ty (.fields []) (.agg []) []
  | fcons {t : TT} {ts : List TT} {d : DataW H} {ds : List (DataW H)} {xs ys : List AV} : Ty t d xs → Ty (.fields ts) (.agg ds) ys → Ty (.fields (t :: ts)) (.agg (d :: ds)) (xs ++ ys)
  | nil {es : Nat} {t : TT} : Ty (.slice es t) .nil [.slice []]
  | slice {es : Nat} {t : TT} {ds sp : List (DataW H)} {els : List (List AV)} : ds.length = els.length → (∀ (i : Nat) (d : DataW H) (e : List AV), ds[i]? = some d → els[i]? = some e → Ty t d e) → (∀ e ∈ els, e.length = es) → els.length ≤ reachBytes →
      Ty (.slice es t) (.slice ds sp) [.slice els]

section
variable {H : Type} {enc : TypeId × Value → H} {P : Program} {w : World}

theorem repCL_append {own : Nat → Prop} : ∀ {xs ys : List AV} {vs us : List Value}, RepCL w own xs vs → RepCL w own ys us → RepCL w own (xs ++ ys) (vs ++ us)
  | [], _, [], _, .nil, h => h
  | _ :: _, _, _ :: _, _, .cons h1 h2, h => .cons h1 (repCL_append h2 h)
theorem repCL_length {own : Nat → Prop} : ∀ {xs : List AV} {vs : List Value}, RepCL w own xs vs → xs.length = vs.length
  | [], [], .nil => rfl
  | _ :: _, _ :: _, .cons _ h => by simp [repCL_length h]

theorem addr_add_off (a : Addr) (h : a.spot = none) (n : Nat) : a.add n = ⟨a.block, a.off + n, none⟩ := by
  unfold Addr.add
  split
  · rename_i h0; subst h0; cases a; simp_all
  · rfl
theorem open_cells_at {a : Addr} {k n : Nat} {cs : List Value} (h : w.cells? 0 (a.add k) n = some cs) : cs.length = n ∧ ∀ i v, cs[i]? = some v → w.cell? ⟨a.block, a.off + k + i, none⟩ = some v := by
  obtain ⟨_, hl, hc⟩ := World.cells?_some h
  refine ⟨hl, fun i v hv => ?_⟩
  have hi : i < n := by rw [← hl]; exact (List.getElem?_eq_some_iff.1 hv).1
  have h1 : w.cell? ((a.add k).add i) = some v := (hc i hi).trans hv
  have hs := World.cell?_spot h1
  have e : ((a.add k).add i) = ⟨a.block, a.off + k + i, none⟩ := by
    unfold Addr.add at hs ⊢
    split <;> split <;> simp_all <;> (cases a; simp_all)
  rw [← e]; exact h1

theorem weightsAll_mem {e : TypeId} {d : DataW H} : ∀ {ds : List (DataW H)}, d ∈ ds → ∀ q ∈ d.weights P e, q ∈ DataW.weightsAll P e ds
  | x :: ds, h, q, hq => by
    rw [DataW.weightsAll, List.mem_append]
    rcases List.mem_cons.1 h with rfl | h
    · exact .inl hq
    · exact .inr (weightsAll_mem h q hq)

theorem opens : ∀ (n : Nat), (∀ (t : TypeId) (T : TT) (fuel : Nat) (cs : List Value) (x : DataW H × List MemPlace), treeOf P n t = some T → DataW.trod enc P w 0 (fun _ => true) true fuel t cs = some x → (∀ m ∈ x.1.weights P t, m ≤ reachBytes) →
      ∃ xs, Ty T x.1 xs ∧ RepCL w (fun _ => False) xs cs) ∧
    (∀ (off sz : Nat) (fs : List Field) (Ts : List TT) (fuel : Nat) (cs : List Value) (xs : List (DataW H × List MemPlace)), treesOf P n off sz fs = some Ts → cs.length = sz → off ≤ sz → xs.length = fs.length →
      (∀ (i : Nat) (f : Field), fs[i]? = some f → DataW.trod enc P w 0 (fun _ => true) true fuel f.type ((cs.drop f.offset).take (P.cellsOf f.type)) = xs[i]?) → (∀ m ∈ DataW.weightsEach P (fs.map (·.type)) (xs.map (·.1)), m ≤ reachBytes) →
      ∃ ys, Ty (.fields Ts) (.agg (xs.map (·.1))) ys ∧ RepCL w (fun _ => False) ys (cs.drop off))
  | 0 => ⟨fun _ _ _ _ _ h => by simp [treeOf] at h, fun _ _ _ _ _ _ _ h => by simp [treesOf] at h⟩
  | n + 1 => by
    obtain ⟨ih1, ih2⟩ := opens n
    refine ⟨fun t T fuel cs x hT hx hwt => ?_, fun off sz fs Ts fuel cs xs hT hl ho hn hf hwt => ?_⟩
    · rw [treeOf] at hT
      split at hT
      · rename_i k hu
        obtain ⟨z, rfl, rfl, hw⟩ := DataW.trod_int hu hx
        cases hT
        exact ⟨[.int k z], .int hw, .cons (.int _ _) .nil⟩
      · rename_i hu
        obtain ⟨s, rfl, rfl, hs⟩ := DataW.trod_string hu hx
        cases hT
        exact ⟨[.str s], .str (hwt _ (by simp [DataW.weights])), .cons (.str _) .nil⟩
      · rename_i hu
        obtain ⟨b, rfl, rfl⟩ := DataW.trod_bool hu hx
        cases hT
        exact ⟨[.bool b], .bool, .cons (.bool _) .nil⟩
      · rename_i e hu
        split at hT
        case isFalse => cases hT
        rename_i hbp
        simp only [Option.map_eq_some_iff] at hT
        obtain ⟨T', hT', rfl⟩ := hT
        rcases DataW.trod_slice hu hx with ⟨rfl, rfl⟩ | ⟨a, len, cap, elems, rest, m, rfl, rfl, rfl, _, hlc, hcm, hlen, hel, _⟩
        · exact ⟨[.slice []], .nil, .cons .slice0 .nil⟩
        · simp only [DataW.weights, hu, List.mem_cons, List.mem_append, forall_eq_or_imp, List.length_map] at hwt
          have hlw : elems.length ≤ reachBytes := by
            have h1 : elems.length + rest.length ≤ (elems.length + rest.length) * P.bytesOf e := Nat.le_mul_of_pos_right _ hbp
            have := hwt.1
            omega
          have hk : ∀ k, k ≤ len → ∃ (els : List (List AV)) (vs : List Value), els.length = k ∧ RepCL w (fun _ => False) els.flatten vs ∧ vs.length = k * P.cellsOf e ∧
              (∀ e' ∈ els, e'.length = P.cellsOf e) ∧ (∀ j v, vs[j]? = some v → w.cell? ⟨a.block, a.off + j, none⟩ = some v) ∧ ((vs ≠ []) → a.spot = none) ∧
              (∀ (i : Nat) (d : DataW H) (e' : List AV), (elems.map (·.1))[i]? = some d → els[i]? = some e' → Ty T' d e') := by
            intro k
            induction k with
            | zero => intro _; exact ⟨[], [], rfl, .nil, by simp, by simp, by simp, by simp, by simp⟩
            | succ k ih =>
              intro hk
              obtain ⟨els, vs, h1, h2, h3, h4, h5, h6, h7⟩ := ih (by omega)
              have hc := hel k (by omega)
              obtain ⟨y, hy⟩ : ∃ y, elems[k]? = some y := ⟨elems[k]'(by omega), List.getElem?_eq_getElem _⟩
              rw [hy] at hc
              simp only [Option.bind_eq_some_iff] at hc
              obtain ⟨c1, hc1, hy1⟩ := hc
              obtain ⟨hl1, hcell⟩ := open_cells_at hc1
              obtain ⟨zs, hz1, hz2⟩ := ih1 e T' m c1 y hT' hy1 (fun q hq => hwt.2 q (.inl (weightsAll_mem (List.mem_map.2 ⟨y, List.mem_of_getElem? hy, rfl⟩) q hq)))
              have hzl : zs.length = P.cellsOf e := by rw [repCL_length hz2, hl1]
              refine ⟨els ++ [zs], vs ++ c1, by simp [h1], by simpa using repCL_append h2 hz2, by simp [h3, hl1, Nat.add_mul], ?_, ?_, ?_, ?_⟩
              · intro e' he'
                rcases List.mem_append.1 he' with he' | he'
                · exact h4 _ he'
                · rw [List.mem_singleton.1 he']; exact hzl
              · intro j v hv
                by_cases hj : j < vs.length
                · rw [List.getElem?_append_left hj] at hv; exact h5 j v hv
                · rw [List.getElem?_append_right (by omega)] at hv
                  have := hcell _ v hv
                  rw [h3] at this hj
                  rw [show a.off + j = a.off + k * P.cellsOf e + (j - k * P.cellsOf e) by omega]; exact this
              · intro hne
                by_cases hv : vs = []
                · subst hv
                  obtain ⟨v, hv⟩ : ∃ v, c1[0]? = some v := by
                    cases c1 with
                    | nil => simp at hne
                    | cons v _ => exact ⟨v, rfl⟩
                  have h9 : w.cell? ((a.add (k * P.cellsOf e)).add 0) = some v := ((World.cells?_some hc1).2.2 0 (by rw [← hl1]; exact (List.getElem?_eq_some_iff.1 hv).1)).trans hv
                  have hpos : 0 < P.cellsOf e := by rw [← hl1]; exact (List.getElem?_eq_some_iff.1 hv).1
                  have hk0 : k = 0 := by
                    have : k * P.cellsOf e = 0 := by simpa using h3.symm
                    rcases Nat.mul_eq_zero.1 this with h | h
                    · exact h
                    · omega
                  subst hk0
                  have := World.cell?_spot h9
                  simpa [Addr.add] using this
                · exact h6 hv
              · intro i d e' hd he'
                by_cases hi : i < els.length
                · rw [List.getElem?_append_left hi] at he'; exact h7 i d e' hd he'
                · rw [List.getElem?_append_right (by omega)] at he'
                  have hi2 : i = k := by
                    have : i - els.length < 1 := (List.getElem?_eq_some_iff.1 he').1
                    omega
                  subst hi2
                  rw [h1, Nat.sub_self] at he'
                  simp only [List.getElem?_cons_zero, Option.some.injEq] at he'
                  subst he'
                  rw [List.getElem?_map, hy] at hd
                  simp only [Option.map_some, Option.some.injEq] at hd
                  subst hd
                  exact hz1
          obtain ⟨els, vs, h1, h2, h3, h4, h5, h6, h7⟩ := hk len (Nat.le_refl _)
          refine ⟨[.slice els], .slice (by simp [hlen, h1]) h7 h4 (by omega), .cons ?_ .nil⟩
          rw [← h1]
          exact .slice h4 h2 ⟨h6, fun j v hj => ⟨id, h5 j v hj⟩⟩ (by omega)
      · rename_i fs hu
        simp only [Option.map_eq_some_iff] at hT
        obtain ⟨Ts, hT', rfl⟩ := hT
        obtain ⟨xs, m, rfl, rfl, hl, hlen, hf⟩ := DataW.trod_struct hu hx
        obtain ⟨ys, hy1, hy2⟩ := ih2 0 (P.cellsOf t) fs.toList Ts m cs xs hT' hl (Nat.zero_le _) (by simpa using hlen) (fun i f hi => hf i f (by simpa using hi)) (by simpa only [DataW.weights, hu] using hwt)
        exact ⟨ys, hy1, by simpa using hy2⟩
      · cases hT
    · cases fs with
      | nil =>
        rw [treesOf] at hT
        split at hT
        · cases hT
          obtain rfl := List.eq_nil_of_length_eq_zero (by simpa using hn)
          exact ⟨[], .fnil, by rw [List.drop_eq_nil_of_le (by omega)]; exact .nil⟩
        · cases hT
      | cons f fs =>
        rw [treesOf] at hT
        split at hT
        · rename_i hfo
          simp only [Option.bind_eq_some_iff, Option.map_eq_some_iff] at hT
          obtain ⟨T, hT1, Ts', hT2, rfl⟩ := hT
          cases xs with
          | nil => simp at hn
          | cons y xs =>
            have hy := hf 0 f rfl
            simp only [List.getElem?_cons_zero] at hy
            simp only [List.map_cons, DataW.weightsEach, List.mem_append] at hwt
            obtain ⟨zs, hz1, hz2⟩ := ih1 f.type T fuel _ y hT1 hy (fun q hq => hwt q (.inl hq))
            have hzl : zs.length = ((cs.drop f.offset).take (P.cellsOf f.type)).length := repCL_length hz2
            by_cases hle : off + P.cellsOf f.type ≤ sz
            · obtain ⟨ys, hy1, hy2⟩ := ih2 (off + P.cellsOf f.type) sz fs Ts' fuel cs xs hT2 hl hle (by simpa using hn) (fun i g hi => by have := hf (i + 1) g (by simpa using hi); simpa using this) (fun q hq => hwt q (.inr hq))
              refine ⟨zs ++ ys, .fcons hz1 hy1, ?_⟩
              rw [← List.take_append_drop (P.cellsOf f.type) (cs.drop off), List.drop_drop]
              rw [hfo] at hz2
              exact repCL_append hz2 hy2
            · exact absurd (treesOf_le hT2) hle
        · cases hT
where
  treesOf_le {P : Program} : ∀ {n off sz : Nat} {fs : List Field} {Ts : List TT}, treesOf P n off sz fs = some Ts → off ≤ sz
  | 0, _, _, _, _, h => by simp [treesOf] at h
  | n + 1, off, sz, [], _, h => by
    rw [treesOf] at h
    split at h
    · omega
    · cases h
  | n + 1, off, sz, f :: fs, _, h => by
    rw [treesOf] at h
    split at h
    · simp only [Option.bind_eq_some_iff, Option.map_eq_some_iff] at h
      obtain ⟨_, _, Ts', h2, _⟩ := h
      have := treesOf_le h2
      omega
    · cases h

def packT : TT → List AV → AV
  | .fields _, xs => .agg xs
  | _, xs => xs.headD .any
theorem open_arg {n : Nat} {t : TypeId} {T : TT} {b0 : Nat} {v : Value} {d : DataW H} {ps : List MemPlace} (hT : treeOf P n t = some T) (hv : Value.okWide P w .any b0 t v) (h : DataW.Trod enc P w 0 (fun _ => true) true t v d ps) (hwt : ∀ m ∈ d.weights P t, m ≤ reachBytes) :
    ∃ xs, Ty T d xs ∧ RepC w (fun _ => False) (packT T xs) v := by
  obtain ⟨fuel, h⟩ := h
  obtain ⟨xs, h1, h2⟩ := (opens n).1 t T fuel _ _ hT h hwt
  refine ⟨xs, h1, ?_⟩
  cases n with
  | zero => simp [treeOf] at hT
  | succ n =>
    have plain : (∀ cs, v ≠ .agg cs) → v.cells.toList = [v] := fun hne => by
      cases v <;> first | rfl | exact absurd rfl (hne _)
    have one : ∀ x, v.cells.toList = [v] → xs = [x] → RepC w (fun _ => False) x v := fun x hc hx => by
      rw [hc, hx] at h2
      cases h2 with
      | cons h3 _ => exact h3
    rw [treeOf] at hT
    split at hT
    · rename_i k hu
      cases hT
      cases h1
      exact one _ (plain fun cs e => by subst e; simp [Value.okWide, hu, Cell.okWide, Cell.ok] at hv) rfl
    · rename_i hu
      cases hT
      cases h1
      exact one _ (plain fun cs e => by subst e; simp [Value.okWide, hu, Cell.okWide, Cell.ok] at hv) rfl
    · rename_i hu
      cases hT
      cases h1
      exact one _ (plain fun cs e => by subst e; simp [Value.okWide, hu, Cell.okWide, Cell.ok] at hv) rfl
    · rename_i e hu
      split at hT
      case isFalse => cases hT
      simp only [Option.map_eq_some_iff] at hT
      obtain ⟨T', _, rfl⟩ := hT
      have hp := plain fun cs e => by subst e; simp [Value.okWide, hu, Cell.okWide, Cell.ok] at hv
      cases h1 with
      | nil => exact one _ hp rfl
      | slice _ _ _ _ => exact one _ hp rfl
    · rename_i fs hu
      simp only [Option.map_eq_some_iff] at hT
      obtain ⟨Ts, _, rfl⟩ := hT
      simp only [Value.okWide, hu] at hv
      obtain ⟨cs, rfl, _, _⟩ := hv
      have := RepC.agg h2
      simpa [packT, Value.cells] using this
    · cases hT
theorem ty_list {α : Type} (f : α → List AV) (Q : α → Prop) {es : Nat} {t : TT} (hT : ∀ (d : DataW H) (e : List AV), Ty t d e → ∃ a, e = f a ∧ Q a) {d : DataW H} {xs : List AV} (h : Ty (.slice es t) d xs) :
    ∃ l : List α, xs = [.slice (l.map f)] ∧ (∀ a ∈ l, Q a) ∧ l.length ≤ reachBytes := by
  cases h with
  | nil => exact ⟨[], rfl, by simp, by simp⟩
  | slice h1 h2 h3 h4 =>
    rename_i ds sp els
    have : ∀ (els : List (List AV)) (ds : List (DataW H)), ds.length = els.length → (∀ (i : Nat) (d : DataW H) (e : List AV), ds[i]? = some d → els[i]? = some e → Ty t d e) → ∃ l : List α, els = l.map f ∧ ∀ a ∈ l, Q a := by
      intro els
      induction els with
      | nil => intro _ _ _; exact ⟨[], rfl, by simp⟩
      | cons e els ih =>
        intro ds hl hd
        cases ds with
        | nil => simp at hl
        | cons d ds =>
          obtain ⟨a, rfl, ha⟩ := hT d e (hd 0 d e rfl rfl)
          obtain ⟨l, rfl, hq⟩ := ih ds (by simpa using hl) (fun i d e h1 h2 => hd (i + 1) d e (by simpa using h1) (by simpa using h2))
          exact ⟨a :: l, rfl, by intro b hb; rcases List.mem_cons.1 hb with rfl | hb; exact ha; exact hq b hb⟩
    obtain ⟨l, rfl, hl⟩ := this els ds h1 h2
    exact ⟨l, rfl, hl, by simpa using h4⟩

theorem trodAll_below (hl : laidOutB P = true) {W W' : World} (hb : Below W.heap.size W W') (sp : Nat → Bool) : ∀ {ts : List TypeId} {vs : List Value} {ds : List (DataW H)} {ps : List MemPlace}, (ts.all fun t => P.readableRec t && decide (t < P.types.size)) = true →
    DataW.TrodAll enc P W 0 (fun _ => true) true ts vs ds ps → (∀ x ∈ ps, x.block < W.heap.size) → (∀ x ∈ ps, sp x.block = true) → DataW.TrodAll enc P W' 0 sp true ts vs ds ps
  | [], [], [], _, _, h, _, _ => h
  | t :: ts, v :: vs, d :: ds, ps, hr, ⟨p, q, h1, h2, e⟩, hlt, hs => by
    simp only [List.all_cons, Bool.and_eq_true, decide_eq_true_eq] at hr
    refine ⟨p, q, WideElems.Trod_stays hl hr.1.1 hr.1.2 h1 (fun x hx => hb.same (hlt x (by rw [e]; exact List.mem_append_left _ hx))) (fun x hx => hs x (by rw [e]; exact List.mem_append_left _ hx)), ?_, e⟩
    exact trodAll_below hl hb sp hr.2 h2 (fun x hx => hlt x (by rw [e]; exact List.mem_append_right _ hx)) (fun x hx => hs x (by rw [e]; exact List.mem_append_right _ hx))

theorem post_true {f : Func} {s : ChangeSpec} {apart fresh handsOn again : Bool} {W W' : World} {args : Array Value} {ds gs : List (DataW H)} {before : List MemPlace} {tb : TypeId}
    (hl : laidOutB P = true) (hr : (f.params.toList.all fun t => P.readableRec t && decide (t < P.types.size)) = true) (hrt : f.resultTypes = #[tb]) (hb : P.underlying tb = some .bool) (hv : s.vars = [])
    (hfn : s.fn H (ds ++ gs) = { results := [.lit (.bool true)], args := ds })
    (hW : DataW.Whole enc P f.params.toList s.vars apart W args.toList ds gs before) (hB : Below W.heap.size W W') :
    s.post enc P f apart fresh handsOn again W args (.bool true) W' := by
  have hW' := hW
  obtain ⟨p, q, hA, hV, he, hz, hn⟩ := hW
  rw [hv] at hV
  obtain ⟨rfl, rfl⟩ : gs = [] ∧ q = [] := by
    cases gs with
    | nil => exact ⟨rfl, hV⟩
    | cons g r => exact absurd hV (by intro h; cases h)
  have hlt : ∀ x ∈ p, x.block < W.heap.size := fun x hx => hW'.lt x (by rw [he]; simpa using hx)
  have hR : ∀ b sp hd, DataW.TrodAll enc P W' b sp hd f.resultTypes.toList ((Value.bool true).resultList f.resultTypes.size) (s.fn H (ds ++ [])).results [] := by
    intro b sp hd
    rw [hrt, hfn]
    exact ChangeShapes.trodAll_mk1 (RowKit.shut_bool hb true)
  have hA' : ∀ sp, (∀ x ∈ p, sp x.block = true) → DataW.TrodAll enc P W' 0 sp true f.params.toList args.toList (s.fn H (ds ++ [])).args p := fun sp hs => by
    rw [hfn]; exact trodAll_below hl hB sp hr hA hlt hs
  have hV' : ∀ sp, DataW.TrodVars enc P W' sp s.vars (s.fn H (ds ++ [])).vars [] := fun sp => by rw [hv, hfn]; rfl
  refine ⟨ds, [], before, [], p, [], hW', hR _ _ _, hA' _ (fun x hx => by simpa using hlt x hx), hV' _, hB.frame _, fun _ => ⟨?_, _, [], [] ++ p, ⟨[] ++ p, [], ChangeShapes.trodAll_append (hA' _ (fun _ _ => rfl)) (hR _ _ _), hv ▸ rfl, by simp, ?_, ?_⟩, ?_⟩⟩
  · intro j t r hj hr'
    rw [hrt] at hj hr'
    match j, hj, hr' with
    | 0, hj, hr' =>
      simp [Value.resultList] at hj hr'
      subst hj; subst hr'
      simp [Value.okWide, hb, Cell.okWide, Cell.ok]
  · intro b off hp
    have hp' : MemPlace.cell b off ∈ p := by simpa using hp
    have h1 := hlt _ hp'
    rw [hB.frozen (p := ⟨b, off, none⟩) h1]
    exact hz b off (by rw [he]; simpa using hp')
  · intro ha
    have := hn ha
    rw [he] at this
    simpa using this
  · intro x hx _
    rw [he]
    simpa using hx
end
end Go.Ab
end
