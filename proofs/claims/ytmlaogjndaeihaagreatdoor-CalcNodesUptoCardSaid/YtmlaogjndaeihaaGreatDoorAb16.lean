/- The rules in the shape that a short script drives. -/
import Derived.Test.YtmlaogjndaeihaaGreatDoorAb15
namespace Go.Ab
structure ConfOk (ops : List Oper) (acc : List Foot) : Prop where
  conf : confB ops acc = true
structure RetOk (P : Program) (rs : List ResultVar) (r : AV) (e : Exit) (st : St) : Prop where
  ret : retA P rs r e st
section
variable {P : Program} {st : St} {Q : Exit → St → Prop}
/-- A call, and the operations behind it, left alone till its answer is known. -/
def CallS (P : Program) (ops : Array Oper) (Q : St → Prop) (rest : List Oper) (st : St) (dst : Option Tmp) (ks : List Nat) (f : FuncId) (args : List AV) : Prop :=
  CallA P f args fun r => aops P ops Q rest (st.after dst ⟨r, if scalarB r then [] else killed ks, ks⟩)
def CallD (P : Program) (ops : Array Oper) (Q : List Foot → St → Prop) (rest : List Oper) (acc : List Foot) (st : St) (dst : Option Tmp) (ks : List Nat) (f : FuncId) (args : List AV) : Prop :=
  CallA P f args fun r => aopsD P ops Q rest ((⟨r, if scalarB r then [] else killed ks, ks⟩ : Res).foot :: acc) (st.after dst ⟨r, if scalarB r then [] else killed ks, ks⟩)
def stepS (P : Program) (ops : Array Oper) (Q : St → Prop) (o : Oper) (rest : List Oper) (st : St) : Prop :=
  match pureOp P (opnd st.τ) o.op with
  | some (pre, v) => pre ∧ aops P ops Q rest (st.after o.dst ⟨v, [], []⟩)
  | none => match memOp P (opnd st.τ) st.σ st.gen o.dst o.op with
    | some (pre, r) => pre ∧ aops P ops Q rest (st.after o.dst r)
    | none => match callOf (opnd st.τ) o.op with
      | some (f, args) => match closeL (closeV st.σ 4) args with
        | some (args', ks) => CallS P ops Q rest st o.dst ks f args'
        | none => False
      | none => match litA P (opnd st.τ) st.σ st.gen o.dst o.op with
        | some r => aops P ops Q rest (st.after o.dst r)
        | none => False
def stepD (P : Program) (ops : Array Oper) (Q : List Foot → St → Prop) (o : Oper) (rest : List Oper) (acc : List Foot) (st : St) : Prop :=
  match pureOp P (opnd st.τ) o.op with
  | some (pre, v) => pre ∧ aopsD P ops Q rest ((⟨v, [], []⟩ : Res).foot :: acc) (st.after o.dst ⟨v, [], []⟩)
  | none => match memOp P (opnd st.τ) st.σ st.gen o.dst o.op with
    | some (pre, r) => pre ∧ aopsD P ops Q rest (r.foot :: acc) (st.after o.dst r)
    | none => match callOf (opnd st.τ) o.op with
      | some (f, args) => match closeL (closeV st.σ 4) args with
        | some (args', ks) => CallD P ops Q rest acc st o.dst ks f args'
        | none => False
      | none => match litA P (opnd st.τ) st.σ st.gen o.dst o.op with
        | some r => aopsD P ops Q rest (r.foot :: acc) (st.after o.dst r)
        | none => False
/-- Where a guard parts the ways; a guard that is known parts nothing. -/
def parts (b want : Bool) (p q : Prop) : Prop := (b = want → p) ∧ (b = !want → q)
theorem parts_tt {p q : Prop} : parts true true p q = p := by simp [parts]
theorem parts_ff {p q : Prop} : parts false false p q = p := by simp [parts]
theorem parts_tf {p q : Prop} : parts true false p q = q := by simp [parts]
theorem parts_ft {p q : Prop} : parts false true p q = q := by simp [parts]
theorem parts_eq {b want : Bool} {p q : Prop} : parts b want p q = ((b = want → p) ∧ (b = !want → q)) := rfl
theorem aops_nil {ops : Array Oper} {Q : St → Prop} : aops P ops Q [] st = Q ⟨st.τ, st.σ, st.gen + 1⟩ := rfl
theorem aops_cons {ops : Array Oper} {Q : St → Prop} {o : Oper} {rest : List Oper} : aops P ops Q (o :: rest) st =
    match o.guard with
    | none => stepS P ops Q o rest st
    | some (j, want) => match gval ops st.τ j with
      | some (some b) => parts b want (stepS P ops Q o rest (st.learn ops j want)) (aops P ops Q rest ((st.learn ops j (!want)).after o.dst skipR))
      | some none => aops P ops Q rest (st.after o.dst skipR)
      | none => False := rfl
theorem aopsD_nil {ops : Array Oper} {Q : List Foot → St → Prop} {acc : List Foot} : aopsD P ops Q [] acc st = Q acc.reverse ⟨st.τ, st.σ, st.gen + 1⟩ := rfl
theorem aopsD_cons {ops : Array Oper} {Q : List Foot → St → Prop} {o : Oper} {rest : List Oper} {acc : List Foot} : aopsD P ops Q (o :: rest) acc st =
    match o.guard with
    | none => stepD P ops Q o rest acc st
    | some (j, want) => match gval ops st.τ j with
      | some (some b) => parts b want (stepD P ops Q o rest acc (st.learn ops j want)) (aopsD P ops Q rest (([], []) :: acc) ((st.learn ops j (!want)).after o.dst skipR))
      | some none => aopsD P ops Q rest (([], []) :: acc) (st.after o.dst skipR)
      | none => False := rfl
theorem CallS.intro {ops : Array Oper} {Q : St → Prop} {rest : List Oper} {dst : Option Tmp} {ks : List Nat} {f : FuncId} {args : List AV} {r : AV} (h : ACalls P f args r) (k : aops P ops Q rest (st.after dst ⟨r, if scalarB r then [] else killed ks, ks⟩)) : CallS P ops Q rest st dst ks f args := ⟨r, h, k⟩
theorem CallD.intro {ops : Array Oper} {Q : List Foot → St → Prop} {rest : List Oper} {acc : List Foot} {dst : Option Tmp} {ks : List Nat} {f : FuncId} {args : List AV} {r : AV} (h : ACalls P f args r) (k : aopsD P ops Q rest ((⟨r, if scalarB r then [] else killed ks, ks⟩ : Res).foot :: acc) (st.after dst ⟨r, if scalarB r then [] else killed ks, ks⟩)) : CallD P ops Q rest acc st dst ks f args := ⟨r, h, k⟩
theorem aopsD_mono {ops : Array Oper} {Q Q' : List Foot → St → Prop} (h : ∀ acc st, Q acc st → Q' acc st) {l : List Oper} {acc : List Foot} {st : St} (hq : aopsD P ops Q l acc st) : aopsD P ops Q' l acc st := by
  induction l generalizing acc st with
  | nil => exact h _ _ hq
  | cons o l ih =>
    simp only [aopsD] at hq ⊢
    have hs : ∀ st, stepA P st o (fun r => aopsD P ops Q l (r.foot :: acc) (st.after o.dst r)) → stepA P st o (fun r => aopsD P ops Q' l (r.foot :: acc) (st.after o.dst r)) := by
      intro st h1
      unfold stepA at h1 ⊢
      split at h1
      · exact ⟨h1.1, ih h1.2⟩
      · split at h1
        · exact ⟨h1.1, ih h1.2⟩
        · split at h1
          · split at h1
            · obtain ⟨r, h2, h3⟩ := h1; exact ⟨r, h2, ih h3⟩
            · exact h1
          · split at h1
            · exact ih h1
            · exact h1
    unfold gateA at hq ⊢
    split at hq
    · exact hs _ hq
    · split at hq
      · exact ⟨fun e => hs _ (hq.1 e), fun e => ih (hq.2 e)⟩
      · exact ih hq
      · exact hq
theorem a_draw {id : Nat} {ops : Array Oper} (hm : P.follows .mixedOrders = true) (hok : drawOk ops.toList = true)
    (h : ∀ C : List Foot → Prop, (∀ acc, ConfOk ops.toList acc → C acc) → aopsD P ops (fun acc st => C acc ∧ Q .normal st) ops.toList [] st) : ASpec P (.region id ops true) Q st :=
  a_region_draw hm hok (aopsD_mono (fun _ _ h => ⟨h.1.conf, h.2⟩) (h (fun acc => ConfOk ops.toList acc) fun _ h => h))
/-- What is learnt where the code parts. -/
def learnT (st : St) (c : Operand) (b : Bool) : St :=
  match c with
  | .tmp t => ⟨st.τ.set t (.bool b), st.σ, st.gen⟩
  | _ => st
theorem learnT_same {c : Operand} {b : Bool} (h : opnd st.τ c = .bool b) : learnT st c b = st := by
  unfold learnT
  split
  · rename_i t
    simp only [opnd] at h
    have hlt : t < st.τ.length := by
      rcases Nat.lt_or_ge t st.τ.length with hl | hl
      · exact hl
      · rw [List.getD_eq_getElem?_getD, List.getElem?_eq_none hl] at h; cases h
    rw [List.getD_eq_getElem?_getD, List.getElem?_eq_getElem hlt, Option.getD_some] at h
    rw [← h, List.set_getElem_self]
  · rfl
theorem a_cond_k {c : Operand} {x y : Code} (h : ∀ X Y : St → Prop, (∀ st, ASpec P x Q st → X st) → (∀ st, ASpec P y Q st → Y st) → match opnd st.τ c with | .bool b => (b = true → X (learnT st c true)) ∧ (b = false → Y (learnT st c false)) | _ => False) : ASpec P (.cond c x y) Q st := by
  have h := h _ _ (fun _ h => h) (fun _ h => h)
  split at h
  · rename_i b hb
    refine a_cond hb (fun e => ?_) (fun e => ?_)
    · subst e; have := h.1 rfl; rwa [learnT_same hb] at this
    · subst e; have := h.2 rfl; rwa [learnT_same hb] at this
  · exact h.elim
theorem acalls_k {f : FuncId} {fn : Func} {c : Code} {args : List AV} {r : AV} (hf : P.funcs[f]? = some fn) (hb : fn.body = some c) (hname : (fn.name == "runtime.NumGoroutine") = false) {rs : List ResultVar} (hrs : fn.results.toList = rs) {n : Nat} (hn : fn.ntmps = n)
    (h : ∀ R : Exit → St → Prop, (∀ e st, RetOk P rs r e st → R e st) → ASpec P c R (st0 n args)) : ACalls P f args r := acalls_of hf hb hname hrs hn (h _ fun _ _ h => h.ret)
end
end Go.Ab
