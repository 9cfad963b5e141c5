/- The frame's own memory, and the operations that touch it: their meaning on trees. -/
import Derived.Test.YtmlaogjndaeihaaGreatDoorAb3
namespace Go.Ab

inductive Reg where
  | box (g : Nat) (cs : List AV)
  | row (g es : Nat) (els : List (List AV))
  | mapr (g : Nat) (ents : List (AV × AV))
  deriving Inhabited
def Reg.g : Reg → Nat
  | .box g _ | .row g _ _ | .mapr g _ => g

abbrev Sto := List (Option Reg)
structure St where
  τ : List AV
  σ : Sto
  gen : Nat
  deriving Inhabited

def lookBox (σ : Sto) (k g : Nat) : Option (List AV) :=
  match σ.getD k none with
  | some (.box g' cs) => if g = g' then some cs else none
  | _ => none
def lookRow (σ : Sto) (k g : Nat) : Option (Nat × List (List AV)) :=
  match σ.getD k none with
  | some (.row g' es els) => if g = g' then some (es, els) else none
  | _ => none
def lookMap (σ : Sto) (k g : Nat) : Option (List (AV × AV)) :=
  match σ.getD k none with
  | some (.mapr g' ents) => if g = g' then some ents else none
  | _ => none

/-- What an operation gives: the slot's value, the regions it lays anew (or drops), the regions it looked at. -/
structure Res where
  v : AV
  upd : List (Nat × Option Reg)
  reads : List Nat
  deriving Inhabited

/-- The cells of a variable may hold it. -/
def leafB : AV → Bool
  | .agg _ | .tuple _ | .any | .lit (.agg _) | .lit (.tuple _) => false
  | _ => true
/-- It leans on no own memory (told by its head). -/
def closedB : AV → Bool
  | .bool _ | .int .. | .str _ | .slice _ | .nils | .cptr _ | .nilFunc | .lit _ | .func _ [] => true
  | _ => false
def scalarL : List AV → Bool
  | [] => true
  | .bool _ :: xs | .int .. :: xs | .str _ :: xs | .nilFunc :: xs | .nils :: xs | .lit _ :: xs => scalarL xs
  | _ => false
/-- It leans on no memory at all. -/
def scalarB : AV → Bool
  | .bool _ | .int .. | .str _ | .nilFunc | .nils | .lit _ => true
  | .agg cs | .tuple cs => scalarL cs
  | _ => false

def okSize (P : Program) (t : TypeId) : Bool := match (ti P t).d with | .other => false | _ => true

def buildEls (ρ : Operand → AV) (es : Nat) : Nat → List (Nat × Operand) → Option (List (List AV))
  | _, [] => some []
  | i, (j, x) :: rest =>
    match cellsA (ρ x), buildEls ρ es (i + 1) rest with
    | some xs, some l => if i = j ∧ xs.length = es ∧ xs.all closedB = true then some (xs :: l) else none
    | _, _ => none
/-- The elements of what is appended. -/
def srcEls (σ : Sto) : AV → Option (List (List AV) × List Nat)
  | .slice els => some (els, [])
  | .nils => some ([], [])
  | .view k g => match lookRow σ k g with | some (_, els) => some (els, [k]) | none => none
  | _ => none

def loadM (P : Program) (σ : Sto) (t : TypeId) : AV → Option (Prop × Res)
  | .ptr k g off => match lookBox σ k g with
    | some cs => if off + (ti P t).size ≤ cs.length ∧ ((ti P t).agg = true ∨ 0 < (ti P t).size) ∧ okSize P t = true then some (True, ⟨partA cs off (ti P t).size (ti P t).agg, [], [k]⟩) else none
    | none => none
  | .cptr cs => if (ti P t).size ≤ cs.length ∧ ((ti P t).agg = true ∨ 0 < (ti P t).size) ∧ okSize P t = true then some (True, ⟨partA cs 0 (ti P t).size (ti P t).agg, [], []⟩) else none
  | .rptr k g es i off => match lookRow σ k g with
    | some (es', els) => if es = es' ∧ off + (ti P t).size ≤ (els.getD i []).length ∧ ((ti P t).agg = true ∨ 0 < (ti P t).size) ∧ okSize P t = true then some (True, ⟨partA (els.getD i []) off (ti P t).size (ti P t).agg, [], [k]⟩) else none
    | none => none
  | _ => none
def storeM (P : Program) (σ : Sto) (t : TypeId) (x : AV) : AV → Option (Prop × Res)
  | .ptr k g off => match lookBox σ k g, cellsA x with
    | some cs, some xs => if xs.length = (ti P t).size ∧ off + xs.length ≤ cs.length ∧ xs.all leafB = true ∧ okSize P t = true then some (True, ⟨.any, [(k, some (.box g (setA cs off xs)))], [k]⟩) else none
    | _, _ => none
  | .rptr k g es i off => match lookRow σ k g, cellsA x with
    | some (es', els), some xs => if es = es' ∧ xs.length = (ti P t).size ∧ off + xs.length ≤ (els.getD i []).length ∧ xs.all closedB = true ∧ xs.all leafB = true ∧ okSize P t = true then
        some (i < els.length, ⟨.any, [(k, some (.row g es (els.set i (setA (els.getD i []) off xs))))], [k]⟩) else none
    | _, _ => none
  | _ => none
/-- An element may be laid into a row. -/
def elOk (s : Nat) (y : List AV) : Bool := y.length == s && y.all leafB
def appendM (P : Program) (σ : Sto) (gen d : Nat) (e : TypeId) (s x : AV) : Option (Prop × Res) :=
  match srcEls σ x, s with
  | some (els2, ks), .nils => if okSize P e = true ∧ ((ti P e).zero.map List.length) = some (ti P e).size then some ((∀ y ∈ els2, elOk (ti P e).size y = true) ∧ els2.length * (ti P e).bytes ≤ 70368744177664 ∧ els2.length ≤ 70368744177664, ⟨.view d gen, [(d, some (.row gen (ti P e).size els2))], ks⟩) else none
  | some (els2, ks), .view k g => match lookRow σ k g with
    | some (es, els) => if es = (ti P e).size ∧ okSize P e = true ∧ ((ti P e).zero.map List.length) = some (ti P e).size then
        some ((∀ y ∈ els2, elOk (ti P e).size y = true) ∧ (els.length + els2.length) * (ti P e).bytes ≤ 70368744177664 ∧ els.length + els2.length ≤ 70368744177664, ⟨.view d gen, [(k, none), (d, some (.row gen es (els ++ els2)))], k :: ks⟩) else none
    | none => none
  | _, _ => none
def lookupA (k zero : AV) : List (AV × AV) → Option (AV × Bool)
  | [] => some (zero, false)
  | (k0, v0) :: rest => match leafEq k k0, lookupA k zero rest with
    | some b, some (v, f) => some (pickV b v0 v, b || f)
    | _, _ => none
def zeroA (P : Program) (t : TypeId) : Option AV := ((P.info? t).bind (·.zero)).map ofConst

def memOp (P : Program) (ρ : Operand → AV) (σ : Sto) (gen : Nat) (dst : Option Tmp) (op : Op) : Option (Prop × Res) :=
  match op, dst with
  | .load t a, _ => loadM P σ t (ρ a)
  | .store t a x, _ => storeM P σ t (ρ x) (ρ a)
  | .alloc t, some d => match (ti P t).zero with | some z => if okSize P t = true then some (True, ⟨.ptr d gen 0, [(d, some (.box gen z))], []⟩) else none | none => none
  | .box t x, some d => match cellsA (ρ x) with | some xs => if okSize P t = true then some (True, ⟨.ptr d gen 0, [(d, some (.box gen xs))], []⟩) else none | none => none
  | .makeSlice t l c, some d =>
    match (ti P t).d, ρ l, ρ c with
    | .slice e, .int _ n, .int _ m =>
      match (ti P e).zero with
      | some z => if okSize P e = true ∧ z.length = (ti P e).size ∧ z.all closedB = true then some (0 ≤ n ∧ n ≤ m ∧ m * (ti P e).bytes ≤ 2 ^ 46 ∧ m ≤ 2 ^ 46, ⟨.view d gen, [(d, some (.row gen (ti P e).size (List.replicate n.toNat z)))], []⟩) else none
      | none => none
    | _, _, _ => none
  | .buildSlice t len parts, some d =>
    match (ti P t).d with
    | .slice e =>
      match buildEls ρ (ti P e).size 0 parts.toList, (ti P e).zero with
      | some els, some z => if els.length = len ∧ okSize P e = true ∧ len * (ti P e).size ≤ 2 ^ 24 ∧ z.length = (ti P e).size then some (True, ⟨.view d gen, [(d, some (.row gen (ti P e).size els))], []⟩) else none
      | _, _ => none
    | _ => none
  | .indexAddr t x i, some _ =>
    match (ti P t).d, ρ x, ρ i with
    | .slice e, .view k g, .int _ n =>
      match lookRow σ k g with
      | some (es, els) => if es = (ti P e).size ∧ okSize P e = true then some (0 ≤ n ∧ n < els.length, ⟨.rptr k g es n.toNat 0, [], [k]⟩) else none
      | none => none
    | _, _, _ => none
  | .call c, some d =>
    match c.callee, c.args.toList, c.argTypes.toList with
    | .builtin .append, [s, x], [ts, tx] =>
      match (ti P ts).d, (ti P tx).d with
      | .slice e, .slice _ => appendM P σ gen d e (ρ s) (ρ x)
      | _, _ => none
    | .builtin .len, [x], [t] =>
      match (ti P t).d, ρ x with
      | .slice _, .view k g => match lookRow σ k g with | some (_, els) => some (True, ⟨.int .i64 els.length, [], [k]⟩) | none => none
      | _, _ => none
    | _, _, _ => none
  | .makeMap t r, some d =>
    match (ti P t).d, r with
    | .map _ _, none => some (True, ⟨.mref d gen, [(d, some (.mapr gen []))], []⟩)
    | .map _ _, some x => match ρ x with | .int _ _ => some (True, ⟨.mref d gen, [(d, some (.mapr gen []))], []⟩) | _ => none
    | _, _ => none
  | .insert t m k x, _ =>
    match (ti P t).d, ρ m with
    | .map kt _, .mref key g =>
      match (ti P kt).d, lookMap σ key g with
      | .int _, some ents => if closedB (ρ x) = true then some ((∀ e ∈ ents, leafEq (ρ k) e.1 = some false) ∧ (isInt (ρ k)).isSome = true, ⟨.any, [(key, some (.mapr g (ents ++ [(ρ k, ρ x)])))], [key]⟩) else none
      | _, _ => none
    | _, _ => none
  | .lookup t m k ok, _ =>
    match (ti P t).d, ρ m with
    | .map kt e, .mref key g =>
      match (ti P kt).d, lookMap σ key g, zeroA P e with
      | .int _, some ents, some z =>
        match lookupA (ρ k) z ents with
        | some (v, f) => some ((isInt (ρ k)).isSome = true, ⟨if ok then .tuple [v, .bool f] else v, [], [key]⟩)
        | none => none
      | _, _, _ => none
    | _, _ => none
  | _, _ => none

/-! Closing: a value as it stands for whoever may only read it; with the keys of the regions that it leans on. -/
def closeL (f : AV → Option (AV × List Nat)) : List AV → Option (List AV × List Nat)
  | [] => some ([], [])
  | x :: xs => match f x, closeL f xs with
    | some (y, ks), some (ys, ls) => some (y :: ys, ks ++ ls)
    | _, _ => none
def closeV (σ : Sto) : Nat → AV → Option (AV × List Nat)
  | _, .bool b => some (.bool b, [])
  | _, .int k n => some (.int k n, [])
  | _, .str s => some (.str s, [])
  | _, .slice els => some (.slice els, [])
  | _, .nils => some (.nils, [])
  | _, .cptr cs => some (.cptr cs, [])
  | _, .nilFunc => some (.nilFunc, [])
  | _, .lit v => some (.lit v, [])
  | _, .view k g => match lookRow σ k g with | some (_, els) => some (.slice els, [k]) | none => none
  | _, .rptr k g es i off => match lookRow σ k g with | some (es', els) => if es = es' ∧ i < els.length then some (.cptr ((els.getD i []).drop off), [k]) else none | none => none
  | n + 1, .ptr k g off => match lookBox σ k g with
    | some cs => match closeL (closeV σ n) cs with | some (ys, ks) => some (.cptr (ys.drop off), k :: ks) | none => none
    | none => none
  | n + 1, .agg cs => match closeL (closeV σ n) cs with | some (ys, ks) => some (.agg ys, ks) | none => none
  | n + 1, .func fn cs => match closeL (closeV σ n) cs with | some (ys, ks) => some (.func fn ys, ks) | none => none
  | n + 1, .tuple cs => match closeL (closeV σ n) cs with | some (ys, ks) => some (.tuple ys, ks) | none => none
  | _, _ => none

/-- The function that a call enters, and the arguments as they stand. -/
def callOf (ρ : Operand → AV) : Op → Option (FuncId × List AV)
  | .call c =>
    match c.callee with
    | .value f => match ρ f with
      | .func (.func n) cap => some (n, c.args.toList.map ρ ++ cap)
      | _ => none
    | _ => none
  | _ => none

/-! The relation between a state of trees and a frame of the model. -/
def opnd (τ : List AV) : Operand → AV
  | .tmp t => τ.getD t .any
  | .const v => ofConst v
  | .func f => .func (.func f) []
  | .global _ => .any

def ownOf (ext : Nat → Prop) (β : Nat → Nat → Loc) (σ : Sto) (b : Nat) : Prop :=
  ext b ∨ ∃ t r, σ[t]? = some (some r) ∧ (β t r.g).isNil = false ∧ (β t r.g).block = b

def RegOk (n0 : Nat) (w : World) (own : Nat → Prop) (β : Nat → Nat → Loc) (ok : Nat → Nat → Prop) (t : Nat) : Reg → Prop
  | .box g cs => (β t g).isNil = false ∧ n0 ≤ (β t g).block ∧ ∃ c ty, w.heap[(β t g).block]? = some (.cells c ty (0, 0)) ∧ RepVL w own β ok cs c.toList
  | .row g es els => (β t g).len = els.length ∧ (∀ e ∈ els, e.length = es) ∧ els.length ≤ (β t g).cap ∧
      (((β t g).isNil = true ∧ els = [] ∧ (β t g).cap = 0) ∨
       ((β t g).isNil = false ∧ n0 ≤ (β t g).block ∧ ∃ c ty vs rest, w.heap[(β t g).block]? = some (.cells c ty (0, 0)) ∧ c.toList = vs ++ rest ∧ RepCL w own els.flatten vs ∧ (β t g).cap * es ≤ c.size))
  | .mapr g ents => (β t g).isNil = false ∧ n0 ≤ (β t g).block ∧ ∃ es clock, w.heap[(β t g).block]? = some (.map es clock) ∧
      Both (fun (a : AV × AV) (b : MapEntry) => RepC w own a.1 b.key ∧ RepC w own a.2 b.val) ents es.toList

structure StRel (n0 : Nat) (ext : Nat → Prop) (β : Nat → Nat → Loc) (ok : Nat → Nat → Prop) (st : St) (a : Act) (w : World) : Prop where
  temps : RepVL w (ownOf ext β st.σ) β ok st.τ a.tmps.toList
  regs : ∀ t r, st.σ[t]? = some (some r) → ok t r.g ∧ RegOk n0 w (ownOf ext β st.σ) β ok t r
  dist : ∀ t t' r r', st.σ[t]? = some (some r) → st.σ[t']? = some (some r') → t ≠ t' → (β t r.g).isNil = false → (β t' r'.g).isNil = false → (β t r.g).block ≠ (β t' r'.g).block
  extlt : ∀ b, ext b → b < n0
  n0le : n0 ≤ w.heap.size
  defers : a.defers = []

/-- A call of function f with these (closed) arguments comes to r, whatever memory it must not lean on, and leaves all that was there as it was. -/
def callable (P : Program) (f : FuncId) : Bool := match P.funcs[f]? with | some fn => fn.body.isSome && !(fn.name == "runtime.NumGoroutine") | none => false
def ACalls (P : Program) (f : FuncId) (args : List AV) (r : AV) : Prop :=
  callable P f = true ∧ ∀ (w : World) (own : Nat → Prop) (vs : List Value), (∀ b, own b → b < w.heap.size) → RepCL w own args vs →
    Calls P f vs.toArray w fun e w' => ∃ v, e = .returned v ∧ RepC w' own r v ∧ RowKit.Below w.heap.size w w'

section
variable {w w' : World} {own own' : Nat → Prop}
theorem cell?_heap {w : World} {b o : Nat} {c : Array Value} {ty : TypeId} {fr : Nat × Nat} (h : w.heap[b]? = some (.cells c ty fr)) : w.cell? ⟨b, o, none⟩ = c[o]? := by
  simp [World.cell?, h]
theorem cell?_lt {w : World} {b o : Nat} {v : Value} (h : w.cell? ⟨b, o, none⟩ = some v) : b < w.heap.size := by
  unfold World.cell? at h
  split at h
  · rename_i c _ _ hb
    rcases Nat.lt_or_ge b w.heap.size with hl | hl
    · exact hl
    · simp [Array.getElem?_eq_none hl] at hb
  · cases h
theorem Grows.below {n : Nat} (h : RowKit.Below n w w') (hn : w.heap.size ≤ n) (ho : ∀ b, b < w.heap.size → own' b → own b) : Grows w w' own own' := by
  intro b o v h1 h2
  have hb := cell?_lt h2
  exact ⟨fun h3 => h1 (ho b hb h3), by rw [h.cell (p := ⟨b, o, none⟩) (Nat.lt_of_lt_of_le hb hn)]; exact h2⟩
theorem Grows.less (ho : ∀ b, own' b → own b) : Grows w w own own' := fun b _ _ h1 h2 => ⟨fun h3 => h1 (ho b h3), h2⟩
end
end Go.Ab
