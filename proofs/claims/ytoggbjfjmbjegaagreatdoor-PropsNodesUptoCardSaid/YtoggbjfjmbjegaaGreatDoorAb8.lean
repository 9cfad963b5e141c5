/- The frame's own memory, and the operations that touch it: their meaning on trees. The operations on the frame's own memory, proved of the model. New regions: variables, slices that are made, literals, append. Stores, slices that are made, literals, append, maps. Slices that are made, literals, append, maps. -/
import Derived.Test.YtoggbjfjmbjegaaGreatDoorAb3
import Derived.OwnWalk
import Derived.Laws.Cells
import Derived.Laws.MakeOwn
import Derived.Laws.IdiomMaps
set_option linter.unusedSimpArgs false
set_option linter.unusedVariables false
section
namespace Go.Ab

inductive Reg where
  | box (g : Nat) (cs : List AV)
  | row (g es : Nat) (els : List (List AV))
  | mapr (g : Nat) (ents : List (AV × AV))
  deriving Inhabited
def Reg.g : Reg → Nat
  | .box g _ | .row g _ _ | .mapr g _ => g

abbrev Sto := List (Option Reg)
structure St where
  τ : List AV
  σ : Sto
  gen : Nat
  deriving Inhabited

def lookBox (σ : Sto) (k g : Nat) : Option (List AV) :=
  match σ.getD k none with
  | some (.box g' cs) => if g = g' then some cs else none
  | _ => none
def lookRow (σ : Sto) (k g : Nat) : Option (Nat × List (List AV)) :=
  match σ.getD k none with
  | some (.row g' es els) => if g = g' then some (es, els) else none
  | _ => none
def lookMap (σ : Sto) (k g : Nat) : Option (List (AV × AV)) :=
  match σ.getD k none with
  | some (.mapr g' ents) => if g = g' then some ents else none
  | _ => none

structure Res where
  v : AV
  upd : List (Nat × Option Reg)
  reads : List Nat
  deriving Inhabited

def leafB : AV → Bool
  | .agg _ | .tuple _ | .any | .lit (.agg _) | .lit (.tuple _) => false
  | _ => true
def closedB : AV → Bool
  | .bool _ | .int .. | .str _ | .slice _ | .sliceF _ | .nils | .cptr _ | .nilFunc | .lit _ | .func _ [] => true
  | _ => false
def scalarL : List AV → Bool
  | [] => true
  | .bool _ :: xs | .int .. :: xs | .str _ :: xs | .nilFunc :: xs | .nils :: xs | .lit _ :: xs => scalarL xs
  | _ => false
def scalarB : AV → Bool
  | .bool _ | .int .. | .str _ | .nilFunc | .nils | .lit _ => true
  | .agg cs | .tuple cs => scalarL cs
  | _ => false

def okSize (P : Program) (t : TypeId) : Bool := match (ti P t).d with | .other => false | _ => true

def buildEls (ρ : Operand → AV) (es : Nat) : Nat → List (Nat × Operand) → Option (List (List AV))
  | _, [] => some []
  | i, (j, x) :: rest =>
    match cellsA (ρ x), buildEls ρ es (i + 1) rest with
    | some xs, some l => if i = j ∧ xs.length = es ∧ xs.all closedB = true then some (xs :: l) else none
    | _, _ => none
def srcEls (σ : Sto) : AV → Option (List (List AV) × List Nat)
  | .slice els => some (els, [])
  | .sliceF els => some (els, [])
  | .nils => some ([], [])
  | .view k g | .viewF k g => match lookRow σ k g with | some (_, els) => some (els, [k]) | none => none
  | _ => none

def loadM (P : Program) (σ : Sto) (t : TypeId) : AV → Option (Prop × Res)
  | .ptr k g off => match lookBox σ k g with
    | some cs => if off + (ti P t).size ≤ cs.length ∧ ((ti P t).agg = true ∨ 0 < (ti P t).size) ∧ okSize P t = true then some (True, ⟨partA cs off (ti P t).size (ti P t).agg, [], [k]⟩) else none
    | none => none
  | .cptr cs => if (ti P t).size ≤ cs.length ∧ ((ti P t).agg = true ∨ 0 < (ti P t).size) ∧ okSize P t = true then some (True, ⟨partA cs 0 (ti P t).size (ti P t).agg, [], []⟩) else none
  | .rptr k g es i off => match lookRow σ k g with
    | some (es', els) => if es = es' ∧ off + (ti P t).size ≤ (els.getD i []).length ∧ ((ti P t).agg = true ∨ 0 < (ti P t).size) ∧ okSize P t = true then some (True, ⟨partA (els.getD i []) off (ti P t).size (ti P t).agg, [], [k]⟩) else none
    | none => none
  | _ => none
def storeM (P : Program) (σ : Sto) (t : TypeId) (x : AV) : AV → Option (Prop × Res)
  | .ptr k g off => match lookBox σ k g, cellsA x with
    | some cs, some xs => if xs.length = (ti P t).size ∧ off + xs.length ≤ cs.length ∧ xs.all leafB = true ∧ okSize P t = true then some (True, ⟨.any, [(k, some (.box g (setA cs off xs)))], [k]⟩) else none
    | _, _ => none
  | .rptr k g es i off => match lookRow σ k g, cellsA x with
    | some (es', els), some xs => if es = es' ∧ xs.length = (ti P t).size ∧ off + xs.length ≤ (els.getD i []).length ∧ xs.all closedB = true ∧ xs.all leafB = true ∧ okSize P t = true then
        some (i < els.length, ⟨.any, [(k, some (.row g es (els.set i (setA (els.getD i []) off xs))))], [k]⟩) else none
    | _, _ => none
  | _ => none
def elOk (s : Nat) (y : List AV) : Bool := y.length == s && y.all leafB
def appendM (P : Program) (σ : Sto) (gen d : Nat) (e : TypeId) (s x : AV) : Option (Prop × Res) :=
  match srcEls σ x, s with
  | some (els2, ks), .nils => if okSize P e = true ∧ ((ti P e).zero.map List.length) = some (ti P e).size then some ((∀ y ∈ els2, elOk (ti P e).size y = true) ∧ els2.length * (ti P e).bytes ≤ 70368744177664 ∧ els2.length ≤ 70368744177664, ⟨.view d gen, [(d, some (.row gen (ti P e).size els2))], ks⟩) else none
  | some (els2, ks), .view k g => match lookRow σ k g with
    | some (es, els) => if es = (ti P e).size ∧ okSize P e = true ∧ ((ti P e).zero.map List.length) = some (ti P e).size then
        some ((∀ y ∈ els2, elOk (ti P e).size y = true) ∧ (els.length + els2.length) * (ti P e).bytes ≤ 70368744177664 ∧ els.length + els2.length ≤ 70368744177664, ⟨.view d gen, [(k, none), (d, some (.row gen es (els ++ els2)))], k :: ks⟩) else none
    | none => none
  | some (els2, ks), .sliceF els => if okSize P e = true ∧ ((ti P e).zero.map List.length) = some (ti P e).size then
      some (els2 ≠ [] ∧ (∀ y ∈ els, elOk (ti P e).size y = true) ∧ (∀ y ∈ els2, elOk (ti P e).size y = true) ∧ (els.length + els2.length) * (ti P e).bytes ≤ 70368744177664 ∧ els.length + els2.length ≤ 70368744177664, ⟨.view d gen, [(d, some (.row gen (ti P e).size (els ++ els2)))], ks⟩) else none
  | _, _ => none
def sameO : Operand → Operand → Bool
  | .tmp a, .tmp b => a == b
  | _, _ => false
def lookupA (k zero : AV) : List (AV × AV) → Option (AV × Bool)
  | [] => some (zero, false)
  | (k0, v0) :: rest => match leafEq k k0, lookupA k zero rest with
    | some b, some (v, f) => some (pickV b v0 v, b || f)
    | _, _ => none
def zeroA (P : Program) (t : TypeId) : Option AV := ((P.info? t).bind (·.zero)).map ofConst

def memOp (P : Program) (ρ : Operand → AV) (σ : Sto) (gen : Nat) (dst : Option Tmp) (op : Op) : Option (Prop × Res) :=
  match op, dst with
  | .load t a, _ => loadM P σ t (ρ a)
  | .store t a x, _ => storeM P σ t (ρ x) (ρ a)
  | .alloc t, some d => match (ti P t).zero with | some z => if okSize P t = true then some (True, ⟨.ptr d gen 0, [(d, some (.box gen z))], []⟩) else none | none => none
  | .box t x, some d => match cellsA (ρ x) with | some xs => if okSize P t = true then some (True, ⟨.ptr d gen 0, [(d, some (.box gen xs))], []⟩) else none | none => none
  | .makeSlice t l c, some d =>
    match (ti P t).d, ρ l, ρ c with
    | .slice e, .int _ n, .int _ m =>
      match (ti P e).zero with
      | some z => if okSize P e = true ∧ z.length = (ti P e).size ∧ z.all closedB = true then some (0 ≤ n ∧ n ≤ m ∧ m * (ti P e).bytes ≤ 2 ^ 46 ∧ m ≤ 2 ^ 46, ⟨if sameO l c = true then .viewF d gen else .view d gen, [(d, some (.row gen (ti P e).size (List.replicate n.toNat z)))], []⟩) else none
      | none => none
    | _, _, _ => none
  | .buildSlice t len parts, some d =>
    match (ti P t).d with
    | .slice e =>
      match buildEls ρ (ti P e).size 0 parts.toList, (ti P e).zero with
      | some els, some z => if els.length = len ∧ okSize P e = true ∧ len * (ti P e).size ≤ 2 ^ 24 ∧ z.length = (ti P e).size then some (True, ⟨.view d gen, [(d, some (.row gen (ti P e).size els))], []⟩) else none
      | _, _ => none
    | _ => none
  | .indexAddr t x i, some _ =>
    match (ti P t).d, weak (ρ x), ρ i with
    | .slice e, .view k g, .int _ n =>
      match lookRow σ k g with
      | some (es, els) => if es = (ti P e).size ∧ okSize P e = true then some (0 ≤ n ∧ n < els.length, ⟨.rptr k g es n.toNat 0, [], [k]⟩) else none
      | none => none
    | _, _, _ => none
  | .call c, some d =>
    match c.callee, c.args.toList, c.argTypes.toList with
    | .builtin .append, [s, x], [ts, tx] =>
      match (ti P ts).d, (ti P tx).d with
      | .slice e, .slice _ => appendM P σ gen d e (ρ s) (ρ x)
      | _, _ => none
    | .builtin .len, [x], [t] =>
      match (ti P t).d, weak (ρ x) with
      | .slice _, .view k g => match lookRow σ k g with | some (_, els) => some (True, ⟨.int .i64 els.length, [], [k]⟩) | none => none
      | _, _ => none
    | _, _, _ => none
  | .makeMap t r, some d =>
    match (ti P t).d, r with
    | .map _ _, none => some (True, ⟨.mref d gen, [(d, some (.mapr gen []))], []⟩)
    | .map _ _, some x => match ρ x with | .int _ _ => some (True, ⟨.mref d gen, [(d, some (.mapr gen []))], []⟩) | _ => none
    | _, _ => none
  | .insert t m k x, _ =>
    match (ti P t).d, ρ m with
    | .map kt _, .mref key g =>
      match (ti P kt).d, lookMap σ key g with
      | .int _, some ents => if closedB (ρ x) = true then some ((∀ e ∈ ents, leafEq (ρ k) e.1 = some false) ∧ (isInt (ρ k)).isSome = true, ⟨.any, [(key, some (.mapr g (ents ++ [(ρ k, ρ x)])))], [key]⟩) else none
      | _, _ => none
    | _, _ => none
  | .lookup t m k ok, _ =>
    match (ti P t).d, ρ m with
    | .map kt e, .mref key g =>
      match (ti P kt).d, lookMap σ key g, zeroA P e with
      | .int _, some ents, some z =>
        match lookupA (ρ k) z ents with
        | some (v, f) => some ((isInt (ρ k)).isSome = true, ⟨if ok then .tuple [v, .bool f] else v, [], [key]⟩)
        | none => none
      | _, _, _ => none
    | _, _ => none
  | _, _ => none

/-! Closing: a value as it stands for whoever may only read it; with the keys of the regions that it leans on. -/
def closeL (f : AV → Option (AV × List Nat)) : List AV → Option (List AV × List Nat)
  | [] => some ([], [])
  | x :: xs => match f x, closeL f xs with
    | some (y, ks), some (ys, ls) => some (y :: ys, ks ++ ls)
    | _, _ => none
def closeV (σ : Sto) : Nat → AV → Option (AV × List Nat)
  | _, .bool b => some (.bool b, [])
  | _, .int k n => some (.int k n, [])
  | _, .str s => some (.str s, [])
  | _, .slice els => some (.slice els, [])
  | _, .nils => some (.nils, [])
  | _, .cptr cs => some (.cptr cs, [])
  | _, .nilFunc => some (.nilFunc, [])
  | _, .lit v => some (.lit v, [])
  | _, .view k g => match lookRow σ k g with | some (_, els) => some (.slice els, [k]) | none => none
  | _, .viewF k g => match lookRow σ k g with | some (_, els) => some (.sliceF els, [k]) | none => none
  | _, .sliceF els => some (.sliceF els, [])
  | _, .rptr k g es i off => match lookRow σ k g with | some (es', els) => if es = es' ∧ i < els.length then some (.cptr ((els.getD i []).drop off), [k]) else none | none => none
  | n + 1, .ptr k g off => match lookBox σ k g with
    | some cs => match closeL (closeV σ n) cs with | some (ys, ks) => some (.cptr (ys.drop off), k :: ks) | none => none
    | none => none
  | n + 1, .agg cs => match closeL (closeV σ n) cs with | some (ys, ks) => some (.agg ys, ks) | none => none
  | n + 1, .func fn cs => match closeL (closeV σ n) cs with | some (ys, ks) => some (.func fn ys, ks) | none => none
  | n + 1, .mfunc fn cs => match closeL (closeV σ n) cs with | some (ys, ks) => some (.mfunc fn ys, ks) | none => none
  | n + 1, .tuple cs => match closeL (closeV σ n) cs with | some (ys, ks) => some (.tuple ys, ks) | none => none
  | _, _ => none

def callOf (ρ : Operand → AV) : Op → Option (FuncId × List AV)
  | .call c =>
    match c.callee with
    | .value f => match ρ f with
      | .func (.func n) cap => some (n, c.args.toList.map ρ ++ cap)
      | .mfunc (.func n) fs => some (n, fs ++ c.args.toList.map ρ)
      | _ => none
    | _ => none
  | _ => none

/-! The relation between a state of trees and a frame of the model. -/
def opnd (τ : List AV) : Operand → AV
  | .tmp t => τ.getD t .any
  | .const v => ofConst v
  | .func f => .func (.func f) []
  | .global g => gA g

def ownOf (ext : Nat → Prop) (β : Nat → Nat → Loc) (σ : Sto) (b : Nat) : Prop :=
  ext b ∨ ∃ t r, σ[t]? = some (some r) ∧ (β t r.g).isNil = false ∧ (β t r.g).block = b

def RegOk (n0 : Nat → Prop) (w : World) (own : Nat → Prop) (β : Nat → Nat → Loc) (ok : Nat → Nat → Prop) (t : Nat) : Reg → Prop
  | .box g cs => (β t g).isNil = false ∧ n0 (β t g).block ∧ ∃ c ty vs rest, w.heap[(β t g).block]? = some (.cells c ty (0, 0)) ∧ c.toList = vs ++ rest ∧ RepVL w own β ok cs vs ∧ (β t g).cap ≤ c.size
  | .row g es els => (β t g).len = els.length ∧ (∀ e ∈ els, e.length = es) ∧ els.length ≤ (β t g).cap ∧
      (((β t g).isNil = true ∧ els = [] ∧ (β t g).cap = 0) ∨
       ((β t g).isNil = false ∧ n0 (β t g).block ∧ ∃ c ty vs rest, w.heap[(β t g).block]? = some (.cells c ty (0, 0)) ∧ c.toList = vs ++ rest ∧ RepCL w own els.flatten vs ∧ (β t g).cap * es ≤ c.size))
  | .mapr g ents => (β t g).isNil = false ∧ n0 (β t g).block ∧ ∃ es clock, w.heap[(β t g).block]? = some (.map es clock) ∧
      Both (fun (a : AV × AV) (b : MapEntry) => RepC w own a.1 b.key ∧ RepC w own a.2 b.val) ents es.toList

structure Bel (N : Nat → Prop) (w w' : World) : Prop where
  os : w'.os = w.os
  tape : w'.tape = w.tape
  output : w'.output = w.output
  size : w.heap.size ≤ w'.heap.size
  block : ∀ k, ¬ N k → w'.heap[k]? = w.heap[k]?
theorem Bel.refl (N : Nat → Prop) (w : World) : Bel N w w := ⟨rfl, rfl, rfl, Nat.le_refl _, fun _ _ => rfl⟩
theorem Bel.trans {N : Nat → Prop} {a b c : World} (h : Bel N a b) (k : Bel N b c) : Bel N a c :=
  ⟨k.os.trans h.os, k.tape.trans h.tape, k.output.trans h.output, Nat.le_trans h.size k.size, fun i hi => (k.block i hi).trans (h.block i hi)⟩
theorem Bel.of_below {N : Nat → Prop} {m : Nat} {w w' : World} (h : RowKit.Below m w w') (hN : ∀ b, m ≤ b → N b) : Bel N w w' :=
  ⟨h.os, h.tape, h.output, h.size, fun k hk => h.block k (Nat.lt_of_not_le fun hle => hk (hN k hle))⟩
theorem Bel.below {m : Nat} {w w' : World} (h : Bel (fun b => m ≤ b) w w') : RowKit.Below m w w' :=
  ⟨h.os, h.tape, h.output, h.size, fun k hk => h.block k (Nat.not_le.mpr hk)⟩

structure StRel (n0 : Nat → Prop) (ext : Nat → Prop) (β : Nat → Nat → Loc) (ok : Nat → Nat → Prop) (st : St) (a : Act) (w : World) : Prop where
  temps : RepVL w (ownOf ext β st.σ) β ok st.τ a.tmps.toList
  regs : ∀ t r, st.σ[t]? = some (some r) → ok t r.g ∧ RegOk n0 w (ownOf ext β st.σ) β ok t r
  dist : ∀ t t' r r', st.σ[t]? = some (some r) → st.σ[t']? = some (some r') → t ≠ t' → (β t r.g).isNil = false → (β t' r'.g).isNil = false → (β t r.g).block ≠ (β t' r'.g).block
  extlt : ∀ b, ext b → ¬ n0 b
  n0le : ∀ b, w.heap.size ≤ b → n0 b
  defers : a.defers = []
  glob : GlobOk w (ownOf ext β st.σ)

def callable (P : Program) (f : FuncId) : Bool := match P.funcs[f]? with | some fn => fn.body.isSome && !(fn.name == "runtime.NumGoroutine") | none => false
def ACalls (P : Program) (f : FuncId) (args : List AV) (r : AV) : Prop :=
  callable P f = true ∧ ∀ (w : World) (own : Nat → Prop) (vs : List Value), (∀ b, own b → b < w.heap.size) → GlobOk w own → RepCL w own args vs →
    Calls P f vs.toArray w fun e w' => ∃ v, e = .returned v ∧ RepC w' own r v ∧ RowKit.Below w.heap.size w w'

def lend (σ : Sto) (ks : List Nat) (n : Nat) : Sto := (List.range n).map fun k => if ks.contains k then σ.getD k none else none
def SameG (σ σ' : Sto) : Prop := ∀ (k : Nat) (r' : Reg), σ'[k]? = some (some r') → ∃ r : Reg, σ[k]? = some (some r) ∧ r.g = r'.g
def MCalls (P : Program) (f : FuncId) (γ : Nat) (args : List AV) (σ : Sto) (r : AV) (σ' : Sto) : Prop :=
  callable P f = true ∧ SameG σ σ' ∧ ∀ (N : Nat → Prop) (ext : Nat → Prop) (β : Nat → Nat → Loc) (ok : Nat → Nat → Prop) (vs : List Value) (w : World),
    StRel N ext β ok ⟨args, σ, γ⟩ { tmps := vs.toArray, defers := [] } w → (∀ t g, ok t g → g ≤ γ) →
    Calls P f vs.toArray w fun e w' => ∃ v, e = .returned v ∧ StRel N ext β ok ⟨[r], σ', γ⟩ { tmps := #[v], defers := [] } w' ∧ Bel N w w'
def GCalls (P : Program) (f : FuncId) (γ : Nat) (κ : List Nat) (args : List AV) (σ : Sto) (r : AV) (σ' : Sto) : Prop :=
  callable P f = true ∧ ∀ (N : Nat → Prop) (ext : Nat → Prop) (β : Nat → Nat → Loc) (ok : Nat → Nat → Prop) (vs : List Value) (w : World),
    StRel N ext β ok ⟨args, σ, γ⟩ { tmps := vs.toArray, defers := [] } w → (∀ t g, ok t g → g ≤ γ) → (∀ k ∈ κ, ¬ ok k γ) →
    Calls P f vs.toArray w fun e w' => ∃ v β' ok', e = .returned v ∧ StRel N ext β' ok' ⟨[r], σ', γ⟩ { tmps := #[v], defers := [] } w' ∧ (∀ t g, ok' t g → ok t g ∨ (t ∈ κ ∧ g = γ)) ∧ (∀ t g, ok t g → ok' t g ∧ β' t g = β t g) ∧ Bel N w w'
def FCalls (P : Program) (f : FuncId) (args : List AV) (es : Nat) (els : List (List AV)) : Prop :=
  callable P f = true ∧ ∀ (w : World) (own : Nat → Prop) (vs : List Value), (∀ b, own b → b < w.heap.size) → GlobOk w own → RepCL w own args vs →
    Calls P f vs.toArray w fun e w' => ∃ loc : Loc, e = .returned (.slice (if loc.isNil then none else some ⟨loc.block, 0, none⟩) loc.len loc.cap) ∧
      RegOk (fun b => w.heap.size ≤ b) w' (fun b => own b ∨ (loc.isNil = false ∧ b = loc.block)) (fun _ _ => loc) (fun _ _ => True) 0 (.row 0 es els) ∧ RowKit.Below w.heap.size w w'

section
variable {w w' : World} {own own' : Nat → Prop}
theorem cell?_heap {w : World} {b o : Nat} {c : Array Value} {ty : TypeId} {fr : Nat × Nat} (h : w.heap[b]? = some (.cells c ty fr)) : w.cell? ⟨b, o, none⟩ = c[o]? := by
  simp [World.cell?, h]
theorem cell?_lt {w : World} {b o : Nat} {v : Value} (h : w.cell? ⟨b, o, none⟩ = some v) : b < w.heap.size := by
  unfold World.cell? at h
  split at h
  · rename_i c _ _ hb
    rcases Nat.lt_or_ge b w.heap.size with hl | hl
    · exact hl
    · simp [Array.getElem?_eq_none hl] at hb
  · cases h
theorem Grows.below {n : Nat} (h : RowKit.Below n w w') (hn : w.heap.size ≤ n) (ho : ∀ b, b < w.heap.size → own' b → own b) : Grows w w' own own' := by
  intro b o v h1 h2
  have hb := cell?_lt h2
  exact ⟨fun h3 => h1 (ho b hb h3), by rw [h.cell (p := ⟨b, o, none⟩) (Nat.lt_of_lt_of_le hb hn)]; exact h2⟩
theorem Grows.less (ho : ∀ b, own' b → own b) : Grows w w own own' := fun b _ _ h1 h2 => ⟨fun h3 => h1 (ho b h3), h2⟩
end
end Go.Ab
end

section
namespace Go.Ab
open Go.RowKit

def applyUpd (σ : Sto) (u : List (Nat × Option Reg)) : Sto := u.foldl (fun s p => s.set p.1 p.2) σ
def putτ (τ : List AV) (dst : Option Tmp) (v : AV) : List AV := match dst with | some d => τ.set d v | none => τ
def St.after (st : St) (dst : Option Tmp) (r : Res) : St := ⟨putτ st.τ dst r.v, applyUpd st.σ r.upd, st.gen⟩

section
variable {P : Program} {n0 : Nat → Prop} {ext : Nat → Prop} {β β' : Nat → Nat → Loc} {ok ok' : Nat → Nat → Prop} {st : St} {a : Act} {w w' : World} {own own' : Nat → Prop}

theorem put_toList (a : Act) (dst : Option Tmp) (v : Value) : (a.put dst v).tmps.toList = match dst with | some d => a.tmps.toList.set d v | none => a.tmps.toList := by
  cases dst <;> simp [Act.put]
theorem put_defers (a : Act) (dst : Option Tmp) (v : Value) : (a.put dst v).defers = a.defers := by cases dst <;> rfl

theorem RegOk.mono {t : Nat} {r : Reg} (h : RegOk n0 w own β ok t r) (hb : ∀ s g, ok s g → β' s g = β s g) (hr : ok t r.g) (hk : ∀ s g, ok s g → ok' s g) (g : Grows w w' own own')
    (hh : (β t r.g).isNil = false → w'.heap[(β t r.g).block]? = w.heap[(β t r.g).block]?) : RegOk n0 w' own' β' ok' t r := by
  cases r with
  | box gg cs =>
    simp only [Reg.g] at *
    obtain ⟨h1, h2, c, ty, vs, rest, h3, h3a, h4, h5⟩ := h
    simp only [RegOk, hb _ _ hr]
    exact ⟨h1, h2, c, ty, vs, rest, (hh h1).trans h3, h3a, h4.mono g hk hb, h5⟩
  | row gg es els =>
    simp only [Reg.g] at *
    obtain ⟨h1, h2, h3, h4⟩ := h
    simp only [RegOk, hb _ _ hr]
    refine ⟨h1, h2, h3, ?_⟩
    rcases h4 with h4 | ⟨h5, h6, c, ty, vs, rest, h7, h8, h9, h10⟩
    · exact .inl h4
    · exact .inr ⟨h5, h6, c, ty, vs, rest, (hh h5).trans h7, h8, h9.mono g, h10⟩
  | mapr gg ents =>
    simp only [Reg.g] at *
    obtain ⟨h1, h2, es, clock, h3, h4⟩ := h
    simp only [RegOk, hb _ _ hr]
    refine ⟨h1, h2, es, clock, (hh h1).trans h3, ?_⟩
    clear h3
    generalize es.toList = l at h4
    induction h4 with
    | nil => exact .nil
    | cons h _ ih => exact .cons ⟨h.1.mono g, h.2.mono g⟩ ih

theorem StRel.temps_put (h : RepVL w own β ok st.τ a.tmps.toList) (dst : Option Tmp) {x : AV} {v : Value} (hx : RepV w own β ok x v) : RepVL w own β ok (putτ st.τ dst x) (a.put dst v).tmps.toList := by
  rw [put_toList]; unfold putτ
  cases dst with
  | none => exact h
  | some d => exact h.set d hx

theorem StRel.still (h : StRel n0 ext β ok st a w) (dst : Option Tmp) {x : AV} {v : Value} (hx : RepV w (ownOf ext β st.σ) β ok x v) : StRel n0 ext β ok ⟨putτ st.τ dst x, st.σ, st.gen⟩ (a.put dst v) w :=
  ⟨StRel.temps_put h.temps dst hx, h.regs, h.dist, h.extlt, h.n0le, by rw [put_defers]; exact h.defers, h.glob⟩

theorem StRel.opnd (h : StRel n0 ext β ok st a w) (x : Operand) : RepV w (ownOf ext β st.σ) β ok (opnd st.τ x) (a.eval x) := by
  cases x with
  | tmp t =>
    have := h.temps.getD t undef
    simpa [Ab.opnd, Act.eval, Array.getD_eq_getD_getElem?, List.getD_eq_getElem?_getD] using this
  | const v => exact .closed (ofConst_rep _ _ v)
  | global g =>
    simp only [Ab.opnd, gA]
    split
    · rename_i cs hg; exact .closed (h.glob g cs hg)
    · exact .closed (.any _)
  | func f => exact .closed (.func .nil)

theorem lookBox_some {σ : Sto} {k g : Nat} {cs : List AV} (h : lookBox σ k g = some cs) : σ[k]? = some (some (.box g cs)) := by
  unfold lookBox at h
  split at h
  · rename_i g' cs' hs
    split at h
    · rename_i e; subst e; cases h
      rw [List.getD_eq_getElem?_getD] at hs
      cases hk : σ[k]? with
      | none => rw [hk] at hs; cases hs
      | some o => rw [hk] at hs; simp at hs; rw [hs]
    · cases h
  · cases h
theorem lookRow_some {σ : Sto} {k g es : Nat} {els : List (List AV)} (h : lookRow σ k g = some (es, els)) : σ[k]? = some (some (.row g es els)) := by
  unfold lookRow at h
  split at h
  · rename_i g' es' els' hs
    split at h
    · rename_i e; subst e; cases h
      rw [List.getD_eq_getElem?_getD] at hs
      cases hk : σ[k]? with
      | none => rw [hk] at hs; cases hs
      | some o => rw [hk] at hs; simp at hs; rw [hs]
    · cases h
  · cases h
theorem lookMap_some {σ : Sto} {k g : Nat} {es : List (AV × AV)} (h : lookMap σ k g = some es) : σ[k]? = some (some (.mapr g es)) := by
  unfold lookMap at h
  split at h
  · rename_i g' es' hs
    split at h
    · rename_i e; subst e; cases h
      rw [List.getD_eq_getElem?_getD] at hs
      cases hk : σ[k]? with
      | none => rw [hk] at hs; cases hs
      | some o => rw [hk] at hs; simp at hs; rw [hs]
    · cases h
  · cases h

theorem okSize_info {t : TypeId} (h : okSize P t = true) : ∃ i d, P.info? t = some i ∧ i.size = (ti P t).size ∧ i.bytes = (ti P t).bytes ∧ P.underlying t = some d ∧ aggD d = (ti P t).agg ∧ (ti P t).zero = i.zero.map (fun v => v.cells.toList.map leaf) := by
  have hne : (ti P t).d ≠ .other := by intro e; simp [okSize, e] at h
  obtain ⟨i, h1, h2, h3, h4⟩ := ti_info hne
  obtain ⟨d, h5, h6⟩ := ti_und hne
  exact ⟨i, d, h1, h2, h3, h5, h6.symm, h4⟩

theorem run_loadVar {t : TypeId} {i : TypeInfo} {d : TypeDesc} (hi : P.info? t = some i) (hu : P.underlying t = some d) {A : Addr} {cs : List AV} {vs : List Value} {off : Nat}
    (hc : RepVL w own β ok cs vs) (hcell : ∀ j v, vs[j]? = some v → w.cell? ⟨A.block, A.off + j, none⟩ = some v) (hspot : vs ≠ [] → A.spot = none) (hl : off + i.size ≤ cs.length) (h0 : aggD d = true ∨ 0 < i.size) :
    ∃ v, (loadVar t (A.add off)).run P w = .ok v w ∧ RepV w own β ok (partA cs off i.size (aggD d)) v := by
  have hlen := hc.length
  have cell : ∀ j v, (vs.drop off)[j]? = some v → w.cell? ((A.add off).add j) = some v := by
    intro j v hj
    have h1 := hcell (off + j) v (by simpa using hj)
    have hne : vs ≠ [] := by intro e; simp [e] at hj
    have hs := hspot hne
    unfold Addr.add
    obtain ⟨b, o, s⟩ := A
    simp only at hs; subst hs
    split <;> split <;> simp_all [Nat.add_assoc]
  simp only [loadVar, Sem.run_bind, run_isAgg hu, Result.andThen_ok]
  cases ha : aggD d
  · simp only [Bool.false_eq_true, if_false]
    have hlt : off < cs.length := by
      rcases h0 with h0 | h0
      · simp [ha] at h0
      · omega
    obtain ⟨v, hv, hr⟩ := hc.get off hlt
    refine ⟨v, ?_, by simp only [partA, Bool.false_eq_true, if_false]; rw [List.getD_eq_getElem?_getD, List.getElem?_eq_getElem hlt]; exact hr⟩
    have := cell 0 v (by simpa using hv)
    have e : (A.add off).add 0 = A.add off := by simp [Addr.add]
    rw [e] at this
    simp [load, Sem.run, this]
  · simp only [if_true, Sem.run_bind, run_sizeOf hi, Result.andThen_ok]
    have hz : ((vs.drop off).take i.size).length = i.size := by simp; omega
    have := run_loadCells_list (P := P) (w := w) (A.add off) ((vs.drop off).take i.size) (fun j v hj => by
      rw [List.getElem?_take] at hj
      split at hj
      · exact cell j v hj
      · cases hj)
    rw [hz] at this
    refine ⟨_, by rw [this]; rfl, ?_⟩
    simp only [partA, if_true]
    exact .agg ((hc.drop off).take i.size)

theorem cells_at {b : Nat} {c : Array Value} {ty : TypeId} {fr : Nat × Nat} (h : w.heap[b]? = some (.cells c ty fr)) : ∀ j v, c.toList[j]? = some v → w.cell? ⟨b, 0 + j, none⟩ = some v := by
  intro j v hj; rw [Nat.zero_add, cell?_heap h]; simpa using hj

theorem prefix_at {c : Array Value} {vs rest : List Value} (h : c.toList = vs ++ rest) {j : Nat} {v : Value} (hj : vs[j]? = some v) : c.toList[j]? = some v := by
  rw [h, List.getElem?_append_left]
  · exact hj
  · rcases Nat.lt_or_ge j vs.length with hq | hq
    · exact hq
    · rw [List.getElem?_eq_none hq] at hj; cases hj
theorem loadM_sound (h : StRel n0 ext β ok st a w) {t : TypeId} {x : AV} {vx : Value} {pre : Prop} {r : Res} (hx : RepV w (ownOf ext β st.σ) β ok x vx) (he : loadM P st.σ t x = some (pre, r)) :
    ∃ v, (Instr.loadAt t vx).run P w = .ok v w ∧ RepV w (ownOf ext β st.σ) β ok r.v v ∧ r.upd = [] := by
  unfold loadM at he
  split at he
  · rename_i k g off
    split at he
    · rename_i cs hl
      split at he
      · rename_i hc
        obtain ⟨h1, h2, h3⟩ := hc
        simp only [Option.some.injEq, Prod.mk.injEq] at he; obtain ⟨_, rfl⟩ := he
        obtain ⟨i, d, hi, hs, _, hu, hg, _⟩ := okSize_info h3
        obtain ⟨hk, rfl⟩ := hx.ptr_open
        obtain ⟨_, hreg⟩ := h.regs _ _ (lookBox_some hl)
        obtain ⟨hn, _, c, ty, vs, rest, hh, hcl, hrep, _⟩ := hreg
        have hat : ∀ j v, vs[j]? = some v → w.cell? ⟨(β k g).block, 0 + j, none⟩ = some v := fun j v hj => cells_at hh j v (by
          rw [hcl, List.getElem?_append_left]
          · exact hj
          · rcases Nat.lt_or_ge j vs.length with hq | hq
            · exact hq
            · rw [List.getElem?_eq_none hq] at hj; cases hj)
        obtain ⟨v, hv, hr⟩ := run_loadVar (P := P) hi hu (A := ⟨(β k g).block, 0, none⟩) (off := off) hrep hat (fun _ => rfl) (by rw [hs]; exact h1) (by rw [hg, hs]; exact h2)
        have e : (⟨(β k g).block, 0, none⟩ : Addr).add off = ⟨(β k g).block, off, none⟩ := by unfold Addr.add; split <;> simp_all
        rw [e] at hv
        refine ⟨v, by simpa [Instr.loadAt, Instr.sureAddr] using hv, by rw [hs, hg] at hr; exact hr, rfl⟩
      · cases he
    · cases he
  · rename_i cs
    split at he
    · rename_i hc
      obtain ⟨h1, h2, h3⟩ := hc
      simp only [Option.some.injEq, Prod.mk.injEq] at he; obtain ⟨_, rfl⟩ := he
      obtain ⟨i, d, hi, hs, _, hu, hg, _⟩ := okSize_info h3
      obtain ⟨A, vs, rfl, hrep, hat⟩ := hx.cptr_open
      obtain ⟨v, hv, hr⟩ := run_loadVar (P := P) (β := β) (ok := ok) hi hu (A := A) (off := 0) hrep.toV (fun j v hj => (hat.2 j v hj).2) hat.1 (by rw [hs]; simpa using h1) (by rw [hg, hs]; exact h2)
      have e : A.add 0 = A := by simp [Addr.add]
      rw [e] at hv
      exact ⟨v, by simpa [Instr.loadAt, Instr.sureAddr] using hv, by rw [hs, hg] at hr; exact hr, rfl⟩
    · cases he
  · rename_i k g es i0 off
    split at he
    · rename_i es' els hl
      split at he
      · rename_i hc
        obtain ⟨he1, h1, h2, h3⟩ := hc
        subst he1
        simp only [Option.some.injEq, Prod.mk.injEq] at he; obtain ⟨_, rfl⟩ := he
        obtain ⟨i, d, hi, hs, _, hu, hg, _⟩ := okSize_info h3
        obtain ⟨hk, rfl⟩ := hx.rptr_open
        obtain ⟨_, hreg⟩ := h.regs _ _ (lookRow_some hl)
        obtain ⟨hlen, hes, hcap, hor⟩ := hreg
        by_cases hlt : i0 < els.length
        · rcases hor with ⟨_, e0, _⟩ | ⟨hn, _, c, ty, vs, rest, hh, hcl, hrep, hsz⟩
          · subst e0; simp at hlt
          · have hsub : RepCL w (ownOf ext β st.σ) (els.getD i0 []) ((vs.drop (i0 * es)).take es) := by
              rw [← getD_flatten hes hlt]; exact (hrep.drop _).take _
            obtain ⟨v, hv, hr⟩ := run_loadVar (P := P) (β := β) (ok := ok) hi hu (A := ⟨(β k g).block, i0 * es, none⟩) (off := off) hsub.toV (fun j v hj => by
                rw [List.getElem?_take] at hj
                split at hj
                · rw [cell?_heap hh]
                  have : c.toList[i0 * es + j]? = some v := by
                    rw [hcl, List.getElem?_append_left]
                    · simpa using hj
                    · rcases Nat.lt_or_ge (i0 * es + j) vs.length with hq | hq
                      · exact hq
                      · rw [List.getElem?_drop, List.getElem?_eq_none hq] at hj; cases hj
                  simpa using this
                · cases hj) (fun _ => rfl) (by rw [hs]; exact h1) (by rw [hg, hs]; exact h2)
            have e : (⟨(β k g).block, i0 * es, none⟩ : Addr).add off = ⟨(β k g).block, i0 * es + off, none⟩ := by unfold Addr.add; split <;> simp_all
            rw [e] at hv
            exact ⟨v, by simpa [Instr.loadAt, Instr.sureAddr] using hv, by rw [hs, hg] at hr; exact hr, rfl⟩
        · have : els.getD i0 [] = [] := by rw [List.getD_eq_getElem?_getD, List.getElem?_eq_none (by omega)]; rfl
          rw [this] at h1 ⊢
          simp at h1
          have hz : i.size = 0 := by omega
          have hag : aggD d = true := by
            rw [hg]; rcases h2 with h2 | h2
            · exact h2
            · omega
          refine ⟨.agg #[], ?_, ?_, rfl⟩
          · simp only [Instr.loadAt, Instr.sureAddr, Sem.run_bind, Sem.run_pure, Result.andThen_ok, loadVar, run_isAgg hu, hag, if_true, run_sizeOf hi, hz, loadCells, loadCellsFrom]
          · simp only [partA, ← hg, hag, if_true]; simp; exact .closed (.agg .nil)
      · cases he
    · cases he
  · cases he
end
end Go.Ab
end

section
namespace Go.Ab
open Go.RowKit

def layβ (β : Nat → Nat → Loc) (d gen : Nat) (loc : Loc) : Nat → Nat → Loc := fun t g => if t = d ∧ g = gen then loc else β t g
def layok (ok : Nat → Nat → Prop) (d gen : Nat) : Nat → Nat → Prop := fun t g => ok t g ∨ (t = d ∧ g = gen)

section
variable {P : Program} {n0 : Nat → Prop} {ext : Nat → Prop} {β : Nat → Nat → Loc} {ok : Nat → Nat → Prop} {st : St} {a : Act} {w w' : World}

theorem layβ_old {d gen : Nat} {loc : Loc} (hf : ¬ ok d gen) {t g : Nat} (h : ok t g) : layβ β d gen loc t g = β t g := by
  unfold layβ; rw [if_neg (fun (e : t = d ∧ g = gen) => hf (by rw [← e.1, ← e.2]; exact h))]
theorem layβ_new {d gen : Nat} {loc : Loc} : layβ β d gen loc d gen = loc := by unfold layβ; rw [if_pos ⟨rfl, rfl⟩]

def Exts (β : Nat → Nat → Loc) (ok : Nat → Nat → Prop) (β' : Nat → Nat → Loc) (ok' : Nat → Nat → Prop) : Prop := ∀ t g, ok t g → ok' t g ∧ β' t g = β t g
theorem Exts.refl (β : Nat → Nat → Loc) (ok : Nat → Nat → Prop) : Exts β ok β ok := fun _ _ h => ⟨h, rfl⟩
theorem Exts.trans {β1 β2 β3 : Nat → Nat → Loc} {o1 o2 o3 : Nat → Nat → Prop} (h : Exts β1 o1 β2 o2) (k : Exts β2 o2 β3 o3) : Exts β1 o1 β3 o3 :=
  fun t g hk => ⟨(k t g (h t g hk).1).1, ((k t g (h t g hk).1).2).trans (h t g hk).2⟩
theorem exts_lay {d gen : Nat} {loc : Loc} (hf : ¬ ok d gen) : Exts β ok (layβ β d gen loc) (layok ok d gen) := fun _ _ hk => ⟨.inl hk, layβ_old hf hk⟩

structure Lays (n0 : Nat → Prop) (β : Nat → Nat → Loc) (ok : Nat → Nat → Prop) (st : St) (w w' : World) (d : Nat) (r : Reg) (σ' : Sto) (loc : Loc) : Prop where
  fresh : ¬ ok d st.gen
  gen : r.g = st.gen
  sto : ∀ t r', σ'[t]? = some (some r') → (t = d ∧ r' = r) ∨ (t ≠ d ∧ st.σ[t]? = some (some r'))
  size : w.heap.size ≤ w'.heap.size
  same : ∀ b, b < w.heap.size → (loc.isNil = true ∨ b ≠ loc.block) → w'.heap[b]? = w.heap[b]?
  place : loc.isNil = false → n0 loc.block ∧ (w.heap.size ≤ loc.block ∨ ∃ k rk, st.σ[k]? = some (some rk) ∧ (β k rk.g).isNil = false ∧ (β k rk.g).block = loc.block ∧ (k = d ∨ ∀ r', σ'[k]? ≠ some (some r')))

theorem reg_lt (h : StRel n0 ext β ok st a w) {t : Nat} {r : Reg} (hr : st.σ[t]? = some (some r)) (hn : (β t r.g).isNil = false) : (β t r.g).block < w.heap.size := by
  have lt : ∀ (o : Obj), w.heap[(β t r.g).block]? = some o → (β t r.g).block < w.heap.size := by
    intro o ho
    rcases Nat.lt_or_ge (β t r.g).block w.heap.size with hl | hl
    · exact hl
    · simp [Array.getElem?_eq_none hl] at ho
  obtain ⟨_, hreg⟩ := h.regs t r hr
  cases r with
  | box => obtain ⟨_, _, _, _, _, _, h3, _⟩ := hreg; exact lt _ h3
  | row =>
    obtain ⟨_, _, _, h4⟩ := hreg
    rcases h4 with ⟨h5, _⟩ | ⟨_, _, _, _, _, _, h7, _⟩
    · simp only [Reg.g] at hn; rw [hn] at h5; cases h5
    · exact lt _ h7
  | mapr => obtain ⟨_, _, _, _, h3, _⟩ := hreg; exact lt _ h3

theorem reg_dirt (h : StRel n0 ext β ok st a w) {t : Nat} {r : Reg} (hr : st.σ[t]? = some (some r)) (hn : (β t r.g).isNil = false) : n0 (β t r.g).block := by
  obtain ⟨_, h2⟩ := h.regs t r hr
  cases r with
  | box g cs => exact h2.2.1
  | row g es els =>
    rcases h2.2.2.2 with ⟨h3, _⟩ | ⟨_, h4, _⟩
    · simp only [Reg.g] at hn; rw [h3] at hn; cases hn
    · exact h4
  | mapr g ents => exact h2.2.1
theorem Lays.grows {d : Nat} {r : Reg} {σ' : Sto} {loc : Loc} (L : Lays n0 β ok st w w' d r σ' loc) (h : StRel n0 ext β ok st a w) :
    Grows w w' (ownOf ext β st.σ) (ownOf ext (layβ β d st.gen loc) σ') := by
  intro b o v h1 h2
  have hb := cell?_lt h2
  have hne : loc.isNil = true ∨ b ≠ loc.block := by
    cases hn : loc.isNil with
    | true => exact .inl rfl
    | false =>
      refine .inr fun e => ?_
      rcases (L.place hn).2 with h3 | ⟨k, rk, h3, h4, h5, _⟩
      · omega
      · exact h1 (.inr ⟨k, rk, h3, h4, by rw [h5, e]⟩)
  refine ⟨fun h3 => ?_, ?_⟩
  · rcases h3 with h3 | ⟨t, r', h3, h4, h5⟩
    · exact h1 (.inl h3)
    · rcases L.sto _ _ h3 with ⟨rfl, rfl⟩ | ⟨h6, h7⟩
      · rw [L.gen, layβ_new] at h4 h5
        rcases hne with hne | hne
        · rw [hne] at h4; cases h4
        · exact hne h5.symm
      · have hok := (h.regs _ _ h7).1
        rw [layβ_old L.fresh hok] at h4 h5
        exact h1 (.inr ⟨t, r', h7, h4, h5⟩)
  · have := L.same b hb hne
    unfold World.cell? at h2 ⊢
    simp only [this]; exact h2

theorem Lays.rel {d : Nat} {r : Reg} {σ' : Sto} {loc : Loc} (L : Lays n0 β ok st w w' d r σ' loc) (h : StRel n0 ext β ok st a w)
    (hreg : RegOk n0 w' (ownOf ext (layβ β d st.gen loc) σ') (layβ β d st.gen loc) (layok ok d st.gen) d r) :
    StRel n0 ext (layβ β d st.gen loc) (layok ok d st.gen) ⟨st.τ, σ', st.gen⟩ a w' := by
  have hg := L.grows h
  have hok : ∀ t g, ok t g → layok ok d st.gen t g := fun _ _ => .inl
  have hβ : ∀ t g, ok t g → layβ β d st.gen loc t g = β t g := fun _ _ => layβ_old L.fresh
  have apart : ∀ t r', t ≠ d → st.σ[t]? = some (some r') → σ'[t]? = some (some r') → (β t r'.g).isNil = false → loc.isNil = true ∨ (β t r'.g).block ≠ loc.block := by
    intro t r' htd h7 h7' hnn
    cases hn : loc.isNil with
    | true => exact .inl rfl
    | false =>
      refine .inr fun e => ?_
      rcases (L.place hn).2 with h3 | ⟨k, rk, h3, h4, h5, h6⟩
      · have := reg_lt h h7 hnn; omega
      · have hkt : k ≠ t := by
          rintro rfl
          rcases h6 with h6 | h6
          · exact htd h6
          · exact h6 _ h7'
        exact h.dist k t rk r' h3 h7 hkt h4 hnn (by rw [h5, e])
  refine ⟨h.temps.mono hg hok hβ, ?_, ?_, h.extlt, fun b hb => h.n0le b (Nat.le_trans L.size hb), h.defers, h.glob.mono hg⟩
  · intro t r' h3
    rcases L.sto _ _ h3 with ⟨rfl, rfl⟩ | ⟨h6, h7⟩
    · exact ⟨.inr ⟨rfl, L.gen⟩, hreg⟩
    · obtain ⟨hk, hr⟩ := h.regs _ _ h7
      refine ⟨.inl hk, hr.mono hβ hk hok hg (fun hn => L.same _ (reg_lt h h7 hn) (apart t r' h6 h7 h3 hn))⟩
  · intro t t' r1 r2 h1 h2 hne n1 n2
    simp only at h1 h2
    rcases L.sto _ _ h1 with ⟨rfl, rfl⟩ | ⟨h6, h7⟩ <;> rcases L.sto _ _ h2 with ⟨rfl, rfl⟩ | ⟨h8, h9⟩
    · exact absurd rfl hne
    · have hk := (h.regs _ _ h9).1
      rw [hβ _ _ hk] at n2 ⊢
      rw [L.gen, layβ_new] at n1 ⊢
      rcases apart _ _ h8 h9 h2 n2 with e | e
      · rw [e] at n1; cases n1
      · exact fun e' => e e'.symm
    · have hk := (h.regs _ _ h7).1
      rw [hβ _ _ hk] at n1 ⊢
      rw [L.gen, layβ_new] at n2 ⊢
      rcases apart _ _ h6 h7 h1 n1 with e | e
      · rw [e] at n2; cases n2
      · exact e
    · have hk := (h.regs _ _ h7).1
      have hk' := (h.regs _ _ h9).1
      rw [hβ _ _ hk] at n1 ⊢
      rw [hβ _ _ hk'] at n2 ⊢
      exact h.dist _ _ _ _ h7 h9 hne n1 n2

theorem set_sto {σ : Sto} {d : Nat} {r : Reg} : ∀ t r', (σ.set d (some r))[t]? = some (some r') → (t = d ∧ r' = r) ∨ (t ≠ d ∧ σ[t]? = some (some r')) := by
  intro t r' h
  rw [List.getElem?_set] at h
  split at h
  · rename_i e; subst e
    split at h
    · simp at h; exact .inl ⟨rfl, h.symm⟩
    · cases h
  · rename_i e; exact .inr ⟨fun e' => e e'.symm, h⟩

theorem set1_sto {σ : Sto} {d : Nat} {r : Reg} : ∀ t r', (applyUpd σ [(d, some r)])[t]? = some (some r') → (t = d ∧ r' = r) ∨ (t ≠ d ∧ σ[t]? = some (some r')) := set_sto

theorem heap_push {w : World} {o : Obj} {b : Nat} (hb : b < w.heap.size) : (w.heap.push o)[b]? = w.heap[b]? := by
  rw [Array.getElem?_push, if_neg (by omega)]

theorem lays_new (h : StRel n0 ext β ok st a w) {d : Nat} (hf : ¬ ok d st.gen) {r : Reg} (hr : r.g = st.gen) {o : Obj} {σ' : Sto} (hσ : ∀ t r', σ'[t]? = some (some r') → (t = d ∧ r' = r) ∨ (t ≠ d ∧ st.σ[t]? = some (some r')))
    {loc : Loc} (hl : loc.block = w.heap.size) : Lays n0 β ok st w { w with heap := w.heap.push o } d r σ' loc :=
  ⟨hf, hr, hσ, by simp, fun b hb _ => heap_push hb, fun _ => ⟨by rw [hl]; exact h.n0le _ (Nat.le_refl _), .inl (by rw [hl]; exact Nat.le_refl _)⟩⟩

theorem below_push (w : World) (o : Obj) : Below w.heap.size w { w with heap := w.heap.push o } := ⟨rfl, rfl, rfl, by simp, fun _ hb => heap_push hb⟩

def Laid (n0 : Nat → Prop) (ext : Nat → Prop) (β : Nat → Nat → Loc) (ok : Nat → Nat → Prop) (st : St) (dst : Option Tmp) (r : Res) (a : Act) (w : World) (run : Result Value) : Prop :=
  ∃ v w' β' ok', run = .ok v w' ∧ StRel n0 ext β' ok' (st.after dst r) (a.put dst v) w' ∧ Bel n0 w w' ∧ (∀ t g, ok' t g → ok t g ∨ (dst = some t ∧ g = st.gen)) ∧ Exts β ok β' ok'

theorem laid_new' (h : StRel n0 ext β ok st a w) {d : Nat} (hf : ¬ ok d st.gen) {r : Reg} (hr : r.g = st.gen) {o : Obj} {loc : Loc} (hl : loc.block = w.heap.size) {upd : List (Nat × Option Reg)}
    (hσ : ∀ t r', (applyUpd st.σ upd)[t]? = some (some r') → (t = d ∧ r' = r) ∨ (t ≠ d ∧ st.σ[t]? = some (some r')))
    (hreg : ∀ own', Grows w { w with heap := w.heap.push o } (ownOf ext β st.σ) own' → RegOk n0 { w with heap := w.heap.push o } own' (layβ β d st.gen loc) (layok ok d st.gen) d r)
    {x : AV} {v : Value} {reads : List Nat} (hx : ∀ own', RepV { w with heap := w.heap.push o } own' (layβ β d st.gen loc) (layok ok d st.gen) x v) {run : Result Value} (hrun : run = .ok v { w with heap := w.heap.push o }) :
    Laid n0 ext β ok st (some d) ⟨x, upd, reads⟩ a w run := by
  have L := lays_new (r := r) (o := o) h hf hr hσ hl
  have R := L.rel h (hreg _ (L.grows h))
  refine ⟨v, { w with heap := w.heap.push o }, layβ β d st.gen loc, layok ok d st.gen, hrun, ?_, .of_below (below_push w o) h.n0le, ?_, exts_lay hf⟩
  · have := R.still (some d) (hx _)
    exact this
  · rintro t g (hk | ⟨rfl, rfl⟩)
    · exact .inl hk
    · exact .inr ⟨rfl, rfl⟩
theorem laid_new (h : StRel n0 ext β ok st a w) {d : Nat} (hf : ¬ ok d st.gen) {r : Reg} (hr : r.g = st.gen) {o : Obj} {loc : Loc} (hl : loc.block = w.heap.size)
    (hreg : ∀ own', Grows w { w with heap := w.heap.push o } (ownOf ext β st.σ) own' → RegOk n0 { w with heap := w.heap.push o } own' (layβ β d st.gen loc) (layok ok d st.gen) d r)
    {x : AV} {v : Value} {reads : List Nat} (hx : ∀ own', RepV { w with heap := w.heap.push o } own' (layβ β d st.gen loc) (layok ok d st.gen) x v) {run : Result Value} (hrun : run = .ok v { w with heap := w.heap.push o }) :
    Laid n0 ext β ok st (some d) ⟨x, [(d, some r)], reads⟩ a w run := laid_new' h hf hr hl set1_sto hreg hx hrun

theorem newRow_run (t : TypeId) (c : Array Value) : (newRow t c).run P w = .ok ⟨w.heap.size, 0, none⟩ { w with heap := w.heap.push (.cells c t) } := by
  simp [newRow, newObj, Sem.run]

theorem laid_var (h : StRel n0 ext β ok st a w) {d : Nat} (hf : ¬ ok d st.gen) {t : TypeId} {cs : List AV} {v : Value} (hrep : RepVL w (ownOf ext β st.σ) β ok cs v.cells.toList) {reads : List Nat} :
    Laid n0 ext β ok st (some d) ⟨.ptr d st.gen 0, [(d, some (.box st.gen cs))], reads⟩ a w ((do pure (.pointer (some (← newVar t v))) : Sem Value).run P w) := by
  have hok : ∀ t g, ok t g → layok ok d st.gen t g := fun _ _ => .inl
  refine laid_new (o := .cells v.cells t) (loc := ⟨w.heap.size, 0, 0, false⟩) h hf rfl rfl (fun own' hg => ?_) (v := .pointer (some ⟨w.heap.size, 0, none⟩)) (fun own' => ?_) ?_
  · simp only [RegOk, layβ_new]
    exact ⟨trivial, h.n0le _ (Nat.le_refl _), v.cells, t, v.cells.toList, [], by simp, by simp, hrep.mono hg hok (fun _ _ => layβ_old hf), Nat.zero_le _⟩
  · have := RepV.ptr (w := { w with heap := w.heap.push (.cells v.cells t) }) (own := own') (β := layβ β d st.gen ⟨w.heap.size, 0, 0, false⟩) (ok := layok ok d st.gen) (t := d) (g := st.gen) (off := 0) (.inr ⟨rfl, rfl⟩)
    rw [layβ_new] at this; exact this
  · simp only [newVar, Sem.run_bind, newRow_run, Result.andThen_ok, Sem.run_pure]

theorem laid_row' (h : StRel n0 ext β ok st a w) {d : Nat} (hf : ¬ ok d st.gen) {e : TypeId} {es : Nat} {els : List (List AV)} {vs rest : List Value} {c : Array Value} {cap : Nat} (hc : c.toList = vs ++ rest)
    (hrep : RepCL w (ownOf ext β st.σ) els.flatten vs) (hes : ∀ x ∈ els, x.length = es) (hcap : els.length ≤ cap) (hsz : cap * es ≤ c.size) {reads : List Nat} {run : Result Value} {upd : List (Nat × Option Reg)}
    (hσ : ∀ t r', (applyUpd st.σ upd)[t]? = some (some r') → (t = d ∧ r' = .row st.gen es els) ∨ (t ≠ d ∧ st.σ[t]? = some (some r')))
    (hrun : run = .ok (.slice (some ⟨w.heap.size, 0, none⟩) els.length cap) { w with heap := w.heap.push (.cells c e) }) :
    Laid n0 ext β ok st (some d) ⟨.view d st.gen, upd, reads⟩ a w run := by
  refine laid_new' (o := .cells c e) (loc := ⟨w.heap.size, cap, els.length, false⟩) h hf rfl rfl hσ (fun own' hg => ?_) (fun own' => ?_) hrun
  · simp only [RegOk, layβ_new]
    exact ⟨trivial, hes, hcap, .inr ⟨trivial, h.n0le _ (Nat.le_refl _), c, e, vs, rest, by simp, hc, hrep.mono hg, hsz⟩⟩
  · have := RepV.view (w := { w with heap := w.heap.push (.cells c e) }) (own := own') (β := layβ β d st.gen ⟨w.heap.size, cap, els.length, false⟩) (ok := layok ok d st.gen) (t := d) (g := st.gen) (.inr ⟨rfl, rfl⟩)
    rw [layβ_new] at this; exact this
theorem laid_row (h : StRel n0 ext β ok st a w) {d : Nat} (hf : ¬ ok d st.gen) {e : TypeId} {es : Nat} {els : List (List AV)} {vs rest : List Value} {c : Array Value} {cap : Nat} (hc : c.toList = vs ++ rest)
    (hrep : RepCL w (ownOf ext β st.σ) els.flatten vs) (hes : ∀ x ∈ els, x.length = es) (hcap : els.length ≤ cap) (hsz : cap * es ≤ c.size) {reads : List Nat} {run : Result Value}
    (hrun : run = .ok (.slice (some ⟨w.heap.size, 0, none⟩) els.length cap) { w with heap := w.heap.push (.cells c e) }) :
    Laid n0 ext β ok st (some d) ⟨.view d st.gen, [(d, some (.row st.gen es els))], reads⟩ a w run := laid_row' h hf hc hrep hes hcap hsz set1_sto hrun

theorem laid_rowF (h : StRel n0 ext β ok st a w) {d : Nat} (hf : ¬ ok d st.gen) {e : TypeId} {es : Nat} {els : List (List AV)} {vs rest : List Value} {c : Array Value} (hc : c.toList = vs ++ rest)
    (hrep : RepCL w (ownOf ext β st.σ) els.flatten vs) (hes : ∀ x ∈ els, x.length = es) (hsz : els.length * es ≤ c.size) {reads : List Nat} {run : Result Value}
    (hrun : run = .ok (.slice (some ⟨w.heap.size, 0, none⟩) els.length els.length) { w with heap := w.heap.push (.cells c e) }) :
    Laid n0 ext β ok st (some d) ⟨.viewF d st.gen, [(d, some (.row st.gen es els))], reads⟩ a w run := by
  refine laid_new' (o := .cells c e) (loc := ⟨w.heap.size, els.length, els.length, false⟩) h hf rfl rfl set1_sto (fun own' hg => ?_) (fun own' => ?_) hrun
  · simp only [RegOk, layβ_new]
    exact ⟨trivial, hes, Nat.le_refl _, .inr ⟨trivial, h.n0le _ (Nat.le_refl _), c, e, vs, rest, by simp, hc, hrep.mono hg, hsz⟩⟩
  · have := RepV.viewF (w := { w with heap := w.heap.push (.cells c e) }) (own := own') (β := layβ β d st.gen ⟨w.heap.size, els.length, els.length, false⟩) (ok := layok ok d st.gen) (t := d) (g := st.gen) (.inr ⟨rfl, rfl⟩) (by rw [layβ_new])
    rw [layβ_new] at this; exact this

theorem alloc_sound (h : StRel n0 ext β ok st a w) {d : Nat} (hf : ¬ ok d st.gen) {t : TypeId} {z : List AV} (hz : (ti P t).zero = some z) (hk : okSize P t = true) :
    Laid n0 ext β ok st (some d) ⟨.ptr d st.gen 0, [(d, some (.box st.gen z))], []⟩ a w ((Instr.alloc t true (.tuple #[])).run P w) := by
  obtain ⟨i, dd, hi, _, _, _, _, hzero⟩ := okSize_info hk
  rw [hz] at hzero
  obtain ⟨zv, hzv, rfl⟩ : ∃ zv, i.zero = some zv ∧ z = zv.cells.toList.map leaf := by
    cases hq : i.zero with
    | none => rw [hq] at hzero; cases hzero
    | some zv => rw [hq] at hzero; simp at hzero; exact ⟨zv, rfl, hzero⟩
  have := laid_var (P := P) (t := t) h hf (v := zv) (cs := zv.cells.toList.map leaf) (leafs_repV _) (reads := [])
  have e : (Instr.alloc t true (.tuple #[])).run P w = ((do pure (.pointer (some (← newVar t zv))) : Sem Value).run P w) := by
    simp only [Instr.alloc, Sem.run_bind, zeroValue, typeInfo, Sem.run, program]
    simp [hi, hzv, pure]
  rw [e]; exact this

theorem box_sound (h : StRel n0 ext β ok st a w) {d : Nat} (hf : ¬ ok d st.gen) {t : TypeId} {x : AV} {v : Value} (hx : RepV w (ownOf ext β st.σ) β ok x v) {xs : List AV} (hc : cellsA x = some xs) :
    Laid n0 ext β ok st (some d) ⟨.ptr d st.gen 0, [(d, some (.box st.gen xs))], []⟩ a w ((Instr.box t v).run P w) := by
  have := laid_var (P := P) (t := t) h hf (v := v) (cs := xs) (cellsA_rep hc hx) (reads := [])
  exact this
end
end Go.Ab
end

section
namespace Go.Ab
open Go.RowKit

section
variable {P : Program} {n0 : Nat → Prop} {ext : Nat → Prop} {β : Nat → Nat → Loc} {ok : Nat → Nat → Prop} {st : St} {a : Act} {w w' : World} {own : Nat → Prop}

theorem StRel.inplace (h : StRel n0 ext β ok st a w) {k : Nat} {rk rk' : Reg} (hk : st.σ[k]? = some (some rk)) (hg : rk'.g = rk.g) (hn : (β k rk.g).isNil = false)
    (hsz : w'.heap.size = w.heap.size) (hw : ∀ b, b ≠ (β k rk.g).block → w'.heap[b]? = w.heap[b]?) (hreg : ∀ own', Grows w w' (ownOf ext β st.σ) own' → RegOk n0 w' own' β ok k rk') :
    StRel n0 ext β ok ⟨st.τ, st.σ.set k (some rk'), st.gen⟩ a w' := by
  have hown : ∀ b, ownOf ext β (st.σ.set k (some rk')) b → ownOf ext β st.σ b := by
    rintro b (h1 | ⟨t, r, h1, h2, h3⟩)
    · exact .inl h1
    · rcases set_sto _ _ h1 with ⟨rfl, rfl⟩ | ⟨_, h4⟩
      · exact .inr ⟨_, rk, hk, by rw [← hg]; exact h2, by rw [← hg]; exact h3⟩
      · exact .inr ⟨t, r, h4, h2, h3⟩
  have hgr : Grows w w' (ownOf ext β st.σ) (ownOf ext β (st.σ.set k (some rk'))) := by
    intro b o v h1 h2
    refine ⟨fun h3 => h1 (hown b h3), ?_⟩
    have hne : b ≠ (β k rk.g).block := fun e => h1 (.inr ⟨k, rk, hk, hn, e.symm⟩)
    unfold World.cell? at h2 ⊢
    simp only [hw b hne]; exact h2
  refine ⟨h.temps.mono hgr (fun _ _ x => x) (fun _ _ _ => rfl), ?_, ?_, h.extlt, by rw [hsz]; exact h.n0le, h.defers, h.glob.mono hgr⟩
  · intro t r h1
    rcases set_sto _ _ h1 with ⟨rfl, rfl⟩ | ⟨h3, h4⟩
    · exact ⟨by rw [hg]; exact (h.regs _ _ hk).1, hreg _ hgr⟩
    · obtain ⟨h5, h6⟩ := h.regs _ _ h4
      exact ⟨h5, h6.mono (fun _ _ _ => rfl) h5 (fun _ _ x => x) hgr (fun hn' => hw _ (h.dist t k r rk h4 hk h3 hn' hn))⟩
  · intro t t' r r' h1 h2 hne n1 n2
    simp only at h1 h2
    rcases set_sto _ _ h1 with ⟨rfl, rfl⟩ | ⟨h3, h4⟩ <;> rcases set_sto _ _ h2 with ⟨rfl, rfl⟩ | ⟨h5, h6⟩
    · exact absurd rfl hne
    · rw [hg] at n1 ⊢; exact h.dist _ _ _ _ hk h6 hne n1 n2
    · rw [hg] at n2 ⊢; exact h.dist _ _ _ _ h4 hk hne n1 n2
    · exact h.dist _ _ _ _ h4 h6 hne n1 n2

theorem heap_lt {b : Nat} {o : Obj} (h : w.heap[b]? = some o) : b < w.heap.size := by
  rcases Nat.lt_or_ge b w.heap.size with hl | hl
  · exact hl
  · simp [Array.getElem?_eq_none hl] at h

theorem below_setRow {b : Nat} (hb : n0 b) (c : Array Value) : Bel n0 w (w.setRow b c) :=
  ⟨rfl, rfl, rfl, by simp [World.setRow], fun k hk => setRow_other w b k c (by rintro rfl; exact hk hb)⟩

theorem leaf_one {x : AV} {v : Value} (hl : leafB x = true) (h : RepV w own β ok x v) : v.oneCell' = true := by
  cases h with
  | closed h =>
    cases h with
    | lit => cases v <;> first | rfl | (simp [leafB] at hl)
    | agg => simp [leafB] at hl
    | tuple => simp [leafB] at hl
    | any => simp [leafB] at hl
    | _ => rfl
  | agg => simp [leafB] at hl
  | func => rfl
  | mfunc => rfl
  | tuple => simp [leafB] at hl
  | view => rfl
  | viewF => rfl
  | ptr => rfl
  | rptr => rfl
  | mref => rfl
  | sl => rfl
theorem leafs_one : ∀ {xs : List AV} {vs : List Value}, xs.all leafB = true → RepVL w own β ok xs vs → ∀ u ∈ vs, u.oneCell' = true
  | [], _, _, h, u, hu => by cases h; cases hu
  | x :: xs, _, hl, h, u, hu => by
    cases h with
    | cons h1 h2 =>
      simp only [List.all_cons, Bool.and_eq_true] at hl
      rcases List.mem_cons.mp hu with rfl | hu
      · exact leaf_one hl.1 h1
      · exact leafs_one hl.2 h2 u hu
theorem closed_rep {x : AV} {v : Value} (hl : closedB x = true) (h : RepV w own β ok x v) : RepC w own x v := by
  cases h with
  | closed h => exact h
  | agg => simp [closedB] at hl
  | @func fn cs vs h1 =>
    cases h1 with
    | nil => exact .func .nil
    | cons => simp [closedB] at hl
  | mfunc => simp [closedB] at hl
  | tuple => simp [closedB] at hl
  | view => simp [closedB] at hl
  | viewF => simp [closedB] at hl
  | ptr => simp [closedB] at hl
  | rptr => simp [closedB] at hl
  | mref => simp [closedB] at hl
  | sl => simp [closedB] at hl
theorem closeds_rep : ∀ {xs : List AV} {vs : List Value}, xs.all closedB = true → RepVL w own β ok xs vs → RepCL w own xs vs
  | [], _, _, h => by cases h; exact .nil
  | x :: xs, _, hl, h => by
    cases h with
    | cons h1 h2 =>
      simp only [List.all_cons, Bool.and_eq_true] at hl
      exact .cons (closed_rep hl.1 h1) (closeds_rep hl.2 h2)

def Stored (n0 : Nat → Prop) (ext : Nat → Prop) (β : Nat → Nat → Loc) (ok : Nat → Nat → Prop) (st : St) (r : Res) (a : Act) (w : World) (run : Result Unit) : Prop :=
  ∃ w', run = .ok () w' ∧ StRel n0 ext β ok ⟨st.τ, applyUpd st.σ r.upd, st.gen⟩ a w' ∧ Bel n0 w w' ∧ r.v = .any

theorem run_storeVar {t : TypeId} {i : TypeInfo} (hi : P.info? t = some i) {b off : Nat} {c : Array Value} {ty : TypeId} {v : Value} (hh : w.heap[b]? = some (.cells c ty (0, 0))) (hs : v.cells.size = i.size) (hl : off + v.cells.size ≤ c.size)
    (h1 : ∀ u ∈ v.cells.toList, u.oneCell' = true) : (storeVar t ⟨b, off, none⟩ v).run P w = .ok () (w.setRow b (c.toList.take off ++ v.cells.toList ++ c.toList.drop (off + v.cells.toList.length)).toArray) := by
  have := run_storeCells_at P b off ty v.cells.toList 0 c w hh (by simpa using hl) h1
  simp only [Nat.add_zero] at this
  simp only [storeVar, Sem.run_bind, run_sizeOf hi, Result.andThen_ok]
  rw [if_neg (by simpa using hs)]
  exact this

theorem set_flatten {es : Nat} : ∀ {els : List (List AV)} {i : Nat} {y : List AV}, (∀ e ∈ els, e.length = es) → y.length = es → i < els.length → (els.set i y).flatten = els.flatten.take (i * es) ++ y ++ els.flatten.drop ((i + 1) * es)
  | [], i, y, _, _, h => by simp at h
  | e :: els, 0, y, hl, hy, _ => by
    have h0 : e.length = es := hl e (by simp)
    simp [← h0]
  | e :: els, i + 1, y, hl, hy, h => by
    have h0 : e.length = es := hl e (by simp)
    have ih := set_flatten (els := els) (i := i) (y := y) (fun x hx => hl x (by simp [hx])) hy (by simpa using h)
    have e1 : (i + 1) * es = e.length + i * es := by rw [h0, Nat.add_mul]; omega
    have e2 : (i + 1 + 1) * es = e.length + (i + 1) * es := by rw [h0, Nat.add_mul (i + 1)]; omega
    rw [List.set_cons_succ, List.flatten_cons, ih, List.flatten_cons, e1, e2, List.take_append, List.drop_append, List.take_of_length_le (i := e.length + i * es) (by omega), List.drop_of_length_le (i := e.length + (i + 1) * es) (by omega)]
    simp only [Nat.add_sub_cancel_left, List.nil_append, List.append_assoc, e1]

theorem length_setA {cs xs : List AV} {off : Nat} (h : off + xs.length ≤ cs.length) : (setA cs off xs).length = cs.length := by
  simp only [setA, List.length_append, List.length_take, List.length_drop]; omega

theorem storeM_sound (h : StRel n0 ext β ok st a w) {t : TypeId} {x p : AV} {vx vp : Value} {pre : Prop} {r : Res} (hx : RepV w (ownOf ext β st.σ) β ok x vx) (hp : RepV w (ownOf ext β st.σ) β ok p vp)
    (he : storeM P st.σ t x p = some (pre, r)) (hpre : pre) : Stored n0 ext β ok st r a w ((Instr.storeAt t vp vx).run P w) := by
  unfold storeM at he
  split at he
  · rename_i k g off
    split at he
    · rename_i cs xs hl hc
      split at he
      · rename_i hcond
        obtain ⟨h1, h2, h3, h4⟩ := hcond
        simp only [Option.some.injEq, Prod.mk.injEq] at he; obtain ⟨_, rfl⟩ := he
        obtain ⟨i, d, hi, hs, _, _, _, _⟩ := okSize_info h4
        obtain ⟨_, rfl⟩ := hp.ptr_open
        have hb := lookBox_some hl
        obtain ⟨_, hreg⟩ := h.regs _ _ hb
        obtain ⟨hn, hn0, c, ty, vs, rest, hh, hcl, hrep, hcap⟩ := hreg
        have hxs := cellsA_rep hc hx
        have e1 := hxs.length; have e2 := hrep.length
        have hsz : vx.cells.size = xs.length := by simp at e1; omega
        have hcs : cs.length ≤ c.size := by have := congrArg List.length hcl; simp at this; omega
        have hrun := run_storeVar (P := P) (off := off) (v := vx) hi hh (by rw [hsz, hs, h1]) (by omega) (leafs_one h3 hxs)
        have e3 : vx.cells.toList.length = xs.length := e1.symm
        have hnew : RepVL w (ownOf ext β st.σ) β ok (setA cs off xs) (vs.take off ++ vx.cells.toList ++ vs.drop (off + xs.length)) := by
          rw [setA]
          exact ((hrep.take off).append hxs).append (hrep.drop _)
        refine ⟨_, by simpa [Instr.storeAt, Instr.sureAddr] using hrun, ?_, below_setRow hn0 _, rfl⟩
        refine h.inplace hb rfl hn (by simp [World.setRow]) (fun b hb => setRow_other _ _ _ _ hb) (fun own' hg => ?_)
        refine ⟨hn, hn0, _, ty, vs.take off ++ vx.cells.toList ++ vs.drop (off + xs.length), rest, setRow_heap _ _ _ _ _ _ hh, ?_, hnew.mono hg (fun _ _ x => x) (fun _ _ _ => rfl), ?_⟩
        · have e6 : vx.cells.size = xs.length := by simpa using e3
          simp only [hcl, e6, Array.length_toList]
          rw [List.take_append_of_le_length (by omega), List.drop_append_of_le_length (by omega)]
          simp only [List.append_assoc]
        · have : c.toList.length = c.size := by simp
          simp only [List.size_toArray, List.length_append, List.length_take, List.length_drop, this]
          simp only [Array.length_toList] at *
          omega
      · cases he
    · cases he
  · rename_i k g es i0 off
    split at he
    · rename_i es' els xs hl hc
      split at he
      · rename_i hcond
        obtain ⟨h0, h1, h2, h5, h3, h4⟩ := hcond
        subst h0
        simp only [Option.some.injEq, Prod.mk.injEq] at he; obtain ⟨rfl, rfl⟩ := he
        obtain ⟨i, d, hi, hs, _, _, _, _⟩ := okSize_info h4
        obtain ⟨_, rfl⟩ := hp.rptr_open
        have hb := lookRow_some hl
        obtain ⟨_, hreg⟩ := h.regs _ _ hb
        obtain ⟨hlen, hes, hcap, hor⟩ := hreg
        rcases hor with ⟨_, e0, _⟩ | ⟨hn, hn0, c, ty, vs, rest, hh, hcl, hrep, hsz0⟩
        · subst e0; simp at hpre
        · have hxs := cellsA_rep hc hx
          have hxc := closeds_rep h5 hxs
          have e1 := hxs.length; have e2 := hrep.length
          have hfl := length_flatten_const hes
          have hel : (els.getD i0 []).length = es := by
            rw [List.getD_eq_getElem?_getD, List.getElem?_eq_getElem hpre]; exact hes _ (List.getElem_mem hpre)
          have hmul : (i0 + 1) * es ≤ els.length * es := Nat.mul_le_mul_right _ hpre
          have hmul2 : (i0 + 1) * es = i0 * es + es := by rw [Nat.add_mul]; omega
          have hcsz : vs.length ≤ c.size := by have := congrArg List.length hcl; simp at this; omega
          have hrun := run_storeVar (P := P) (off := i0 * es + off) (v := vx) hi hh (by simp at e1; omega) (by simp at e1; omega) (leafs_one h3 hxs)
          have e3 : vx.cells.toList.length = xs.length := e1.symm
          have hnl : (setA (els.getD i0 []) off xs).length = es := by rw [length_setA h2, hel]
          have hnew : RepCL w (ownOf ext β st.σ) (els.set i0 (setA (els.getD i0 []) off xs)).flatten (vs.take (i0 * es + off) ++ vx.cells.toList ++ vs.drop (i0 * es + off + xs.length)) := by
            rw [set_flatten hes hnl hpre]
            have e5 : els.flatten.take (i0 * es) ++ setA (els.getD i0 []) off xs ++ els.flatten.drop ((i0 + 1) * es) = els.flatten.take (i0 * es + off) ++ xs ++ els.flatten.drop (i0 * es + off + xs.length) := by
              rw [← getD_flatten hes hpre, setA]
              have q1 : els.flatten.take (i0 * es + off) = els.flatten.take (i0 * es) ++ ((els.flatten.drop (i0 * es)).take es).take off := by
                rw [List.take_take, Nat.min_eq_left (by omega), ← List.take_add]
              have q2 : els.flatten.drop (i0 * es + off + xs.length) = ((els.flatten.drop (i0 * es)).take es).drop (off + xs.length) ++ els.flatten.drop ((i0 + 1) * es) := by
                rw [hmul2, ← List.drop_drop (i := es) (j := i0 * es), List.drop_take]
                have : i0 * es + off + xs.length = i0 * es + (off + xs.length) := by omega
                rw [this, ← List.drop_drop (i := off + xs.length) (j := i0 * es)]
                generalize els.flatten.drop (i0 * es) = q
                have : q.drop es = (q.drop (off + xs.length)).drop (es - (off + xs.length)) := by rw [List.drop_drop]; congr 1; omega
                rw [this, List.take_append_drop]
              rw [q1, q2]; simp [List.append_assoc]
            rw [e5]
            exact ((hrep.take _).append hxc).append (hrep.drop _)
          refine ⟨_, by simpa [Instr.storeAt, Instr.sureAddr] using hrun, ?_, below_setRow hn0 _, rfl⟩
          refine h.inplace hb rfl hn (by simp [World.setRow]) (fun b hb => setRow_other _ _ _ _ hb) (fun own' hg => ?_)
          refine ⟨by simpa using hlen, ?_, by simpa using hcap, .inr ⟨hn, hn0, _, ty, vs.take (i0 * es + off) ++ vx.cells.toList ++ vs.drop (i0 * es + off + xs.length), rest, setRow_heap _ _ _ _ _ _ hh, ?_, hnew.mono hg, ?_⟩⟩
          · intro e he
            rcases List.mem_or_eq_of_mem_set he with he | rfl
            · exact hes _ he
            · exact hnl
          · have e6 : vx.cells.size = xs.length := by simpa using e3
            simp only [hcl, e6]
            rw [List.take_append_of_le_length (by omega), List.drop_append_of_le_length (by omega)]
            simp only [List.append_assoc]
          · have : c.toList.length = c.size := by simp
            simp only [List.size_toArray, List.length_append, List.length_take, List.length_drop, this]
            simp only [Array.length_toList] at *
            omega
      · cases he
    · cases he
  · cases he
end
end Go.Ab
end

section
set_option linter.unusedSimpArgs false
set_option linter.unusedVariables false
namespace Go.Ab
open Go.RowKit

section
variable {P : Program} {n0 : Nat → Prop} {ext : Nat → Prop} {β : Nat → Nat → Loc} {ok : Nat → Nat → Prop} {st : St} {a : Act} {w w' : World} {own : Nat → Prop}

theorem ti_zero {t : TypeId} {i : TypeInfo} {z : List AV} (hz : (ti P t).zero = some z) (hzero : (ti P t).zero = i.zero.map (fun v => v.cells.toList.map leaf)) : ∃ zv, i.zero = some zv ∧ z = zv.cells.toList.map leaf := by
  rw [hz] at hzero
  cases hq : i.zero with
  | none => rw [hq] at hzero; cases hzero
  | some zv => rw [hq] at hzero; simp at hzero; exact ⟨zv, rfl, hzero⟩

theorem madeCells_rep {z : List AV} {zv : Array Value} {es : Nat} (hz : RepCL w own z zv.toList) (hl : z.length = es) : ∀ n, RepCL w own (List.replicate n z).flatten ((madeCells zv (n * es)).toList)
  | 0 => by simp [madeCells, Array.range_zero']; exact .nil
  | n + 1 => by
    have e1 := hz.length
    have hzs : zv.size = es := by simp at e1; omega
    have ih := madeCells_rep hz hl n
    rw [List.replicate_succ']
    simp only [List.flatten_append, List.flatten_singleton]
    have e2 : (madeCells zv ((n + 1) * es)).toList = (madeCells zv (n * es)).toList ++ zv.toList := by
      apply List.ext_getElem?
      intro j
      simp only [madeCells, Array.toList_map, Array.toList_range, List.getElem?_map, List.getElem?_append, List.length_map, List.length_range, List.getElem?_range']
      have hm : (n + 1) * es = n * es + es := by rw [Nat.add_mul]; omega
      by_cases h1 : j < n * es
      · rw [if_pos h1, List.getElem?_range (by omega), List.getElem?_range h1]
      · rw [if_neg h1]
        by_cases h2 : j < (n + 1) * es
        · rw [List.getElem?_range h2]
          have hlt : j - n * es < zv.size := by omega
          have hmod : j % zv.size = j - n * es := by
            have : j = (j - n * es) + n * zv.size := by rw [hzs]; omega
            rw [this, Nat.add_mul_mod_self_right, Nat.mod_eq_of_lt (by omega)]; omega
          simp only [Option.map_some, hmod]
          rw [getElem!_pos zv _ hlt]; simp [hlt]
        · rw [List.getElem?_eq_none (by simp; omega), List.getElem?_eq_none (by simp; omega)]; rfl
    rw [e2]
    exact ih.append hz

theorem makeSlice_sound (h : StRel n0 ext β ok st a w) {d : Nat} (hf : ¬ ok d st.gen) {t e : TypeId} {kl kc : IntKind} {n m : Int} {z : List AV} (ht : (ti P t).d = .slice e) (hz : (ti P e).zero = some z) (hk : okSize P e = true) (hl : z.length = (ti P e).size) (hc : z.all closedB = true)
    (h0 : 0 ≤ n) (h1 : n ≤ m) (h2 : m * (ti P e).bytes ≤ 2 ^ 46) (h3 : m ≤ 2 ^ 46) :
    Laid n0 ext β ok st (some d) ⟨.view d st.gen, [(d, some (.row st.gen (ti P e).size (List.replicate n.toNat z)))], []⟩ a w ((Instr.makeSlice t (.int kl n) (.int kc m)).run P w) := by
  obtain ⟨i, dd, hi, hs, hb, _, _, hzero⟩ := okSize_info hk
  obtain ⟨zv, hzv, rfl⟩ := ti_zero hz hzero
  have hrun := run_make (P := P) w t e i zv (ti_slice ht) hi hzv kl kc n m h0 h1 (by rw [hb, Int.mul_comm]; omega) (by omega)
  have hrep : RepCL w (ownOf ext β st.σ) (zv.cells.toList.map leaf) zv.cells.toList := leafs_rep _ _ _
  have hfull := madeCells_rep hrep hl m.toNat
  have hpart := madeCells_rep hrep hl n.toNat
  have hnm : n.toNat * i.size ≤ m.toNat * i.size := Nat.mul_le_mul_right _ (by omega)
  rw [← hs] at hl hfull hpart ⊢
  have esplit : (madeCells zv.cells (m.toNat * i.size)).toList = (madeCells zv.cells (n.toNat * i.size)).toList ++ (madeCells zv.cells (m.toNat * i.size)).toList.drop (n.toNat * i.size) := by
    have : (madeCells zv.cells (n.toNat * i.size)).toList = (madeCells zv.cells (m.toNat * i.size)).toList.take (n.toNat * i.size) := by
      simp only [madeCells, Array.toList_map, Array.toList_range, ← List.map_take, List.take_range, Nat.min_eq_left hnm]
    rw [this, List.take_append_drop]
  refine laid_row (e := e) h hf (c := madeCells zv.cells (m.toNat * i.size)) (cap := m.toNat) (vs := (madeCells zv.cells (n.toNat * i.size)).toList) esplit hpart ?_ (by simp; omega) (by rw [size_madeCells]; exact Nat.le_refl _) ?_
  · intro x hx; rw [List.eq_of_mem_replicate hx]; exact hl
  · rw [hrun, List.length_replicate]; rfl

theorem makeSliceF_sound (h : StRel n0 ext β ok st a w) {d : Nat} (hf : ¬ ok d st.gen) {t e : TypeId} {kl kc : IntKind} {n : Int} {z : List AV} (ht : (ti P t).d = .slice e) (hz : (ti P e).zero = some z) (hk : okSize P e = true) (hl : z.length = (ti P e).size) (hc : z.all closedB = true)
    (h0 : 0 ≤ n) (h2 : n * (ti P e).bytes ≤ 2 ^ 46) (h3 : n ≤ 2 ^ 46) :
    Laid n0 ext β ok st (some d) ⟨.viewF d st.gen, [(d, some (.row st.gen (ti P e).size (List.replicate n.toNat z)))], []⟩ a w ((Instr.makeSlice t (.int kl n) (.int kc n)).run P w) := by
  obtain ⟨i, dd, hi, hs, hb, _, _, hzero⟩ := okSize_info hk
  obtain ⟨zv, hzv, rfl⟩ := ti_zero hz hzero
  have hrun := run_make (P := P) w t e i zv (ti_slice ht) hi hzv kl kc n n h0 (Int.le_refl _) (by rw [hb, Int.mul_comm]; omega) (by omega)
  have hrep : RepCL w (ownOf ext β st.σ) (zv.cells.toList.map leaf) zv.cells.toList := leafs_rep _ _ _
  have hfull := madeCells_rep hrep hl n.toNat
  rw [← hs] at hl hfull ⊢
  refine laid_rowF (e := e) h hf (c := madeCells zv.cells (n.toNat * i.size)) (vs := (madeCells zv.cells (n.toNat * i.size)).toList) (rest := []) (by simp) hfull ?_ (by rw [size_madeCells, List.length_replicate]; exact Nat.le_refl _) ?_
  · intro x hx; rw [List.eq_of_mem_replicate hx]; exact hl
  · rw [hrun, List.length_replicate]; rfl

theorem foldl_size (off : Nat) : ∀ (vs : List (Value × Nat)) (cells : Array Value), (vs.foldl (fun cs (c, j) => cs.setIfInBounds (off + j) c) cells).size = cells.size
  | [], _ => rfl
  | (v, j) :: vs, cells => by rw [List.foldl_cons, foldl_size off vs]; simp

theorem buildEls_sound {ρA : Operand → AV} {ρ : Operand → Value} (hρ : ∀ x, RepV w own β ok (ρA x) (ρ x)) {es : Nat} : ∀ {ps : List (Nat × Operand)} {k : Nat} {els : List (List AV)} (cells : Array Value), buildEls ρA es k ps = some els →
    (k + ps.length) * es = cells.size →
    ∃ out vs, Instr.fill (fun i => some (i * es, es)) cells (ps.map fun p => (p.1, ρ p.2)) = some out ∧ out.toList = cells.toList.take (k * es) ++ vs ∧ RepCL w own els.flatten vs ∧ (∀ e ∈ els, e.length = es) ∧ els.length = ps.length
  | [], k, els, cells, h, hs => by
    simp only [buildEls, Option.some.injEq] at h; subst h
    refine ⟨cells, [], rfl, ?_, .nil, by simp, rfl⟩
    simp at hs; rw [hs, List.append_nil, List.take_of_length_le (by simp)]
  | (j, x) :: ps, k, els, cells, h, hs => by
    simp only [buildEls] at h
    split at h
    · rename_i xs l hc hr
      split at h
      · rename_i hcond
        obtain ⟨rfl, hlen, hcl⟩ := hcond
        simp only [Option.some.injEq] at h; subst h
        have hx := cellsA_rep hc (hρ x)
        have hxc := closeds_rep hcl hx
        have e1 := hx.length
        have hsz : (ρ x).cells.size = es := by simp at e1; omega
        have hk1 : (k + 1) * es = k * es + es := by rw [Nat.add_mul]; omega
        have hle : (k + 1) * es ≤ cells.size := by rw [← hs]; exact Nat.mul_le_mul_right _ (by simp only [List.length_cons]; omega)
        have hset := foldl_set (k * es) (ρ x).cells.toList 0 cells (by simp; omega)
        have hfold : ((ρ x).cells.zipIdx.foldl (fun cs (c, j) => cs.setIfInBounds (k * es + j) c) cells) = (((ρ x).cells.toList.zipIdx 0).foldl (fun cs (c, j) => cs.setIfInBounds (k * es + j) c) cells) := by
          rw [← Array.foldl_toList]; simp
        obtain ⟨out, vs, ho, he, hre, hes, hll⟩ := buildEls_sound hρ (((ρ x).cells.zipIdx.foldl (fun cs (c, j) => cs.setIfInBounds (k * es + j) c) cells)) hr (by
          have : (((ρ x).cells.zipIdx.foldl (fun cs (c, j) => cs.setIfInBounds (k * es + j) c) cells)).size = cells.size := by
            rw [hfold]; exact foldl_size _ _ _
          rw [this, ← hs]; congr 1; simp only [List.length_cons]; omega)
        refine ⟨out, (ρ x).cells.toList ++ vs, ?_, ?_, ?_, ?_, by simp [hll]⟩
        · simp only [List.map_cons, Instr.fill]
          rw [if_neg (by simp; omega)]
          exact ho
        · rw [he, hfold, hset]
          simp only [Nat.add_zero]
          have e2 : (ρ x).cells.toList.length = es := by simpa using hsz
          rw [List.take_append_of_le_length (by simp; omega), List.take_of_length_le (by simp; omega), List.append_assoc]
        · rw [List.flatten_cons]; exact hxc.append hre
        · intro e he
          rcases List.mem_cons.mp he with rfl | he
          · exact hlen
          · exact hes e he
      · cases h
    · cases h

theorem buildSlice_sound (h : StRel n0 ext β ok st a w) {d : Nat} (hf : ¬ ok d st.gen) {t e : TypeId} {len : Nat} {parts : Array (Nat × Operand)} {els : List (List AV)} {z : List AV} {ρ : Operand → AV} (hρ : ∀ x, RepV w (ownOf ext β st.σ) β ok (ρ x) (a.eval x)) (ht : (ti P t).d = .slice e)
    (hb : buildEls ρ (ti P e).size 0 parts.toList = some els) (hz : (ti P e).zero = some z) (hlen : els.length = len) (hk : okSize P e = true) (hmax : len * (ti P e).size ≤ 2 ^ 24) (hzl : z.length = (ti P e).size) :
    Laid n0 ext β ok st (some d) ⟨.view d st.gen, [(d, some (.row st.gen (ti P e).size els))], []⟩ a w ((Instr.buildSlice t len (parts.map fun (i, x) => (i, a.eval x))).run P w) := by
  obtain ⟨i, dd, hi, hs, hby, _, _, hzero⟩ := okSize_info hk
  obtain ⟨zv, hzv, rfl⟩ := ti_zero hz hzero
  have hzs : zv.cells.size = i.size := by simp at hzl; omega
  rw [← hs] at hb hmax ⊢
  have hpl : parts.toList.length = len := by
    obtain ⟨_, _, _, _, _, _, hll⟩ := buildEls_sound hρ (Array.replicate ((0 + parts.toList.length) * i.size) undef) hb (by simp)
    omega
  have hel : (parts.map fun (x : Nat × Operand) => (x.1, a.eval x.2)).toList = parts.toList.map fun p => (p.1, a.eval p.2) := by simp
  have key : ∀ zero : Array Value, ∃ c vs, Instr.fill (fun i' => some (i' * i.size, i.size)) ((Array.range (len * i.size)).map (zero[· % zero.size]!)) (parts.map fun (x : Nat × Operand) => (x.1, a.eval x.2)).toList = some c ∧ c.toList = vs ∧ RepCL w (ownOf ext β st.σ) els.flatten vs ∧ (∀ e ∈ els, e.length = i.size) := by
    intro zero
    obtain ⟨out, vs, ho, he, hre, hes, _⟩ := buildEls_sound hρ ((Array.range (len * i.size)).map (zero[· % zero.size]!)) hb (by simp [hpl])
    rw [hel]
    exact ⟨out, vs, ho, by simpa using he, hre, hes⟩
  have fin : ∀ zero : Array Value, ∃ c vs, (Instr.buildSlice t len (parts.map fun (x : Nat × Operand) => (x.1, a.eval x.2))).run P w = .ok (.slice (some ⟨w.heap.size, 0, none⟩) len len) { w with heap := w.heap.push (.cells c e) } ∧ c.toList = vs ∧ RepCL w (ownOf ext β st.σ) els.flatten vs ∧ (∀ e ∈ els, e.length = i.size) := by
    intro _
    have hn : ¬ (len * i.size > 2 ^ 24) := by omega
    by_cases h0 : len * i.size = 0
    · obtain ⟨c, vs, hc, hcl, hre, hes⟩ := key #[]
      refine ⟨c, vs, ?_, hcl, hre, hes⟩
      simp only [Instr.buildSlice, Sem.run_bind, run_underlying (ti_slice ht), Result.andThen_ok, run_sizeOf hi]
      rw [if_neg hn, if_pos h0]
      simp only [pure_bind, hc, Sem.run_bind, newRow_run, Result.andThen_ok, Sem.run_pure]
    · obtain ⟨c, vs, hc, hcl, hre, hes⟩ := key zv.cells
      refine ⟨c, vs, ?_, hcl, hre, hes⟩
      simp only [Instr.buildSlice, Sem.run_bind, run_underlying (ti_slice ht), Result.andThen_ok, run_sizeOf hi]
      rw [if_neg hn, if_neg h0]
      simp only [Sem.run_bind, Sem.run_pure, Result.andThen_ok, zeroValue, typeInfo, Sem.run, program, hi, hzv]
      simp only [pure, Sem.run, Result.andThen_ok, Sem.run_bind, hc, newRow_run]
  obtain ⟨c, vs, hrun, hcl, hre, hes⟩ := fin #[]
  subst hlen
  have hsz : c.size = els.length * i.size := by
    have := hre.length; rw [length_flatten_const hes, ← hcl] at this; simp at this; omega
  exact laid_row (e := e) h hf (c := c) (cap := els.length) (vs := vs) (rest := []) (by rw [hcl]; simp) hre hes (Nat.le_refl _) (by omega) hrun
end
end Go.Ab
end
