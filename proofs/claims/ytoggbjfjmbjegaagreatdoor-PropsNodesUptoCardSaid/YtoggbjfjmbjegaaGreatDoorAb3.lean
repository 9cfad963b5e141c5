/- Abstract values of Go code as trees, and how they stand for the model's values in a world. Types in short, and the operations that touch no memory: their values as trees, proved of the model. The operations that touch no memory of the frame's own: one function, and its proof over the model. Every operation without memory, in one theorem. -/
import Derived.Tactics
import Derived.Below
import Derived.KernelRfl
import Derived.Orders
import Derived.Laws.StructEq
import Derived.Laws.Slices
import Derived.Laws.Tables
import Derived.Laws.Build
set_option linter.unusedSimpArgs false
set_option linter.unusedVariables false
section
namespace Go.Ab

inductive AV where
  | bool (b : Bool)
  | int (k : IntKind) (n : Int)
  | str (s : ByteArray)
  | agg (cs : List AV)
  | slice (els : List (List AV))
  | nils
  | cptr (cs : List AV)
  | func (fn : Fn) (cap : List AV)
  | mfunc (fn : Fn) (fst : List AV)
  | nilFunc
  | tuple (vs : List AV)
  | view (t g : Nat)
  | ptr (t g off : Nat)
  | rptr (t g es i off : Nat)
  | mref (t g : Nat)
  | sl (t g es off len : Nat)
  | sl0
  | viewF (t g : Nat)
  | sliceF (els : List (List AV))
  | lit (v : Value)
  | any

instance : Inhabited AV := ⟨.any⟩

def asciiA : List AV := (List.range 256).map fun i => .int .u8 (if i = 9 ∨ i = 10 ∨ i = 11 ∨ i = 12 ∨ i = 13 ∨ i = 32 then 1 else 0)
def deBruijnN : List Int := [0, 1, 56, 2, 57, 49, 28, 3, 61, 58, 42, 50, 38, 29, 17, 4, 62, 47, 59, 36, 45, 43, 51, 22, 53, 39, 33, 30, 24, 18, 12, 5, 63, 55, 48, 27, 60, 41, 37, 16, 46, 35, 44, 21, 52, 32, 23, 11, 54, 26, 40, 15, 34, 20, 31, 10, 25, 14, 19, 9, 13, 8, 7, 6]
def deBruijnA : List AV := deBruijnN.map (.int .u8)
def gtab : List (Nat × List AV) := [(0, deBruijnA), (1, asciiA)]
def gA (g : Nat) : AV := match gtab.lookup g with | some cs => .cptr cs | none => .any

def At (w : World) (own : Nat → Prop) (a : Addr) (vs : List Value) : Prop :=
  (vs ≠ [] → a.spot = none) ∧ ∀ j v, vs[j]? = some v → ¬ own a.block ∧ w.cell? ⟨a.block, a.off + j, none⟩ = some v

mutual
inductive RepC (w : World) (own : Nat → Prop) : AV → Value → Prop where
  | bool (b : Bool) : RepC w own (.bool b) (.bool b)
  | int (k : IntKind) (n : Int) : RepC w own (.int k n) (.int k n)
  | str (s : ByteArray) : RepC w own (.str s) (.string s)
  | agg {cs : List AV} {vs : List Value} : RepCL w own cs vs → RepC w own (.agg cs) (.agg vs.toArray)
  | slice {els : List (List AV)} {es cap : Nat} {a : Addr} {vs : List Value} : (∀ e ∈ els, e.length = es) → RepCL w own els.flatten vs → At w own a vs → els.length ≤ cap →
      RepC w own (.slice els) (.slice (some a) els.length cap)
  | slice0 : RepC w own (.slice []) (.slice none 0 0)
  | nils : RepC w own .nils (.slice none 0 0)
  | cptr {cs : List AV} {a : Addr} {vs : List Value} : RepCL w own cs vs → At w own a vs → RepC w own (.cptr cs) (.pointer (some a))
  | func {fn : Fn} {cs : List AV} {vs : List Value} : RepCL w own cs vs → RepC w own (.func fn cs) (.func fn #[] vs.toArray)
  | mfunc {fn : Fn} {cs : List AV} {vs : List Value} : RepCL w own cs vs → RepC w own (.mfunc fn cs) (.func fn vs.toArray #[])
  | nilFunc : RepC w own .nilFunc .nilFunc
  | tuple {cs : List AV} {vs : List Value} : RepCL w own cs vs → RepC w own (.tuple cs) (.tuple vs.toArray)
  | lit (v : Value) : RepC w own (.lit v) v
  | any (v : Value) : RepC w own .any v
  | sl0 {o : Option Addr} : RepC w own .sl0 (.slice o 0 0)
  | sliceF {els : List (List AV)} {es : Nat} {a : Addr} {vs : List Value} : (∀ e ∈ els, e.length = es) → RepCL w own els.flatten vs → At w own a vs →
      RepC w own (.sliceF els) (.slice (some a) els.length els.length)
  | sliceF0 : RepC w own (.sliceF []) (.slice none 0 0)
inductive RepCL (w : World) (own : Nat → Prop) : List AV → List Value → Prop where
  | nil : RepCL w own [] []
  | cons {x : AV} {v : Value} {xs : List AV} {vs : List Value} : RepC w own x v → RepCL w own xs vs → RepCL w own (x :: xs) (v :: vs)
end

structure Loc where
  block : Nat
  cap : Nat
  len : Nat
  isNil : Bool
  deriving Inhabited

mutual
inductive RepV (w : World) (own : Nat → Prop) (β : Nat → Nat → Loc) (ok : Nat → Nat → Prop) : AV → Value → Prop where
  | closed {x : AV} {v : Value} : RepC w own x v → RepV w own β ok x v
  | agg {cs : List AV} {vs : List Value} : RepVL w own β ok cs vs → RepV w own β ok (.agg cs) (.agg vs.toArray)
  | func {fn : Fn} {cs : List AV} {vs : List Value} : RepVL w own β ok cs vs → RepV w own β ok (.func fn cs) (.func fn #[] vs.toArray)
  | mfunc {fn : Fn} {cs : List AV} {vs : List Value} : RepVL w own β ok cs vs → RepV w own β ok (.mfunc fn cs) (.func fn vs.toArray #[])
  | tuple {cs : List AV} {vs : List Value} : RepVL w own β ok cs vs → RepV w own β ok (.tuple cs) (.tuple vs.toArray)
  | view {t g : Nat} : ok t g → RepV w own β ok (.view t g) (.slice (if (β t g).isNil then none else some ⟨(β t g).block, 0, none⟩) (β t g).len (β t g).cap)
  | viewF {t g : Nat} : ok t g → (β t g).cap = (β t g).len → RepV w own β ok (.viewF t g) (.slice (if (β t g).isNil then none else some ⟨(β t g).block, 0, none⟩) (β t g).len (β t g).cap)
  | ptr {t g off : Nat} : ok t g → RepV w own β ok (.ptr t g off) (.pointer (some ⟨(β t g).block, off, none⟩))
  | rptr {t g es i off : Nat} : ok t g → RepV w own β ok (.rptr t g es i off) (.pointer (some ⟨(β t g).block, i * es + off, none⟩))
  | mref {t g : Nat} : ok t g → RepV w own β ok (.mref t g) (.map (some (β t g).block))
  | sl {t g es off len cap : Nat} : ok t g → len ≤ cap → off + cap * es ≤ (β t g).cap → RepV w own β ok (.sl t g es off len) (.slice (some ⟨(β t g).block, off, none⟩) len cap)
inductive RepVL (w : World) (own : Nat → Prop) (β : Nat → Nat → Loc) (ok : Nat → Nat → Prop) : List AV → List Value → Prop where
  | nil : RepVL w own β ok [] []
  | cons {x : AV} {v : Value} {xs : List AV} {vs : List Value} : RepV w own β ok x v → RepVL w own β ok xs vs → RepVL w own β ok (x :: xs) (v :: vs)
end

/-! How a world may go on. -/
def Grows (w w' : World) (own own' : Nat → Prop) : Prop :=
  ∀ b o v, ¬ own b → w.cell? ⟨b, o, none⟩ = some v → ¬ own' b ∧ w'.cell? ⟨b, o, none⟩ = some v

theorem Grows.refl (w : World) (own : Nat → Prop) : Grows w w own own := fun _ _ _ h1 h2 => ⟨h1, h2⟩
theorem Grows.trans {a b c : World} {o1 o2 o3 : Nat → Prop} (h : Grows a b o1 o2) (k : Grows b c o2 o3) : Grows a c o1 o3 :=
  fun x o v h1 h2 => let ⟨p, q⟩ := h x o v h1 h2; k x o v p q

theorem At.mono {w w' : World} {own own' : Nat → Prop} {a : Addr} {vs : List Value} (g : Grows w w' own own') (h : At w own a vs) : At w' own' a vs :=
  ⟨h.1, fun j v hj => let ⟨p, q⟩ := h.2 j v hj; g _ _ _ p q⟩

mutual
theorem RepC.mono {w w' : World} {own own' : Nat → Prop} (g : Grows w w' own own') : ∀ {x : AV} {v : Value}, RepC w own x v → RepC w' own' x v
  | _, _, .bool _ => .bool _
  | _, _, .int _ _ => .int _ _
  | _, _, .str _ => .str _
  | _, _, .agg h => .agg (RepCL.mono g h)
  | _, _, .slice h1 h2 h3 h4 => .slice h1 (RepCL.mono g h2) (h3.mono g) h4
  | _, _, .slice0 => .slice0
  | _, _, .nils => .nils
  | _, _, .cptr h1 h2 => .cptr (RepCL.mono g h1) (h2.mono g)
  | _, _, .func h => .func (RepCL.mono g h)
  | _, _, .mfunc h => .mfunc (RepCL.mono g h)
  | _, _, .nilFunc => .nilFunc
  | _, _, .tuple h => .tuple (RepCL.mono g h)
  | _, _, .lit _ => .lit _
  | _, _, .any _ => .any _
  | _, _, .sl0 => .sl0
  | _, _, .sliceF h1 h2 h3 => .sliceF h1 (RepCL.mono g h2) (h3.mono g)
  | _, _, .sliceF0 => .sliceF0
theorem RepCL.mono {w w' : World} {own own' : Nat → Prop} (g : Grows w w' own own') : ∀ {x : List AV} {v : List Value}, RepCL w own x v → RepCL w' own' x v
  | _, _, .nil => .nil
  | _, _, .cons h1 h2 => .cons (RepC.mono g h1) (RepCL.mono g h2)
end
def GlobOk (w : World) (own : Nat → Prop) : Prop := ∀ g cs, gtab.lookup g = some cs → RepC w own (.cptr cs) (.pointer (some ⟨g, 0, none⟩))
theorem GlobOk.mono {w w' : World} {own own' : Nat → Prop} (g : Grows w w' own own') (h : GlobOk w own) : GlobOk w' own' := fun x cs e => (h x cs e).mono g

mutual
theorem RepV.mono {w w' : World} {own own' : Nat → Prop} {β β' : Nat → Nat → Loc} {n n' : Nat → Nat → Prop} (g : Grows w w' own own') (hn : ∀ t k, n t k → n' t k) (hb : ∀ t k, n t k → β' t k = β t k) :
    ∀ {x : AV} {v : Value}, RepV w own β n x v → RepV w' own' β' n' x v
  | _, _, .closed h => .closed (h.mono g)
  | _, _, .agg h => .agg (RepVL.mono g hn hb h)
  | _, _, .func h => .func (RepVL.mono g hn hb h)
  | _, _, .mfunc h => .mfunc (RepVL.mono g hn hb h)
  | _, _, .tuple h => .tuple (RepVL.mono g hn hb h)
  | _, _, .view h => by rw [← hb _ _ h]; exact .view (hn _ _ h)
  | _, _, .viewF h h1 => by rw [← hb _ _ h] at h1 ⊢; exact .viewF (hn _ _ h) h1
  | _, _, .ptr h => by rw [← hb _ _ h]; exact .ptr (hn _ _ h)
  | _, _, .rptr h => by rw [← hb _ _ h]; exact .rptr (hn _ _ h)
  | _, _, .mref h => by rw [← hb _ _ h]; exact .mref (hn _ _ h)
  | _, _, .sl h h1 h2 => by rw [← hb _ _ h] at h2 ⊢; exact .sl (hn _ _ h) h1 h2
theorem RepVL.mono {w w' : World} {own own' : Nat → Prop} {β β' : Nat → Nat → Loc} {n n' : Nat → Nat → Prop} (g : Grows w w' own own') (hn : ∀ t k, n t k → n' t k) (hb : ∀ t k, n t k → β' t k = β t k) :
    ∀ {x : List AV} {v : List Value}, RepVL w own β n x v → RepVL w' own' β' n' x v
  | _, _, .nil => .nil
  | _, _, .cons h1 h2 => .cons (RepV.mono g hn hb h1) (RepVL.mono g hn hb h2)
end

/-! Lists. -/
section
variable {w : World} {own : Nat → Prop} {β : Nat → Nat → Loc} {ok : Nat → Nat → Prop}
theorem RepCL.length {xs : List AV} {vs : List Value} (h : RepCL w own xs vs) : xs.length = vs.length := by
  induction xs generalizing vs with
  | nil => cases h; rfl
  | cons x xs ih => cases h with | cons _ h2 => simp [ih h2]
theorem RepVL.length {xs : List AV} {vs : List Value} (h : RepVL w own β ok xs vs) : xs.length = vs.length := by
  induction xs generalizing vs with
  | nil => cases h; rfl
  | cons x xs ih => cases h with | cons _ h2 => simp [ih h2]
theorem RepCL.toV {xs : List AV} {vs : List Value} (h : RepCL w own xs vs) : RepVL w own β ok xs vs := by
  induction xs generalizing vs with
  | nil => cases h; exact .nil
  | cons x xs ih => cases h with | cons h1 h2 => exact .cons (.closed h1) (ih h2)
theorem RepVL.get {xs : List AV} {vs : List Value} (h : RepVL w own β ok xs vs) (i : Nat) (hi : i < xs.length) : ∃ v, vs[i]? = some v ∧ RepV w own β ok xs[i] v := by
  induction xs generalizing vs i with
  | nil => simp at hi
  | cons x xs ih => cases h with
    | cons h1 h2 => cases i with
      | zero => exact ⟨_, rfl, h1⟩
      | succ i => simpa using ih h2 i (by simpa using hi)
theorem RepCL.get {xs : List AV} {vs : List Value} (h : RepCL w own xs vs) (i : Nat) (hi : i < xs.length) : ∃ v, vs[i]? = some v ∧ RepC w own xs[i] v := by
  induction xs generalizing vs i with
  | nil => simp at hi
  | cons x xs ih => cases h with
    | cons h1 h2 => cases i with
      | zero => exact ⟨_, rfl, h1⟩
      | succ i => simpa using ih h2 i (by simpa using hi)
theorem RepVL.getD {xs : List AV} {vs : List Value} (h : RepVL w own β ok xs vs) (i : Nat) (d : Value) : RepV w own β ok (xs.getD i .any) (vs.getD i d) := by
  by_cases hi : i < xs.length
  · obtain ⟨v, hv, hr⟩ := h.get i hi
    simp [List.getD, hv, hi, hr]
  · have := h.length
    simp [List.getD, List.getElem?_eq_none (by omega : xs.length ≤ i)]
    exact .closed (.any _)
theorem RepVL.set {xs : List AV} {vs : List Value} (h : RepVL w own β ok xs vs) (i : Nat) {x : AV} {v : Value} (hx : RepV w own β ok x v) : RepVL w own β ok (xs.set i x) (vs.set i v) := by
  induction xs generalizing vs i with
  | nil => cases h; exact .nil
  | cons y xs ih => cases h with
    | cons h1 h2 => cases i with
      | zero => exact .cons hx h2
      | succ i => exact .cons h1 (ih h2 i)
theorem RepCL.append {xs ys : List AV} {vs us : List Value} (h : RepCL w own xs vs) (k : RepCL w own ys us) : RepCL w own (xs ++ ys) (vs ++ us) := by
  induction xs generalizing vs with
  | nil => cases h; exact k
  | cons x xs ih => cases h with | cons h1 h2 => exact .cons h1 (ih h2)
theorem RepVL.append {xs ys : List AV} {vs us : List Value} (h : RepVL w own β ok xs vs) (k : RepVL w own β ok ys us) : RepVL w own β ok (xs ++ ys) (vs ++ us) := by
  induction xs generalizing vs with
  | nil => cases h; exact k
  | cons x xs ih => cases h with | cons h1 h2 => exact .cons h1 (ih h2)
theorem RepCL.drop {xs : List AV} {vs : List Value} (h : RepCL w own xs vs) (i : Nat) : RepCL w own (xs.drop i) (vs.drop i) := by
  induction xs generalizing vs i with
  | nil => cases h; simpa using RepCL.nil
  | cons x xs ih => cases h with
    | cons h1 h2 => cases i with
      | zero => exact .cons h1 h2
      | succ i => exact ih h2 i
theorem RepCL.take {xs : List AV} {vs : List Value} (h : RepCL w own xs vs) (i : Nat) : RepCL w own (xs.take i) (vs.take i) := by
  induction xs generalizing vs i with
  | nil => cases h; simpa using RepCL.nil
  | cons x xs ih => cases h with
    | cons h1 h2 => cases i with
      | zero => exact .nil
      | succ i => exact .cons h1 (ih h2 i)
theorem RepVL.drop {xs : List AV} {vs : List Value} (h : RepVL w own β ok xs vs) (i : Nat) : RepVL w own β ok (xs.drop i) (vs.drop i) := by
  induction xs generalizing vs i with
  | nil => cases h; simpa using RepVL.nil
  | cons x xs ih => cases h with
    | cons h1 h2 => cases i with
      | zero => exact .cons h1 h2
      | succ i => exact ih h2 i
theorem RepVL.take {xs : List AV} {vs : List Value} (h : RepVL w own β ok xs vs) (i : Nat) : RepVL w own β ok (xs.take i) (vs.take i) := by
  induction xs generalizing vs i with
  | nil => cases h; simpa using RepVL.nil
  | cons x xs ih => cases h with
    | cons h1 h2 => cases i with
      | zero => exact .nil
      | succ i => exact .cons h1 (ih h2 i)
theorem RepV.agg_open {cs : List AV} {v : Value} (h : RepV w own β ok (.agg cs) v) : ∃ vs, v = .agg vs.toArray ∧ RepVL w own β ok cs vs := by
  cases h with
  | closed h => cases h with | agg h => exact ⟨_, rfl, h.toV⟩
  | agg h => exact ⟨_, rfl, h⟩
theorem RepV.tuple_open {cs : List AV} {v : Value} (h : RepV w own β ok (.tuple cs) v) : ∃ vs, v = .tuple vs.toArray ∧ RepVL w own β ok cs vs := by
  cases h with
  | closed h => cases h with | tuple h => exact ⟨_, rfl, h.toV⟩
  | tuple h => exact ⟨_, rfl, h⟩
theorem RepV.func_open {fn : Fn} {cs : List AV} {v : Value} (h : RepV w own β ok (.func fn cs) v) : ∃ vs, v = .func fn #[] vs.toArray ∧ RepVL w own β ok cs vs := by
  cases h with
  | closed h => cases h with | func h => exact ⟨_, rfl, h.toV⟩
  | func h => exact ⟨_, rfl, h⟩
theorem RepV.mfunc_open {fn : Fn} {cs : List AV} {v : Value} (h : RepV w own β ok (.mfunc fn cs) v) : ∃ vs, v = .func fn vs.toArray #[] ∧ RepVL w own β ok cs vs := by
  cases h with
  | closed h => cases h with | mfunc h => exact ⟨_, rfl, h.toV⟩
  | mfunc h => exact ⟨_, rfl, h⟩
theorem RepV.bool_open {b : Bool} {v : Value} (h : RepV w own β ok (.bool b) v) : v = .bool b := by cases h with | closed h => cases h; rfl
theorem RepV.int_open {k : IntKind} {n : Int} {v : Value} (h : RepV w own β ok (.int k n) v) : v = .int k n := by cases h with | closed h => cases h; rfl
theorem RepV.str_open {s : ByteArray} {v : Value} (h : RepV w own β ok (.str s) v) : v = .string s := by cases h with | closed h => cases h; rfl
theorem RepV.slice_open {els : List (List AV)} {v : Value} (h : RepV w own β ok (.slice els) v) : RepC w own (.slice els) v := by cases h with | closed h => exact h
theorem RepV.nils_open {v : Value} (h : RepV w own β ok .nils v) : v = .slice none 0 0 := by cases h with | closed h => cases h; rfl
theorem RepV.nilFunc_open {v : Value} (h : RepV w own β ok .nilFunc v) : v = .nilFunc := by cases h with | closed h => cases h; rfl
theorem RepV.cptr_open {cs : List AV} {v : Value} (h : RepV w own β ok (.cptr cs) v) : ∃ a vs, v = .pointer (some a) ∧ RepCL w own cs vs ∧ At w own a vs := by
  cases h with | closed h => cases h with | cptr h1 h2 => exact ⟨_, _, rfl, h1, h2⟩
theorem RepV.view_open {t g : Nat} {v : Value} (h : RepV w own β ok (.view t g) v) : ok t g ∧ v = .slice (if (β t g).isNil then none else some ⟨(β t g).block, 0, none⟩) (β t g).len (β t g).cap := by
  cases h with | closed h => cases h | view h => exact ⟨h, rfl⟩
theorem RepV.viewF_open {t g : Nat} {v : Value} (h : RepV w own β ok (.viewF t g) v) : ok t g ∧ (β t g).cap = (β t g).len ∧ v = .slice (if (β t g).isNil then none else some ⟨(β t g).block, 0, none⟩) (β t g).len (β t g).cap := by
  cases h with | closed h => cases h | viewF h h1 => exact ⟨h, h1, rfl⟩
theorem RepV.sliceF_open' {els : List (List AV)} {x : AV} {v : Value} (h : RepV w own β ok x v) (e : x = .sliceF els) : ∃ o, v = .slice o els.length els.length := by
  subst e
  cases h with
  | closed h => cases h with
    | sliceF => exact ⟨_, rfl⟩
    | sliceF0 => exact ⟨_, rfl⟩
theorem RepV.sliceF_open {els : List (List AV)} {v : Value} (h : RepV w own β ok (.sliceF els) v) : RepC w own (.sliceF els) v := by cases h with | closed h => exact h
def weak : AV → AV
  | .viewF t g => .view t g
  | .sliceF els => .slice els
  | x => x
@[simp] theorem weak_slice (els : List (List AV)) : Ab.weak (.slice els) = .slice els := rfl
@[simp] theorem weak_nils : Ab.weak .nils = .nils := rfl
@[simp] theorem weak_str (s : ByteArray) : Ab.weak (.str s) = .str s := rfl
@[simp] theorem weak_view (t g : Nat) : Ab.weak (.view t g) = .view t g := rfl
@[simp] theorem weak_viewF (t g : Nat) : Ab.weak (.viewF t g) = .view t g := rfl
@[simp] theorem weak_sliceF (els : List (List AV)) : Ab.weak (.sliceF els) = .slice els := rfl
@[simp] theorem weak_ptr (t g o : Nat) : Ab.weak (.ptr t g o) = .ptr t g o := rfl
@[simp] theorem weak_cptr (cs : List AV) : Ab.weak (.cptr cs) = .cptr cs := rfl
@[simp] theorem weak_rptr (t g es i o : Nat) : Ab.weak (.rptr t g es i o) = .rptr t g es i o := rfl
@[simp] theorem weak_sl (t g es o n : Nat) : Ab.weak (.sl t g es o n) = .sl t g es o n := rfl
@[simp] theorem weak_sl0 : Ab.weak .sl0 = .sl0 := rfl
@[simp] theorem weak_any : Ab.weak .any = .any := rfl
theorem RepC.weak {x : AV} {v : Value} (h : RepC w own x v) : RepC w own (Ab.weak x) v := by
  cases h with
  | sliceF h1 h2 h3 => exact .slice h1 h2 h3 (Nat.le_refl _)
  | sliceF0 => exact .slice0
  | bool => exact .bool _
  | int => exact .int _ _
  | str => exact .str _
  | agg h => exact .agg h
  | slice h1 h2 h3 h4 => exact .slice h1 h2 h3 h4
  | slice0 => exact .slice0
  | nils => exact .nils
  | cptr h1 h2 => exact .cptr h1 h2
  | func h => exact .func h
  | mfunc h => exact .mfunc h
  | nilFunc => exact .nilFunc
  | tuple h => exact .tuple h
  | lit => exact .lit _
  | any => exact .any _
  | sl0 => exact .sl0
theorem RepC.slice_len {els : List (List AV)} {o : Option Addr} {n c : Nat} (h : RepC w own (.slice els) (.slice o n c)) : n = els.length := by
  generalize hv : Value.slice o n c = v at h
  cases h with
  | slice h1 h2 h3 h4 => cases hv; rfl
  | slice0 => cases hv; rfl
theorem RepC.full {els : List (List AV)} {o : Option Addr} (h : RepC w own (.slice els) (.slice o els.length els.length)) : RepC w own (.sliceF els) (.slice o els.length els.length) := by
  generalize hv : Value.slice o els.length els.length = v at h
  cases h with
  | slice h1 h2 h3 h4 => cases hv; exact .sliceF h1 h2 h3
  | slice0 => exact .sliceF0
theorem RepV.weak {x : AV} {v : Value} (h : RepV w own β ok x v) : RepV w own β ok (Ab.weak x) v := by
  cases h with
  | closed h => exact .closed h.weak
  | viewF h _ => exact .view h
  | agg h => exact .agg h
  | func h => exact .func h
  | mfunc h => exact .mfunc h
  | tuple h => exact .tuple h
  | view h => exact .view h
  | ptr h => exact .ptr h
  | rptr h => exact .rptr h
  | mref h => exact .mref h
  | sl h1 h2 h3 => exact .sl h1 h2 h3
theorem RepV.ptr_open {t g off : Nat} {v : Value} (h : RepV w own β ok (.ptr t g off) v) : ok t g ∧ v = .pointer (some ⟨(β t g).block, off, none⟩) := by
  cases h with | closed h => cases h | ptr h => exact ⟨h, rfl⟩
theorem RepV.rptr_open {t g es i off : Nat} {v : Value} (h : RepV w own β ok (.rptr t g es i off) v) : ok t g ∧ v = .pointer (some ⟨(β t g).block, i * es + off, none⟩) := by
  cases h with | closed h => cases h | rptr h => exact ⟨h, rfl⟩
theorem RepV.sl_open {t g es off len : Nat} {v : Value} (h : RepV w own β ok (.sl t g es off len) v) : ∃ cap, ok t g ∧ len ≤ cap ∧ off + cap * es ≤ (β t g).cap ∧ v = .slice (some ⟨(β t g).block, off, none⟩) len cap := by
  cases h with | closed h => cases h | sl h h1 h2 => exact ⟨_, h, h1, h2, rfl⟩
theorem RepV.sl0_open {v : Value} (h : RepV w own β ok .sl0 v) : ∃ o, v = .slice o 0 0 := by
  cases h with | closed h => cases h with | sl0 => exact ⟨_, rfl⟩
theorem RepV.mref_open {t g : Nat} {v : Value} (h : RepV w own β ok (.mref t g) v) : ok t g ∧ v = .map (some (β t g).block) := by
  cases h with | closed h => cases h | mref h => exact ⟨h, rfl⟩
end

/-! The constants of the code. -/
def leaf : Value → AV
  | .bool b => .bool b
  | .int k n => .int k n
  | .string s => .str s
  | .slice none 0 0 => .nils
  | .nilFunc => .nilFunc
  | .agg _ | .tuple _ => .any
  | v => .lit v
def ofConst : Value → AV
  | .agg cs => .agg (cs.toList.map leaf)
  | v => leaf v
theorem leaf_rep (w : World) (own : Nat → Prop) (v : Value) : RepC w own (leaf v) v := by
  unfold leaf
  split
  · exact .bool _
  · exact .int _ _
  · exact .str _
  · exact .nils
  · exact .nilFunc
  · exact .any _
  · exact .any _
  · exact .lit _
theorem leafs_rep (w : World) (own : Nat → Prop) (vs : List Value) : RepCL w own (vs.map leaf) vs := by
  induction vs with
  | nil => exact .nil
  | cons v vs ih => exact .cons (leaf_rep w own v) ih
theorem ofConst_rep (w : World) (own : Nat → Prop) (v : Value) : RepC w own (ofConst v) v := by
  unfold ofConst
  split
  · rename_i cs
    have := RepC.agg (leafs_rep w own cs.toList)
    simpa using this
  · exact leaf_rep w own _

end Go.Ab
end

section
set_option linter.unusedSimpArgs false
set_option linter.unusedVariables false
namespace Go.Ab

inductive D where
  | bool | int (k : IntKind) | str
  | struct (fs : List (Nat × Nat × Bool))
  | array (len : Nat) (elem : TypeId)
  | slice (elem : TypeId)
  | ptr (elem : TypeId)
  | map (key elem : TypeId)
  | func | other
  deriving Inhabited

structure TI where
  d : D
  size : Nat
  bytes : Nat
  agg : Bool
  zero : Option (List AV)
  deriving Inhabited

def aggD : TypeDesc → Bool
  | .struct _ | .array _ _ => true
  | _ => false
def fieldOf (P : Program) (f : Field) : Option (Nat × Nat × Bool) :=
  match P.info? f.type, P.underlying f.type with
  | some i, some d => some (f.offset, i.size, aggD d)
  | _, _ => none
def dOf (P : Program) : TypeDesc → D
  | .bool => .bool
  | .int k => .int k
  | .string => .str
  | .struct fs => match fs.toList.mapM (fieldOf P) with | some l => .struct l | none => .other
  | .array n e => .array n e
  | .slice e => .slice e
  | .pointer e => .ptr e
  | .map k e => .map k e
  | .func _ _ _ => .func
  | _ => .other
def ti (P : Program) (t : TypeId) : TI :=
  match P.info? t, P.underlying t with
  | some i, some d => ⟨dOf P d, i.size, i.bytes, aggD d, i.zero.map fun v => v.cells.toList.map leaf⟩
  | _, _ => ⟨.other, 0, 0, false, none⟩

section
variable {P : Program} {t : TypeId}
theorem ti_ne {x : TI} (h : ti P t = x) (hd : x.d ≠ .other) : ∃ i d, P.info? t = some i ∧ P.underlying t = some d ∧ x = ⟨dOf P d, i.size, i.bytes, aggD d, i.zero.map fun v => v.cells.toList.map leaf⟩ := by
  unfold ti at h
  split at h
  · rename_i i d hi hu; exact ⟨i, d, hi, hu, h.symm⟩
  · subst h; exact absurd rfl hd
theorem dOf_slice {d : TypeDesc} {e : TypeId} (h : dOf P d = .slice e) : d = .slice e := by
  cases d <;> simp [dOf] at h
  case struct => split at h <;> cases h
  case slice => rw [h]
theorem dOf_array {d : TypeDesc} {n : Nat} {e : TypeId} (h : dOf P d = .array n e) : d = .array n e := by
  cases d <;> simp [dOf] at h
  case struct => split at h <;> cases h
  case array => rw [h.1, h.2]
theorem dOf_int {d : TypeDesc} {k : IntKind} (h : dOf P d = .int k) : d = .int k := by
  cases d <;> simp [dOf] at h
  case struct => split at h <;> cases h
  case int => rw [h]
theorem dOf_bool {d : TypeDesc} (h : dOf P d = .bool) : d = .bool := by
  cases d <;> simp [dOf] at h
  case struct => split at h <;> cases h
  rfl
theorem dOf_str {d : TypeDesc} (h : dOf P d = .str) : d = .string := by
  cases d <;> simp [dOf] at h
  case struct => split at h <;> cases h
  rfl
theorem dOf_map {d : TypeDesc} {k e : TypeId} (h : dOf P d = .map k e) : d = .map k e := by
  cases d <;> simp [dOf] at h
  case struct => split at h <;> cases h
  case map => rw [h.1, h.2]
theorem dOf_struct {d : TypeDesc} {l : List (Nat × Nat × Bool)} (h : dOf P d = .struct l) : ∃ fs, d = .struct fs ∧ fs.toList.mapM (fieldOf P) = some l := by
  cases d <;> simp [dOf] at h
  case struct fs =>
    split at h
    · rename_i l' h'; cases h; exact ⟨fs, rfl, h'⟩
    · cases h
theorem ti_slice {e : TypeId} (h : (ti P t).d = .slice e) : P.underlying t = some (.slice e) := by
  obtain ⟨i, d, _, hu, he⟩ := ti_ne (P := P) (t := t) rfl (by rw [h]; simp)
  rw [he] at h; rw [hu, dOf_slice h]
theorem ti_array {n : Nat} {e : TypeId} (h : (ti P t).d = .array n e) : P.underlying t = some (.array n e) := by
  obtain ⟨i, d, _, hu, he⟩ := ti_ne (P := P) (t := t) rfl (by rw [h]; simp)
  rw [he] at h; rw [hu, dOf_array h]
theorem ti_int {k : IntKind} (h : (ti P t).d = .int k) : P.underlying t = some (.int k) := by
  obtain ⟨i, d, _, hu, he⟩ := ti_ne (P := P) (t := t) rfl (by rw [h]; simp)
  rw [he] at h; rw [hu, dOf_int h]
theorem ti_bool (h : (ti P t).d = .bool) : P.underlying t = some .bool := by
  obtain ⟨i, d, _, hu, he⟩ := ti_ne (P := P) (t := t) rfl (by rw [h]; simp)
  rw [he] at h; rw [hu, dOf_bool h]
theorem ti_str (h : (ti P t).d = .str) : P.underlying t = some .string := by
  obtain ⟨i, d, _, hu, he⟩ := ti_ne (P := P) (t := t) rfl (by rw [h]; simp)
  rw [he] at h; rw [hu, dOf_str h]
theorem ti_map {k e : TypeId} (h : (ti P t).d = .map k e) : P.underlying t = some (.map k e) := by
  obtain ⟨i, d, _, hu, he⟩ := ti_ne (P := P) (t := t) rfl (by rw [h]; simp)
  rw [he] at h; rw [hu, dOf_map h]
theorem ti_struct {l : List (Nat × Nat × Bool)} (h : (ti P t).d = .struct l) : ∃ fs, P.underlying t = some (.struct fs) ∧ fs.toList.mapM (fieldOf P) = some l := by
  obtain ⟨i, d, _, hu, he⟩ := ti_ne (P := P) (t := t) rfl (by rw [h]; simp)
  rw [he] at h
  obtain ⟨fs, rfl, h2⟩ := dOf_struct h
  exact ⟨fs, hu, h2⟩
theorem mapM_get {α β : Type} {f : α → Option β} : ∀ {xs : List α} {ys : List β}, xs.mapM f = some ys → ∀ (i : Nat) (y : β), ys[i]? = some y → ∃ x : α, xs[i]? = some x ∧ f x = some y
  | [], ys, h, i, y, hi => by simp at h; subst h; simp at hi
  | x :: xs, ys, h, i, y, hi => by
    simp only [List.mapM_cons, Option.bind_eq_bind, Option.bind_eq_some_iff, Option.pure_def, Option.some.injEq] at h
    obtain ⟨b, hb, bs, hbs, rfl⟩ := h
    cases i with
    | zero => simp at hi; subst hi; exact ⟨x, rfl, hb⟩
    | succ i => simpa using mapM_get hbs i y (by simpa using hi)
theorem ti_field {l : List (Nat × Nat × Bool)} (h : (ti P t).d = .struct l) {i off size : Nat} {ag : Bool} (hi : l[i]? = some (off, size, ag)) :
    ∃ fs f d inf, P.underlying t = some (.struct fs) ∧ fs[i]? = some f ∧ f.offset = off ∧ P.info? f.type = some inf ∧ inf.size = size ∧ P.underlying f.type = some d ∧ aggD d = ag := by
  obtain ⟨fs, hu, hm⟩ := ti_struct h
  obtain ⟨f, hf, hx⟩ := mapM_get hm i _ hi
  unfold fieldOf at hx
  split at hx
  · rename_i inf d h1 h2
    simp only [Option.some.injEq, Prod.mk.injEq] at hx
    exact ⟨fs, f, d, inf, hu, by simpa using hf, hx.1, h1, hx.2.1, h2, hx.2.2⟩
  · cases hx
theorem ti_info (hd : (ti P t).d ≠ .other) : ∃ i, P.info? t = some i ∧ i.size = (ti P t).size ∧ i.bytes = (ti P t).bytes ∧ (ti P t).zero = i.zero.map (fun v => v.cells.toList.map leaf) := by
  obtain ⟨i, d, hi, _, he⟩ := ti_ne (P := P) (t := t) rfl hd
  exact ⟨i, hi, by rw [he], by rw [he], by rw [he]⟩
theorem ti_und (hd : (ti P t).d ≠ .other) : ∃ d, P.underlying t = some d ∧ (ti P t).agg = aggD d := by
  obtain ⟨i, d, _, hu, he⟩ := ti_ne (P := P) (t := t) rfl hd
  exact ⟨d, hu, by rw [he]⟩
end

/-! Arithmetic. -/
def bitA (op : BinOp) (k : IntKind) (x y : Int) : Int :=
  let a := BitVec.ofInt k.bits x
  let b := BitVec.ofInt k.bits y
  match op with
  | .and => k.wrap (a &&& b).toNat
  | .or => k.wrap (a ||| b).toNat
  | .xor => k.wrap (a ^^^ b).toNat
  | _ => k.wrap (a &&& ~~~b).toNat
def bt (s : ByteArray) (n : Int) : Int := ((s.data.toList.getD n.toNat 0).toNat : Int)
def pickV (t : Bool) : AV → AV → AV
  | .bool x, .bool y => .bool (bif t then x else y)
  | x, y => if t then x else y
def leafEq : AV → AV → Option Bool
  | .int k a, .int k' b => if k = k' then some (decide (a = b)) else none
  | .bool a, .bool b => some (a == b)
  | .str a, .str b => some (decide (a = b))
  | _, _ => none
def eqAll : List AV → List AV → Option Bool
  | [], [] => some true
  | [x], [y] => leafEq x y
  | x :: xs, y :: ys => match leafEq x y, eqAll xs ys with
    | some a, some b => some (a && b)
    | _, _ => none
  | _, _ => none
def EqT (P : Program) (t : TypeId) (xs ys : List AV) (r : Bool) : Prop :=
  ∀ (w : World) (own : Nat → Prop) (vs us : List Value), RepCL w own xs vs → RepCL w own ys us →
    (∀ x y : Operand, (eqGuard .eql t x y (.agg vs.toArray) (.agg us.toArray)).run P w = .ok () w) ∧ (∀ x y : Operand, (eqGuard .neq t x y (.agg vs.toArray) (.agg us.toArray)).run P w = .ok () w) ∧
    (Op.equal t (.agg vs.toArray) (.agg us.toArray)).run P w = .ok r w

def nilB : AV → Option Bool
  | .nils => some true
  | .sl .. => some false
  | .slice (_ :: _) => some false
  | _ => none
def binA (P : Program) (t : TypeId) (op : BinOp) : AV → AV → Option (Prop × AV)
  | .int k a, .int k' b =>
    match op with
    | .shl => some (0 ≤ b, .int k (k.wrap (a * 2 ^ (min b.toNat k.bits))))
    | .shr => some (0 ≤ b, .int k (a.fdiv (2 ^ (min b.toNat k.bits))))
    | op => if k ≠ k' then none else
      match op with
      | .add => some (True, .int k (k.wrap (a + b)))
      | .sub => some (True, .int k (k.wrap (a - b)))
      | .mul => some (True, .int k (k.wrap (a * b)))
      | .quo => some (b ≠ 0, .int k (k.wrap (a.tdiv b)))
      | .rem => some (b ≠ 0, .int k (a.tmod b))
      | .eql => some (True, .bool (decide (a = b)))
      | .neq => some (True, .bool (!decide (a = b)))
      | .lss => some (True, .bool (decide (a < b)))
      | .leq => some (True, .bool (decide (a ≤ b)))
      | .gtr => some (True, .bool (decide (b < a)))
      | .geq => some (True, .bool (decide (b ≤ a)))
      | .and => some (True, .int k (bitA .and k a b))
      | .or => some (True, .int k (bitA .or k a b))
      | .xor => some (True, .int k (bitA .xor k a b))
      | .andNot => some (True, .int k (bitA .andNot k a b))
      | _ => none
  | .str a, .str b =>
    match op with
    | .add => some (((a.size + b.size : Nat) : Int) ≤ IntKind.i64.max, .str (a ++ b))
    | .eql => some (True, .bool (decide (a = b)))
    | .neq => some (True, .bool (!decide (a = b)))
    | .lss => some (True, .bool (Op.bytesLess a.toList b.toList))
    | .geq => some (True, .bool (!Op.bytesLess a.toList b.toList))
    | _ => none
  | .bool a, .bool b =>
    match (ti P t).d, op with
    | .bool, .eql => some (True, .bool (a == b))
    | .bool, .neq => some (True, .bool (!(a == b)))
    | _, _ => none
  | .agg xs, .agg ys =>
    match op, eqAll xs ys with
    | .eql, some r => some (EqT P t xs ys r, .bool r)
    | .neq, some r => some (EqT P t xs ys r, .bool (!r))
    | _, _ => none
  | x, .nils =>
    match (ti P t).d, op, nilB x with
    | .slice _, .eql, some b => some (True, .bool b)
    | .slice _, .neq, some b => some (True, .bool (!b))
    | _, _, _ => none
  | _, _ => none

def unA (op : UnOp) : AV → Option (Prop × AV)
  | .bool b => match op with | .not => some (True, .bool (!b)) | _ => none
  | .int k n => match op with
    | .neg => some (True, .int k (k.wrap (0 - n)))
    | .xor => some (True, .int k (bitA .xor k (if k.signed then -1 else k.max) n))
    | _ => none
  | _ => none

theorem decide_beq_int (a b : Int) : (a == b) = decide (a = b) := by by_cases h : a = b <;> simp [h]
theorem str_eq (a b : ByteArray) : (a.toList == b.toList) = decide (a = b) := by
  rw [ByteArray.toList_eq, ByteArray.toList_eq]
  by_cases h : a = b
  · simp [h]
  · have : a.data.toList ≠ b.data.toList := fun e => h (by
      obtain ⟨⟨x⟩⟩ := a; obtain ⟨⟨y⟩⟩ := b
      simp only at e; rw [e])
    rw [decide_eq_false h]; simpa using this

section
variable {P : Program} {w : World} {own : Nat → Prop} {β : Nat → Nat → Loc} {ok : Nat → Nat → Prop}

theorem eqGuard_int (op : BinOp) (t : TypeId) (x y : Operand) (k k' : IntKind) (a b : Int) : (eqGuard op t x y (.int k a) (.int k' b)).run P w = .ok () w := by
  unfold eqGuard; cases op <;> rfl
theorem eqGuard_str (op : BinOp) (t : TypeId) (x y : Operand) (a b : ByteArray) : (eqGuard op t x y (.string a) (.string b)).run P w = .ok () w := by
  unfold eqGuard; cases op <;> rfl
theorem eqGuard_slice (op : BinOp) (t : TypeId) (x y : Operand) (a b : Option Addr) (n m n' m' : Nat) : (eqGuard op t x y (.slice a n m) (.slice b n' m')).run P w = .ok () w := by
  unfold eqGuard; cases op <;> rfl
theorem run_equalIn_sln {t e : TypeId} (d : Nat) (a : Option Addr) (l c : Nat) (h : P.underlying t = some (.slice e)) : (Op.equalIn (d + 1) t (.slice a l c) (.slice none 0 0)).run P w = .ok a.isNone w := by
  cases a <;> simp [Op.equalIn, run_underlying h]
theorem run_equal_sln {t e : TypeId} (a : Option Addr) (l c : Nat) (h : P.underlying t = some (.slice e)) : (Op.equal t (.slice a l c) (.slice none 0 0)).run P w = .ok a.isNone w := run_equalIn_sln 9999 a l c h
theorem run_eql_sln {t e : TypeId} (a : Option Addr) (l c : Nat) (h : P.underlying t = some (.slice e)) : (binOp .eql t (.slice a l c) (.slice none 0 0)).run P w = .ok (.bool a.isNone) w := by
  simp [binOp, run_equal_sln a l c h]
theorem run_neq_sln {t e : TypeId} (a : Option Addr) (l c : Nat) (h : P.underlying t = some (.slice e)) : (binOp .neq t (.slice a l c) (.slice none 0 0)).run P w = .ok (.bool (!a.isNone)) w := by
  simp [binOp, run_equal_sln a l c h]
theorem nilB_open {x : AV} {b : Bool} {v : Value} (h : nilB x = some b) (hx : RepV w own β ok x v) : ∃ a n m, v = .slice a n m ∧ a.isNone = b := by
  cases x <;> simp [nilB] at h
  case slice els =>
    cases els with
    | nil => simp at h
    | cons e els =>
      simp at h; subst h
      cases hx with
      | closed hx => cases hx with | slice h1 h2 h3 h4 => exact ⟨_, _, _, rfl, rfl⟩
  case nils => subst h; rw [hx.nils_open]; exact ⟨_, _, _, rfl, rfl⟩
  case sl => subst h; obtain ⟨cap, _, _, _, e⟩ := hx.sl_open; rw [e]; exact ⟨_, _, _, rfl, rfl⟩
theorem eqGuard_bool (op : BinOp) (t : TypeId) (x y : Operand) (a b : Bool) : (eqGuard op t x y (.bool a) (.bool b)).run P w = .ok () w := by
  unfold eqGuard; cases op <;> rfl

theorem eqAll_leaf {x y : AV} {r : Bool} (h : leafEq x y = some r) : (∀ v, RepV w own β ok x v → RepC w own x v) := by
  intro v hv
  cases x <;> simp [leafEq] at h <;> (first | (rw [hv.bool_open]; exact .bool _) | (rw [hv.int_open]; exact .int _ _) | (rw [hv.str_open]; exact .str _))
theorem eqAll_leaf' {x y : AV} {r : Bool} (h : leafEq x y = some r) : (∀ v, RepV w own β ok y v → RepC w own y v) := by
  intro v hv
  cases y <;> cases x <;> simp [leafEq] at h <;> (first | (rw [hv.bool_open]; exact .bool _) | (rw [hv.int_open]; exact .int _ _) | (rw [hv.str_open]; exact .str _))
theorem eqAll_closed : ∀ {xs ys : List AV} {r : Bool}, eqAll xs ys = some r → (∀ vs, RepVL w own β ok xs vs → RepCL w own xs vs) ∧ (∀ vs, RepVL w own β ok ys vs → RepCL w own ys vs)
  | [], [], _, _ => ⟨fun _ h => by cases h; exact .nil, fun _ h => by cases h; exact .nil⟩
  | [x], [y], r, h => by
    have h : leafEq x y = some r := h
    refine ⟨fun vs hv => ?_, fun vs hv => ?_⟩
    · cases hv with | cons h1 h2 => cases h2; exact .cons (eqAll_leaf h _ h1) .nil
    · cases hv with | cons h1 h2 => cases h2; exact .cons (eqAll_leaf' h _ h1) .nil
  | [], _ :: _, _, h => by simp [eqAll] at h
  | _ :: _, [], _, h => by simp [eqAll] at h
  | [x], y :: z :: ys, r, h => by
    simp only [eqAll] at h
    split at h <;> simp at h
    rename_i a b ha hb
    simp at hb
  | x :: z :: xs, [y], r, h => by
    simp only [eqAll] at h
    split at h <;> simp at h
    rename_i a b ha hb
    simp at hb
  | x :: x2 :: xs, y :: y2 :: ys, r, h => by
    simp only [eqAll] at h
    split at h
    · rename_i a b ha hb
      have ih := eqAll_closed (xs := x2 :: xs) (ys := y2 :: ys) hb
      refine ⟨fun vs hv => ?_, fun vs hv => ?_⟩
      · cases hv with | cons h1 h2 => exact .cons (eqAll_leaf ha _ h1) (ih.1 _ h2)
      · cases hv with | cons h1 h2 => exact .cons (eqAll_leaf' ha _ h1) (ih.2 _ h2)
    · cases h

theorem binA_sound {t : TypeId} {op : BinOp} {x y : AV} {pre : Prop} {r : AV} {vx vy : Value} {ox oy : Operand} (h : binA P t op x y = some (pre, r)) (hp : pre) (hx : RepV w own β ok x vx) (hy : RepV w own β ok y vy) :
    ∃ v, ((do eqGuard op t ox oy vx vy; binOp op t vx vy : Sem Value)).run P w = .ok v w ∧ RepV w own β ok r v := by
  unfold binA at h
  split at h
  · rename_i k a k' b
    obtain rfl := hx.int_open; obtain rfl := hy.int_open
    simp only [Sem.run_bind, eqGuard_int, Result.andThen_ok]
    have fin : ∀ v r', r = r' → (binOp op t (.int k a) (.int k' b)).run P w = .ok v w → RepC w own r' v → ∃ v, (binOp op t (.int k a) (.int k' b)).run P w = .ok v w ∧ RepV w own β ok r v := fun v r' e h1 h2 => ⟨v, h1, e ▸ .closed h2⟩
    split at h
    · simp only [Option.some.injEq, Prod.mk.injEq] at h; obtain ⟨rfl, rfl⟩ := h
      refine fin _ _ rfl ?_ (.int _ _)
      simp [binOp, Op.shift, Int.not_lt.mpr hp, if_neg (Int.not_lt.mpr hp)]
    · simp only [Option.some.injEq, Prod.mk.injEq] at h; obtain ⟨rfl, rfl⟩ := h
      refine fin _ _ rfl ?_ (.int _ _)
      simp [binOp, Op.shift, if_neg (Int.not_lt.mpr hp)]
    · rename_i hs1 hs2
      split at h
      · cases h
      · rename_i hk
        have hk : k = k' := by simpa using hk
        subst hk
        split at h <;> first | (cases h; done) | skip
        all_goals
          simp only [Option.some.injEq, Prod.mk.injEq] at h; obtain ⟨rfl, rfl⟩ := h
          first
            | (refine fin _ _ rfl ?_ (.int _ _); simp [binOp, Op.intArith, Op.intBits, bitA]; done)
            | (refine fin _ _ rfl ?_ (.int _ _); simp only [binOp, Op.intBits, bitA, ne_eq, not_true, if_false]; rfl)
            | (refine fin _ _ rfl ?_ (.int _ _); simp only [binOp, ne_eq, not_true, if_false]; unfold Op.intDiv; rw [if_neg hp]; rfl)
            | (refine fin _ _ rfl ?_ (.bool _); simp only [binOp, ne_eq, not_true, if_false, Op.intCmp, decide_beq_int, bne]; rfl)
  · rename_i a b
    obtain rfl := hx.str_open; obtain rfl := hy.str_open
    simp only [Sem.run_bind, eqGuard_str, Result.andThen_ok]
    split at h <;> first | (cases h; done) | skip
    all_goals
      simp only [Option.some.injEq, Prod.mk.injEq] at h; obtain ⟨rfl, rfl⟩ := h
    · refine ⟨_, ?_, .closed (.str _)⟩
      have := Int.not_lt.mpr hp
      simp only [binOp, Op.stringOp]
      rw [if_neg (by simpa using this)]; rfl
    · exact ⟨_, by simp only [binOp, Op.stringOp, str_eq]; rfl, .closed (.bool _)⟩
    · exact ⟨_, by simp only [binOp, Op.stringOp, str_eq]; rfl, .closed (.bool _)⟩
    · exact ⟨_, by simp only [binOp, Op.stringOp]; rfl, .closed (.bool _)⟩
    · exact ⟨_, by simp only [binOp, Op.stringOp]; rfl, .closed (.bool _)⟩
  · rename_i a b
    obtain rfl := hx.bool_open; obtain rfl := hy.bool_open
    simp only [Sem.run_bind, eqGuard_bool, Result.andThen_ok]
    split at h
    · rename_i ht
      simp only [Option.some.injEq, Prod.mk.injEq] at h; obtain ⟨rfl, rfl⟩ := h
      exact ⟨_, run_eql_bool w t a b (ti_bool ht), .closed (.bool _)⟩
    · rename_i ht
      simp only [Option.some.injEq, Prod.mk.injEq] at h; obtain ⟨rfl, rfl⟩ := h
      exact ⟨_, run_neq_bool w t a b (ti_bool ht), .closed (.bool _)⟩
    · cases h
  · rename_i xs ys
    split at h
    · rename_i r' he
      simp only [Option.some.injEq, Prod.mk.injEq] at h; obtain ⟨rfl, rfl⟩ := h
      obtain ⟨vs, rfl, hvs⟩ := hx.agg_open; obtain ⟨us, rfl, hus⟩ := hy.agg_open
      obtain ⟨c1, c2⟩ := eqAll_closed (w := w) (own := own) (β := β) (ok := ok) he
      obtain ⟨g1, g2, g3⟩ := hp w own vs us (c1 _ hvs) (c2 _ hus)
      refine ⟨_, ?_, .closed (.bool _)⟩
      simp only [Sem.run_bind, g1, Result.andThen_ok]
      show (do pure (Value.bool (← Op.equal t (.agg vs.toArray) (.agg us.toArray))) : Sem Value).run P w = _
      simp only [Sem.run_bind, g3, Result.andThen_ok]; rfl
    · rename_i r' he
      simp only [Option.some.injEq, Prod.mk.injEq] at h; obtain ⟨rfl, rfl⟩ := h
      obtain ⟨vs, rfl, hvs⟩ := hx.agg_open; obtain ⟨us, rfl, hus⟩ := hy.agg_open
      obtain ⟨c1, c2⟩ := eqAll_closed (w := w) (own := own) (β := β) (ok := ok) he
      obtain ⟨g1, g2, g3⟩ := hp w own vs us (c1 _ hvs) (c2 _ hus)
      refine ⟨_, ?_, .closed (.bool _)⟩
      simp only [Sem.run_bind, g2, Result.andThen_ok]
      show (do pure (Value.bool (!(← Op.equal t (.agg vs.toArray) (.agg us.toArray)))) : Sem Value).run P w = _
      simp only [Sem.run_bind, g3, Result.andThen_ok]; rfl
    · cases h
  · obtain rfl := hy.nils_open
    split at h
    · rename_i e b ht hb
      simp only [Option.some.injEq, Prod.mk.injEq] at h; obtain ⟨rfl, rfl⟩ := h
      obtain ⟨a, n, m, rfl, rfl⟩ := nilB_open hb hx
      refine ⟨_, ?_, .closed (.bool _)⟩
      simp only [Sem.run_bind, eqGuard_slice, Result.andThen_ok]
      exact run_eql_sln a n m (ti_slice ht)
    · rename_i e b ht hb
      simp only [Option.some.injEq, Prod.mk.injEq] at h; obtain ⟨rfl, rfl⟩ := h
      obtain ⟨a, n, m, rfl, rfl⟩ := nilB_open hb hx
      refine ⟨_, ?_, .closed (.bool _)⟩
      simp only [Sem.run_bind, eqGuard_slice, Result.andThen_ok]
      exact run_neq_sln a n m (ti_slice ht)
    · cases h
  · cases h

theorem unA_sound {op : UnOp} {x : AV} {pre : Prop} {r : AV} {vx : Value} (h : unA op x = some (pre, r)) (hx : RepV w own β ok x vx) :
    ∃ v, (Op.unary op vx).run P w = .ok v w ∧ RepV w own β ok r v := by
  unfold unA at h
  split at h
  · obtain rfl := hx.bool_open
    split at h
    · simp only [Option.some.injEq, Prod.mk.injEq] at h; obtain ⟨rfl, rfl⟩ := h
      exact ⟨_, rfl, .closed (.bool _)⟩
    · cases h
  · obtain rfl := hx.int_open
    split at h
    · simp only [Option.some.injEq, Prod.mk.injEq] at h; obtain ⟨rfl, rfl⟩ := h
      exact ⟨_, rfl, .closed (.int _ _)⟩
    · simp only [Option.some.injEq, Prod.mk.injEq] at h; obtain ⟨rfl, rfl⟩ := h
      exact ⟨_, rfl, .closed (.int _ _)⟩
    · cases h
  · cases h
end
end Go.Ab
end

section
namespace Go.Ab

inductive Both {α β : Type} (R : α → β → Prop) : List α → List β → Prop where
  | nil : Both R [] []
  | cons {a : α} {b : β} {as : List α} {bs : List β} : R a b → Both R as bs → Both R (a :: as) (b :: bs)

def cellsA : AV → Option (List AV)
  | .agg cs => some cs
  | .any | .lit (.agg _) => none
  | v => some [v]
def partA (cs : List AV) (off size : Nat) (ag : Bool) : AV := if ag then .agg ((cs.drop off).take size) else cs.getD off .any
def setA (cs : List AV) (off : Nat) (xs : List AV) : List AV := cs.take off ++ xs ++ cs.drop (off + xs.length)
def fillA (place : Nat → Option (Nat × Nat)) : List AV → List (Nat × AV) → Option (List AV)
  | cs, [] => some cs
  | cs, (i, v) :: rest =>
    match place i, cellsA v with
    | some (off, size), some xs => if xs.length = size ∧ off + size ≤ cs.length then fillA place (setA cs off xs) rest else none
    | _, _ => none
def placeS (fs : List (Nat × Nat × Bool)) (i : Nat) : Option (Nat × Nat) :=
  match fs[i]? with
  | some (o, s, _) => some (o, s)
  | none => none
def maxA : AV → AV → Option AV
  | .int k x, .int _ y => some (.int k (if y > x then y else x))
  | _, _ => none
def minA : AV → AV → Option AV
  | .int k x, .int _ y => some (.int k (if y < x then y else x))
  | _, _ => none
def foldA (f : AV → AV → Option AV) : AV → List AV → Option AV
  | x, [] => some x
  | x, y :: ys => match f x y with | some z => foldA f z ys | none => none
def loA : Option AV → Option Int
  | none => some 0
  | some (.int _ n) => some n
  | _ => none
def hiA (len : Nat) : Option AV → Option Int
  | none => some len
  | some (.int _ n) => some n
  | _ => none
def isInt : AV → Option Int
  | .int _ n => some n
  | _ => none

def lenA (P : Program) (t : TypeId) : AV → Option (Prop × AV)
  | .slice els => match (ti P t).d with | .slice _ => some (True, .int .i64 els.length) | _ => none
  | .nils => match (ti P t).d with | .slice _ => some (True, .int .i64 0) | _ => none
  | .str s => match (ti P t).d with | .str => some (True, .int .i64 s.size) | _ => none
  | _ => none
def indexA (P : Program) (t : TypeId) (x i : AV) : Option (Prop × AV) :=
  match (ti P t).d, x, i with
  | .str, .str s, .int _ n => some (0 ≤ n ∧ n < s.size, .int .u8 (bt s n))
  | .array len e, .agg cs, .int _ n =>
    match (ti P e).d with
    | .other => none
    | _ => if (ti P e).agg = true then none else some (0 ≤ n ∧ n < len ∧ n.toNat * (ti P e).size < cs.length, cs.getD (n.toNat * (ti P e).size) .any)
  | _, _, _ => none
def indexAddrA (P : Program) (t : TypeId) (x i : AV) : Option (Prop × AV) :=
  match (ti P t).d, x, i with
  | .slice e, .slice els, .int _ n =>
    match (ti P e).d with
    | .other => none
    | _ => some (0 ≤ n ∧ n < els.length ∧ (els.getD n.toNat []).length = (ti P e).size, .cptr (els.getD n.toNat []))
  | .array len e, .ptr k g off, .int _ n =>
    match (ti P e).d with
    | .other => none
    | _ => if (ti P e).size = 0 then none else some (0 ≤ n ∧ n < len, .ptr k g (off + n.toNat * (ti P e).size))
  | .array len e, .cptr cs, .int _ n =>
    match (ti P e).d with
    | .other => none
    | _ => if (ti P e).size = 0 then none else some (0 ≤ n ∧ n < len, .cptr (cs.drop (n.toNat * (ti P e).size)))
  | _, _, _ => none
def fieldAddrA (P : Program) (t : TypeId) (x : AV) (f : Nat) : Option (Prop × AV) :=
  match (ti P t).d, x with
  | .struct fs, x =>
    match fs[f]? with
    | some (off, size, _) =>
      if size = 0 then none else
      match x with
      | .ptr k g o => some (True, .ptr k g (o + off))
      | .rptr k g es i o => some (True, .rptr k g es i (o + off))
      | .cptr cs => some (True, .cptr (cs.drop off))
      | _ => none
    | none => none
  | _, _ => none
def fieldA (P : Program) (t : TypeId) (x : AV) (f : Nat) : Option (Prop × AV) :=
  match (ti P t).d, x with
  | .struct fs, .agg cs =>
    match fs[f]? with
    | some (off, size, ag) => if off + size ≤ cs.length ∧ (ag = false → 0 < size) then some (True, partA cs off size ag) else none
    | none => none
  | _, _ => none
def sliceA (P : Program) (t : TypeId) (x : AV) (lo hi : Option AV) : Option (Prop × AV) :=
  match (ti P t).d, x with
  | .str, .str s =>
    match loA lo, hiA s.size hi with
    | some l, some h => some (0 ≤ l ∧ l ≤ h ∧ h ≤ s.size, .str (s.extract l.toNat h.toNat))
    | _, _ => none
  | .slice e, .slice els =>
    match (ti P e).d, loA lo, hiA els.length hi with
    | .other, _, _ => none
    | _, some l, some h => some (0 ≤ l ∧ l ≤ h ∧ h ≤ els.length ∧ ∀ x ∈ els, x.length = (ti P e).size, .slice ((els.take h.toNat).drop l.toNat))
    | _, _, _ => none
  | _, _ => none
def sliceFA (P : Program) (t : TypeId) (x : AV) (lo hi : Option AV) : Option (Prop × AV) :=
  match x, hi with
  | .sliceF els, none => match sliceA P t (.slice els) lo none with
    | some (pre, .slice els') => some (pre, .sliceF els')
    | _ => none
  | x, hi => sliceA P t (weak x) lo hi
theorem sliceFA_slice (P : Program) (t : TypeId) (els : List (List AV)) (lo hi : Option AV) : sliceFA P t (.slice els) lo hi = sliceA P t (.slice els) lo hi := rfl
theorem sliceFA_str (P : Program) (t : TypeId) (s : ByteArray) (lo hi : Option AV) : sliceFA P t (.str s) lo hi = sliceA P t (.str s) lo hi := rfl
theorem sliceFA_view (P : Program) (t : TypeId) (k g : Nat) (lo hi : Option AV) : sliceFA P t (.view k g) lo hi = sliceA P t (.view k g) lo hi := rfl
theorem sliceFA_none (P : Program) (t : TypeId) (els : List (List AV)) (lo : Option AV) : sliceFA P t (.sliceF els) lo none = match sliceA P t (.slice els) lo none with
    | some (pre, .slice els') => some (pre, .sliceF els')
    | _ => none := rfl
theorem sliceFA_some (P : Program) (t : TypeId) (els : List (List AV)) (lo : Option AV) (hi : AV) : sliceFA P t (.sliceF els) lo (some hi) = sliceA P t (.slice els) lo (some hi) := rfl
def convertA (P : Program) (s d : TypeId) (x : AV) : Option (Prop × AV) :=
  match (ti P s).d, (ti P d).d, x with
  | .int _, .int k, .int _ n => some (True, .int k (k.wrap n))
  | .str, .str, .str b => some (True, .str b)
  | _, _, _ => none

def pureOp (P : Program) (ρ : Operand → AV) : Op → Option (Prop × AV)
  | .move x | .assign x => some (True, ρ x)
  | .pick c a b => match ρ c with | .bool t => some (True, pickV t (ρ a) (ρ b)) | _ => none
  | .binOp op t x y _ => binA P t op (ρ x) (ρ y)
  | .unOp op _ x => unA op (ρ x)
  | .convert s d x => convertA P s d (ρ x)
  | .build t parts =>
    match (ti P t).d, (ti P t).zero with
    | .struct fs, some z => (fillA (placeS fs) z (parts.toList.map fun p => (p.1, ρ p.2))).map fun cs => (True, .agg cs)
    | .array _ e, some z =>
      match (ti P e).d with
      | .other => none
      | _ => (fillA (fun i => some (i * (ti P e).size, (ti P e).size)) z (parts.toList.map fun p => (p.1, ρ p.2))).map fun cs => (True, .agg cs)
    | _, _ => none
  | .field t x f => fieldA P t (ρ x) f
  | .index t x i => indexA P t (ρ x) (ρ i)
  | .indexAddr t x i => indexAddrA P t (weak (ρ x)) (ρ i)
  | .fieldAddr t x f => fieldAddrA P t (ρ x) f
  | .nilCheck x => match ρ x with
    | .ptr .. | .cptr _ | .rptr .. => some (True, ρ x)
    | .func (.func _) _ => some (True, ρ x)
    | .mfunc (.func _) _ => some (True, ρ x)
    | _ => none
  | .extract x i => match ρ x with
    | .tuple vs => if i < vs.length then some (True, vs.getD i .any) else none
    | _ => none
  | .slice t x lo hi none => sliceFA P t (ρ x) (lo.map ρ) (hi.map ρ)
  | .makeFunc fn first captured => if first.size = 0 then some (True, .func fn (captured.toList.map ρ)) else if captured.size = 0 then some (True, .mfunc fn (first.toList.map ρ)) else none
  | .call c =>
    match c.callee with
    | .builtin .len => match c.args.toList, c.argTypes.toList with | [x], [t] => lenA P t (weak (ρ x)) | _, _ => none
    | .builtin .max => match c.args.toList with | x :: xs => (foldA maxA (ρ x) (xs.map ρ)).map fun v => (True, v) | _ => none
    | .builtin .min => match c.args.toList with | x :: xs => (foldA minA (ρ x) (xs.map ρ)).map fun v => (True, v) | _ => none
    | _ => none
  | _ => none

section
variable {P : Program} {w : World} {own : Nat → Prop} {β : Nat → Nat → Loc} {ok : Nat → Nat → Prop}

theorem run_sizeOf {t : TypeId} {i : TypeInfo} (h : P.info? t = some i) : (sizeOf t).run P w = .ok i.size w := by simp [sizeOf, typeInfo, h]
theorem run_isAgg {t : TypeId} {d : TypeDesc} (h : P.underlying t = some d) : (isAgg t).run P w = .ok (aggD d) w := by
  simp only [isAgg, Sem.run_bind, run_underlying h, Result.andThen_ok]
  cases d <;> rfl

theorem cellsA_rep {v : AV} {xs : List AV} {u : Value} (h : cellsA v = some xs) (hr : RepV w own β ok v u) : RepVL w own β ok xs u.cells.toList := by
  unfold cellsA at h
  split at h
  · cases h
    obtain ⟨vs, rfl, hv⟩ := hr.agg_open
    simpa [Value.cells] using hv
  · cases h
  · cases h
  · rename_i h1 h2 h3
    cases h
    have : u.cells = #[u] := by
      cases u <;> try rfl
      exfalso
      cases hr with
      | closed hr => cases hr with
        | agg _ => exact h1 _ rfl
        | any => exact h2 rfl
        | lit => exact h3 _ rfl
      | agg _ => exact h1 _ rfl
    rw [this]; exact .cons hr .nil

theorem foldl_set (off : Nat) : ∀ (vs : List Value) (k : Nat) (cells : Array Value), off + k + vs.length ≤ cells.size →
    ((vs.zipIdx k).foldl (fun cs (c, j) => cs.setIfInBounds (off + j) c) cells).toList = cells.toList.take (off + k) ++ vs ++ cells.toList.drop (off + k + vs.length)
  | [], k, cells, h => by simp
  | v :: vs, k, cells, h => by
    simp only [List.zipIdx_cons, List.foldl_cons]
    rw [foldl_set off vs (k + 1) _ (by simp at h ⊢; omega)]
    simp only [List.length_cons] at h
    simp only [Array.toList_setIfInBounds, List.length_cons]
    have hlt : off + k < cells.toList.length := by simp; omega
    rw [List.drop_set_of_lt (by omega), List.take_set]
    have : (List.take (off + (k + 1)) cells.toList).set (off + k) v = List.take (off + k) cells.toList ++ [v] := by
      rw [show off + (k + 1) = off + k + 1 by omega, List.take_succ_eq_append_getElem hlt, List.set_append_right _ _ (by simp; exact Nat.min_le_left _ _)]
      have hm : min (off + k) cells.size ≤ off + k := Nat.min_le_left _ _
      simp [Nat.min_eq_left (by omega : off + k ≤ cells.size)]
    rw [this]
    simp [show off + (k + 1) + vs.length = off + k + (vs.length + 1) by omega]

theorem setA_rep {cs xs : List AV} {cells : Array Value} {u : Value} {off : Nat} (hc : RepVL w own β ok cs cells.toList) (hx : RepVL w own β ok xs u.cells.toList) (hl : off + xs.length ≤ cs.length) :
    RepVL w own β ok (setA cs off xs) (u.cells.zipIdx.foldl (fun cs (c, j) => cs.setIfInBounds (off + j) c) cells).toList := by
  have e1 := hc.length; have e2 := hx.length
  have e := foldl_set off u.cells.toList 0 cells (by simp at e1 e2 ⊢; omega)
  have : (u.cells.zipIdx.foldl (fun cs (c, j) => cs.setIfInBounds (off + j) c) cells) = ((u.cells.toList.zipIdx 0).foldl (fun cs (c, j) => cs.setIfInBounds (off + j) c) cells) := by
    rw [← Array.foldl_toList]; simp
  rw [this, e, setA, e2]
  simp only [Nat.add_zero]
  exact ((hc.take off).append hx).append (hc.drop _)

theorem fillA_sound {place : Nat → Option (Nat × Nat)} : ∀ {parts : List (Nat × AV)} {ps : List (Nat × Value)} {cs rs : List AV} {cells : Array Value}, fillA place cs parts = some rs → RepVL w own β ok cs cells.toList →
    Both (fun (a : Nat × AV) (b : Nat × Value) => a.1 = b.1 ∧ RepV w own β ok a.2 b.2) parts ps → ∃ out, Instr.fill place cells ps = some out ∧ RepVL w own β ok rs out.toList
  | [], _, cs, rs, cells, h, hc, hp => by
    cases hp
    simp only [fillA, Option.some.injEq] at h; subst h
    exact ⟨cells, rfl, hc⟩
  | (i, v) :: parts, _, cs, rs, cells, h, hc, hp => by
    cases hp with
    | @cons _ b _ ps hab hps =>
      obtain ⟨j, u⟩ := b
      obtain ⟨e, hr⟩ := hab
      simp only at e hr; subst e
      simp only [fillA] at h
      split at h
      · rename_i off size xs hpl hce
        split at h
        · rename_i hlen
          have hx := cellsA_rep hce hr
          have el := hx.length; have ec := hc.length
          obtain ⟨out, ho, hro⟩ := fillA_sound h (setA_rep hc hx (by omega)) hps
          refine ⟨out, ?_, hro⟩
          simp only [Instr.fill, hpl]
          rw [if_neg (by simp at el ec ⊢; omega)]
          exact ho
        · cases h
      · cases h

theorem leafs_repV (vs : List Value) : RepVL w own β ok (vs.map leaf) vs := (leafs_rep w own vs).toV

theorem partA_sound {cs : List AV} {vs : List Value} {t : TypeId} {i : TypeInfo} {d : TypeDesc} {off : Nat} (hc : RepVL w own β ok cs vs) (hi : P.info? t = some i) (hu : P.underlying t = some d)
    (hl : off + i.size ≤ cs.length) (h0 : aggD d = false → 0 < i.size) : ∃ v, (part t vs.toArray off).run P w = .ok v w ∧ RepV w own β ok (partA cs off i.size (aggD d)) v := by
  simp only [part, Sem.run_bind, run_isAgg hu, Result.andThen_ok]
  cases ha : aggD d
  · simp only [Bool.false_eq_true, if_false]
    have hlt : off < cs.length := by have := h0 ha; omega
    obtain ⟨v, hv, hr⟩ := hc.get off hlt
    refine ⟨v, by simp [hv], ?_⟩
    simp only [partA, Bool.false_eq_true, if_false]
    rw [List.getD_eq_getElem?_getD, List.getElem?_eq_getElem hlt]; exact hr
  · simp only [if_true, Sem.run_bind, run_sizeOf hi, Result.andThen_ok]
    refine ⟨_, rfl, ?_⟩
    simp only [partA, if_true]
    have := RepV.agg ((hc.drop off).take i.size)
    have e : vs.toArray.extract off (off + i.size) = ((vs.drop off).take i.size).toArray := by
      apply Array.toList_inj.mp; simp [List.take_drop]
    rw [e]; exact this

theorem pickV_sound {t : Bool} {x y : AV} {vx vy : Value} (hx : RepV w own β ok x vx) (hy : RepV w own β ok y vy) : RepV w own β ok (pickV t x y) (if t then vx else vy) := by
  unfold pickV
  split
  · obtain rfl := hx.bool_open; obtain rfl := hy.bool_open
    cases t <;> exact .closed (.bool _)
  · cases t
    · exact hy
    · exact hx

theorem getD_flatten {α : Type} {es : Nat} : ∀ {els : List (List α)} {n : Nat}, (∀ e ∈ els, e.length = es) → n < els.length → (els.flatten.drop (n * es)).take es = els.getD n []
  | [], n, _, h => by simp at h
  | e :: els, 0, hl, _ => by
    have h0 : e.length = es := hl e (by simp)
    subst h0
    simp [List.getD]
  | e :: els, n + 1, hl, h => by
    have h0 : e.length = es := hl e (by simp)
    have : (n + 1) * es = e.length + n * es := by rw [h0, Nat.add_mul]; omega
    rw [this, List.flatten_cons, List.drop_append, List.drop_of_length_le (by omega), List.nil_append, Nat.add_sub_cancel_left]
    have ih := getD_flatten (els := els) (n := n) (fun x hx => hl x (by simp [hx])) (by simpa using h)
    simpa using ih
theorem length_flatten_const {α : Type} {es : Nat} : ∀ {els : List (List α)}, (∀ e ∈ els, e.length = es) → els.flatten.length = els.length * es
  | [], _ => by simp
  | e :: els, hl => by
    have h0 : e.length = es := hl e (by simp)
    have ih := length_flatten_const (els := els) (fun x hx => hl x (by simp [hx]))
    simp [ih, h0, Nat.add_mul, Nat.add_comm]
theorem flatten_take_drop {α : Type} {es : Nat} {els : List (List α)} (hl : ∀ e ∈ els, e.length = es) (l h : Nat) : ((els.take h).drop l).flatten = (els.flatten.take (h * es)).drop (l * es) := by
  have tk : ∀ (xs : List (List α)) (n : Nat), (∀ e ∈ xs, e.length = es) → (xs.take n).flatten = xs.flatten.take (n * es) := by
    intro xs
    induction xs with
    | nil => intro n _; simp
    | cons x xs ih =>
      intro n hx
      cases n with
      | zero => simp
      | succ n =>
        have h0 : x.length = es := hx x (by simp)
        rw [List.take_succ_cons, List.flatten_cons, List.flatten_cons, ih n (fun e he => hx e (by simp [he])), List.take_append, h0]
        have e1 : (n + 1) * es - es = n * es := by rw [Nat.add_mul]; omega
        rw [e1, List.take_of_length_le (i := (n + 1) * es) (by rw [h0, Nat.add_mul]; omega)]
  have dr : ∀ (xs : List (List α)) (n : Nat), (∀ e ∈ xs, e.length = es) → (xs.drop n).flatten = xs.flatten.drop (n * es) := by
    intro xs
    induction xs with
    | nil => intro n _; simp
    | cons x xs ih =>
      intro n hx
      cases n with
      | zero => simp
      | succ n =>
        have h0 : x.length = es := hx x (by simp)
        rw [List.drop_succ_cons, List.flatten_cons, ih n (fun e he => hx e (by simp [he])), List.drop_append, h0]
        have e1 : (n + 1) * es - es = n * es := by rw [Nat.add_mul]; omega
        rw [e1, List.drop_of_length_le (i := (n + 1) * es) (by rw [h0, Nat.add_mul]; omega), List.nil_append]
  rw [dr _ _ (fun e he => hl e (List.mem_of_mem_take he)), tk _ _ hl]

theorem At.drop {a : Addr} {vs : List Value} (h : At w own a vs) (n : Nat) : At w own (a.add n) (vs.drop n) := by
  obtain ⟨h1, h2⟩ := h
  refine ⟨fun hne => ?_, fun j v hj => ?_⟩
  · unfold Addr.add
    split
    · exact h1 (fun e => hne (by simp [e]))
    · rfl
  · have := h2 (n + j) v (by simpa using hj)
    unfold Addr.add
    split
    · rename_i e; subst e; simpa using this
    · simpa [Nat.add_assoc] using this
theorem At.take {a : Addr} {vs : List Value} (h : At w own a vs) (n : Nat) : At w own a (vs.take n) := by
  obtain ⟨h1, h2⟩ := h
  refine ⟨fun hne => h1 (fun e => hne (by simp [e])), fun j v hj => ?_⟩
  rw [List.getElem?_take] at hj
  split at hj
  · exact h2 j v hj
  · cases hj

theorem slice_at {els : List (List AV)} {v : Value} {n : Nat} (h : RepC w own (.slice els) v) (hn : n < els.length) {s : Nat} (hs : (els.getD n []).length = s) :
    ∃ a cap vs, v = .slice (some a) els.length cap ∧ RepCL w own (els.getD n []) vs ∧ At w own (a.add (n * s)) vs := by
  cases h with
  | slice0 => simp at hn
  | @slice _ es cap a vs h1 h2 h3 h4 =>
    have he : es = s := by
      rw [← hs, List.getD_eq_getElem?_getD, List.getElem?_eq_getElem hn, Option.getD_some]
      exact (h1 _ (List.getElem_mem hn)).symm
    subst he
    refine ⟨a, cap, (vs.drop (n * es)).take es, rfl, ?_, (h3.drop _).take _⟩
    rw [← getD_flatten h1 hn]
    exact (h2.drop _).take _

theorem lenA_sound {t ty : TypeId} {x r : AV} {pre : Prop} {vx : Value} (h : lenA P t x = some (pre, r)) (hx : RepV w own β ok x vx) :
    ∃ v, (Builtin.len_ #[t] ty #[vx]).run P w = .ok v w ∧ RepV w own β ok r v := by
  unfold lenA at h
  split at h
  · split at h
    · rename_i e hd
      simp only [Option.some.injEq, Prod.mk.injEq] at h; obtain ⟨rfl, rfl⟩ := h
      have hs := hx.slice_open
      cases hs with
      | slice => exact ⟨_, by simp [Builtin.len_, run_underlying (ti_slice hd), goInt], .closed (.int _ _)⟩
      | slice0 => exact ⟨_, by simp [Builtin.len_, run_underlying (ti_slice hd), goInt], .closed (.int _ _)⟩
    · cases h
  · split at h
    · rename_i e hd
      simp only [Option.some.injEq, Prod.mk.injEq] at h; obtain ⟨rfl, rfl⟩ := h
      obtain rfl := hx.nils_open
      exact ⟨_, by simp [Builtin.len_, run_underlying (ti_slice hd), goInt], .closed (.int _ _)⟩
    · cases h
  · split at h
    · rename_i hd
      simp only [Option.some.injEq, Prod.mk.injEq] at h; obtain ⟨rfl, rfl⟩ := h
      obtain rfl := hx.str_open
      exact ⟨_, by simp [Builtin.len_, run_underlying (ti_str hd), goInt], .closed (.int _ _)⟩
    · cases h
  · cases h

theorem bt_eq (s : ByteArray) (n : Int) (h0 : 0 ≤ n) (h1 : n < s.size) : (if 0 ≤ n then s[n.toNat]? else none) = some (s.data.toList.getD n.toNat 0) := by
  rw [if_pos h0]
  have : n.toNat < s.size := by omega
  rw [getElem?_pos s n.toNat this]
  have e : s[n.toNat] = s.data[n.toNat]'(by simpa using this) := rfl
  rw [e, List.getD_eq_getElem?_getD]
  have : n.toNat < s.data.size := by simpa using this
  simp only [Array.getElem?_toList]
  rw [Array.getElem?_eq_getElem this]; rfl

theorem indexA_sound {t : TypeId} {x i r : AV} {pre : Prop} {vx vi : Value} (h : indexA P t x i = some (pre, r)) (hp : pre) (hx : RepV w own β ok x vx) (hi : RepV w own β ok i vi) :
    ∃ v, (Instr.index t vx vi).run P w = .ok v w ∧ RepV w own β ok r v := by
  unfold indexA at h
  split at h
  · rename_i s k n hd
    simp only [Option.some.injEq, Prod.mk.injEq] at h; obtain ⟨rfl, rfl⟩ := h
    obtain rfl := hx.str_open; obtain rfl := hi.int_open
    refine ⟨_, ?_, .closed (.int _ _)⟩
    simp only [Instr.index, asIntOf, Sem.run_bind, Sem.run_pure, Result.andThen_ok, run_underlying (ti_str hd)]
    rw [bt_eq _ _ hp.1 hp.2]; rfl
  · rename_i len e cs k n hd
    split at h
    · cases h
    rename_i hne0
    split at h
    · cases h
    · rename_i hc
      simp only [Option.some.injEq, Prod.mk.injEq] at h; obtain ⟨rfl, rfl⟩ := h
      obtain ⟨vs, rfl, hvs⟩ := hx.agg_open; obtain rfl := hi.int_open
      obtain ⟨h0, h1, h2⟩ := hp
      have hne : (ti P e).d ≠ .other := fun e0 => hne0 e0
      obtain ⟨inf, hinf, hsz, _, _⟩ := ti_info hne
      obtain ⟨d, hu, hag⟩ := ti_und hne
      have hag' : aggD d = false := by rw [← hag]; simpa using hc
      obtain ⟨v, hv, hr⟩ := hvs.get _ h2
      refine ⟨v, ?_, ?_⟩
      · simp only [Instr.index, asIntOf, Sem.run_bind, Sem.run_pure, Result.andThen_ok, run_underlying (ti_array hd)]
        rw [if_pos ⟨h0, h1⟩]
        simp only [Sem.run_bind, run_sizeOf hinf, Result.andThen_ok, part, run_isAgg hu, hag', Bool.false_eq_true, if_false, hsz]
        simp [hv]
      · rw [List.getD_eq_getElem?_getD, List.getElem?_eq_getElem h2]; exact hr
  · cases h

theorem indexAddrA_sound {t : TypeId} {x i r : AV} {pre : Prop} {vx vi : Value} (h : indexAddrA P t x i = some (pre, r)) (hp : pre) (hx : RepV w own β ok x vx) (hi : RepV w own β ok i vi) :
    ∃ v, (Instr.indexAt t vx vi).run P w = .ok v w ∧ RepV w own β ok r v := by
  unfold indexAddrA at h
  split at h
  · rename_i e els k n hd
    split at h
    · cases h
    · rename_i hne
      simp only [Option.some.injEq, Prod.mk.injEq] at h; obtain ⟨rfl, rfl⟩ := h
      obtain rfl := hi.int_open
      obtain ⟨h0, h1, h2⟩ := hp
      obtain ⟨inf, hinf, hsz, _, _⟩ := ti_info (P := P) (t := e) (fun e0 => hne e0)
      obtain ⟨a, cap, vs, rfl, hc, hat⟩ := slice_at hx.slice_open (by omega) h2
      refine ⟨_, ?_, .closed (.cptr hc hat)⟩
      simp only [Instr.indexAt, asIntOf, Sem.run_bind, Sem.run_pure, Result.andThen_ok, run_underlying (ti_slice hd)]
      rw [if_pos ⟨h0, h1⟩]
      simp only [Sem.run_bind, run_sizeOf hinf, Result.andThen_ok, hsz]; rfl
  · rename_i len e k g off kk n hd
    split at h
    · cases h
    · rename_i hne
      split at h
      · cases h
      · rename_i hs
        simp only [Option.some.injEq, Prod.mk.injEq] at h; obtain ⟨rfl, rfl⟩ := h
        obtain rfl := hi.int_open
        obtain ⟨hg, rfl⟩ := hx.ptr_open
        obtain ⟨inf, hinf, hsz, _, _⟩ := ti_info (P := P) (t := e) (fun e0 => hne e0)
        refine ⟨.pointer (some ⟨(β k g).block, off + n.toNat * (ti P e).size, none⟩), ?_, .ptr hg⟩
        simp only [Instr.indexAt, Instr.sureAddr, asIntOf, Sem.run_bind, Sem.run_pure, Result.andThen_ok, run_underlying (ti_array hd)]
        rw [if_pos hp]
        simp only [Sem.run_bind, run_sizeOf hinf, Result.andThen_ok, hsz, Addr.add]
        split
        · rename_i e0; rw [e0]; rfl
        · rfl
  · rename_i len e cs kk n hd
    split at h
    · cases h
    · rename_i hne
      split at h
      · cases h
      · rename_i hs
        simp only [Option.some.injEq, Prod.mk.injEq] at h; obtain ⟨rfl, rfl⟩ := h
        obtain rfl := hi.int_open
        obtain ⟨a, vs, rfl, hc, hat⟩ := hx.cptr_open
        obtain ⟨inf, hinf, hsz, _, _⟩ := ti_info (P := P) (t := e) (fun e0 => hne e0)
        refine ⟨_, ?_, .closed (.cptr (hc.drop _) (hat.drop _))⟩
        simp only [Instr.indexAt, Instr.sureAddr, asIntOf, Sem.run_bind, Sem.run_pure, Result.andThen_ok, run_underlying (ti_array hd)]
        rw [if_pos hp]
        simp only [Sem.run_bind, run_sizeOf hinf, Result.andThen_ok, hsz]; rfl
  · cases h

theorem fieldAddrA_sound {t : TypeId} {x r : AV} {f : Nat} {pre : Prop} {vx : Value} (h : fieldAddrA P t x f = some (pre, r)) (hx : RepV w own β ok x vx) :
    ∃ v, (Instr.fieldAt t vx f).run P w = .ok v w ∧ RepV w own β ok r v := by
  unfold fieldAddrA at h
  split at h
  · rename_i fs x' hd
    split at h
    · rename_i off size ag hf
      obtain ⟨fl, fd, d, inf, hu, hfd, hoff, hinf, hsz, _, _⟩ := ti_field hd hf
      split at h
      · cases h
      · rename_i hs
        have go : ∀ a : Addr, vx = .pointer (some a) → (Instr.fieldAt t vx f).run P w = .ok (.pointer (some (a.add off))) w := by
          intro a ha; subst ha
          simp only [Instr.fieldAt, Sem.run_bind, run_underlying hu, Result.andThen_ok, hfd, Instr.sureAddr, Sem.run_pure, fieldPlace, run_sizeOf hinf]
          rw [if_neg (by rw [hsz]; exact hs)]
          simp [hoff]
        split at h
        · simp only [Option.some.injEq, Prod.mk.injEq] at h; obtain ⟨rfl, rfl⟩ := h
          obtain ⟨hg, hv⟩ := hx.ptr_open
          rename_i k g o
          refine ⟨.pointer (some ⟨(β k g).block, o + off, none⟩), ?_, .ptr hg⟩
          rw [go _ hv]; unfold Addr.add; split
          · rename_i e0; rw [e0]; rfl
          · rfl
        · simp only [Option.some.injEq, Prod.mk.injEq] at h; obtain ⟨rfl, rfl⟩ := h
          obtain ⟨hg, hv⟩ := hx.rptr_open
          rename_i k g es i o
          refine ⟨.pointer (some ⟨(β k g).block, i * es + (o + off), none⟩), ?_, .rptr hg⟩
          rw [go _ hv]; unfold Addr.add; split
          · rename_i e0; rw [e0]; rfl
          · simp [Nat.add_assoc]
        · simp only [Option.some.injEq, Prod.mk.injEq] at h; obtain ⟨rfl, rfl⟩ := h
          obtain ⟨a, vs, hv, hc, hat⟩ := hx.cptr_open
          exact ⟨_, go _ hv, .closed (.cptr (hc.drop _) (hat.drop _))⟩
        · cases h
    · cases h
  · cases h

theorem fieldA_sound {t : TypeId} {x r : AV} {f : Nat} {pre : Prop} {vx : Value} (h : fieldA P t x f = some (pre, r)) (hx : RepV w own β ok x vx) :
    ∃ v, (Instr.field t vx f).run P w = .ok v w ∧ RepV w own β ok r v := by
  unfold fieldA at h
  split at h
  · rename_i fs cs hd
    split at h
    · rename_i off size ag hf
      obtain ⟨fl, fd, d, inf, hu, hfd, hoff, hinf, hsz, hu2, hag⟩ := ti_field hd hf
      split at h
      · rename_i hc
        simp only [Option.some.injEq, Prod.mk.injEq] at h; obtain ⟨rfl, rfl⟩ := h
        obtain ⟨vs, rfl, hvs⟩ := hx.agg_open
        obtain ⟨v, hv, hr⟩ := partA_sound (off := off) hvs hinf hu2 (by rw [hsz]; exact hc.1) (fun e => by rw [hsz]; exact hc.2 (by rw [← hag, e]))
        refine ⟨v, ?_, by rw [hsz, hag] at hr; exact hr⟩
        simp only [Instr.field, Sem.run_bind, run_underlying hu, Result.andThen_ok, hfd, asAgg, Sem.run_pure, hoff]
        exact hv
      · cases h
    · cases h
  · cases h

theorem convertA_sound {s d : TypeId} {x r : AV} {pre : Prop} {vx : Value} (h : convertA P s d x = some (pre, r)) (hx : RepV w own β ok x vx) :
    ∃ v, (convert s d vx).run P w = .ok v w ∧ RepV w own β ok r v := by
  unfold convertA at h
  split at h
  · rename_i k1 k k2 n hs hd
    simp only [Option.some.injEq, Prod.mk.injEq] at h; obtain ⟨rfl, rfl⟩ := h
    obtain rfl := hx.int_open
    exact ⟨_, by simp [convert, run_underlying (ti_int hs), run_underlying (ti_int hd), Conv.intToInt], .closed (.int _ _)⟩
  · rename_i b hs hd
    simp only [Option.some.injEq, Prod.mk.injEq] at h; obtain ⟨rfl, rfl⟩ := h
    obtain rfl := hx.str_open
    exact ⟨_, by simp [convert, run_underlying (ti_str hs), run_underlying (ti_str hd)], .closed (.str _)⟩
  · cases h
end
end Go.Ab
end

section
namespace Go.Ab
section
variable {P : Program} {w : World} {own : Nat → Prop} {β : Nat → Nat → Loc} {ok : Nat → Nat → Prop}

theorem foldA_max : ∀ {xs : List AV} {x r : AV} {vx : Value} {vs : List Value}, foldA maxA x xs = some r → RepV w own β ok x vx → RepVL w own β ok xs vs → ∃ v, (vs.foldlM Builtin.max2 vx).run P w = .ok v w ∧ RepV w own β ok r v
  | [], x, r, vx, vs, h, hx, hv => by cases hv; simp only [foldA, Option.some.injEq] at h; subst h; exact ⟨vx, rfl, hx⟩
  | y :: ys, x, r, vx, vs, h, hx, hv => by
    cases hv with
    | @cons _ vy _ vs hy hys =>
      simp only [foldA] at h
      split at h
      · rename_i z hz
        unfold maxA at hz
        split at hz
        · cases hz
          obtain rfl := hx.int_open; obtain rfl := hy.int_open
          obtain ⟨v, hv, hr⟩ := foldA_max h (.closed (.int _ _)) hys
          refine ⟨v, ?_, hr⟩
          simp only [List.foldlM_cons, Sem.run_bind, Builtin.max2, Sem.run_pure, Result.andThen_ok]
          exact hv
        · cases hz
      · cases h
theorem foldA_min : ∀ {xs : List AV} {x r : AV} {vx : Value} {vs : List Value}, foldA minA x xs = some r → RepV w own β ok x vx → RepVL w own β ok xs vs → ∃ v, (vs.foldlM Builtin.min2 vx).run P w = .ok v w ∧ RepV w own β ok r v
  | [], x, r, vx, vs, h, hx, hv => by cases hv; simp only [foldA, Option.some.injEq] at h; subst h; exact ⟨vx, rfl, hx⟩
  | y :: ys, x, r, vx, vs, h, hx, hv => by
    cases hv with
    | @cons _ vy _ vs hy hys =>
      simp only [foldA] at h
      split at h
      · rename_i z hz
        unfold minA at hz
        split at hz
        · cases hz
          obtain rfl := hx.int_open; obtain rfl := hy.int_open
          obtain ⟨v, hv, hr⟩ := foldA_min h (.closed (.int _ _)) hys
          refine ⟨v, ?_, hr⟩
          simp only [List.foldlM_cons, Sem.run_bind, Builtin.min2, Sem.run_pure, Result.andThen_ok]
          exact hv
        · cases hz
      · cases h

def RepO (w : World) (own : Nat → Prop) (β : Nat → Nat → Loc) (ok : Nat → Nat → Prop) : Option AV → Option Value → Prop
  | none, none => True
  | some x, some v => RepV w own β ok x v
  | _, _ => False

theorem lo_open {lo : Option AV} {lov : Option Value} {l : Int} (hl : loA lo = some l) (rl : RepO w own β ok lo lov) : (lov = none ∧ l = 0) ∨ ∃ k, lov = some (.int k l) := by
  cases lo with
  | none => cases lov with
    | none => simp only [loA, Option.some.injEq] at hl; exact .inl ⟨rfl, hl.symm⟩
    | some v => simp [RepO] at rl
  | some x => cases lov with
    | none => simp [RepO] at rl
    | some v =>
      simp only [RepO] at rl
      cases x <;> simp [loA] at hl
      subst hl
      exact .inr ⟨_, by rw [rl.int_open]⟩
theorem hi_open {len : Nat} {hi : Option AV} {hiv : Option Value} {h : Int} (hl : hiA len hi = some h) (rl : RepO w own β ok hi hiv) : (hiv = none ∧ h = len) ∨ ∃ k, hiv = some (.int k h) := by
  cases hi with
  | none => cases hiv with
    | none => simp only [hiA, Option.some.injEq] at hl; exact .inl ⟨rfl, hl.symm⟩
    | some v => simp [RepO] at rl
  | some x => cases hiv with
    | none => simp [RepO] at rl
    | some v =>
      simp only [RepO] at rl
      cases x <;> simp [hiA] at hl
      subst hl
      exact .inr ⟨_, by rw [rl.int_open]⟩

theorem bounds_sound {b : Bool} {len cap : Nat} {lo hi : Option AV} {lov hiv : Option Value} {l h : Int} (hl : loA lo = some l) (hh : hiA len hi = some h) (rl : RepO w own β ok lo lov) (rh : RepO w own β ok hi hiv)
    (h0 : 0 ≤ l) (h1 : l ≤ h) (h2 : h ≤ len) (h3 : len ≤ cap) : (Instr.sliceBounds b len cap lov hiv none).run P w = .ok (l.toNat, h.toNat, cap) w := by
  rcases hi_open hh rh with ⟨rfl, rfl⟩ | ⟨kh, rfl⟩ <;> rcases lo_open hl rl with ⟨rfl, rfl⟩ | ⟨kl, rfl⟩
  · simp [Instr.sliceBounds]
  · have e := run_sliceBound (P := P) (w := w) kl l len (if (none : Option Value).isSome then .slice3C else .sliceB) h0 h1
    simp only [Instr.sliceBounds, Sem.run_bind, Sem.run_pure, Result.andThen_ok, e]
    simp
  · have e := run_sliceBound (P := P) (w := w) kh h cap (if b then .sliceAcap else .sliceAlen) h1 (by omega)
    simp only [Instr.sliceBounds, Sem.run_bind, Sem.run_pure, Result.andThen_ok, e]
    simp
  · have e := run_sliceBound (P := P) (w := w) kh h cap (if b then .sliceAcap else .sliceAlen) (by omega) (by omega)
    have e2 := run_sliceBound (P := P) (w := w) kl l h.toNat (if (none : Option Value).isSome then .slice3C else .sliceB) h0 (by omega)
    simp only [Instr.sliceBounds, Sem.run_bind, Sem.run_pure, Result.andThen_ok, e, e2]

theorem sliceA_sound {t : TypeId} {x r : AV} {pre : Prop} {vx : Value} {lo hi : Option AV} {lov hiv : Option Value} (h : sliceA P t x lo hi = some (pre, r)) (hp : pre) (hx : RepV w own β ok x vx)
    (rl : RepO w own β ok lo lov) (rh : RepO w own β ok hi hiv) : ∃ v, (Instr.sliceAt t vx lov hiv none).run P w = .ok v w ∧ RepV w own β ok r v := by
  unfold sliceA at h
  split at h
  · rename_i s hd
    split at h
    · rename_i l hh hl hh2
      simp only [Option.some.injEq, Prod.mk.injEq] at h; obtain ⟨rfl, rfl⟩ := h
      obtain rfl := hx.str_open
      refine ⟨_, ?_, .closed (.str _)⟩
      rw [run_sliceAt_string (h := ti_str hd)]
      simp only [Instr.slice, Sem.run_bind, run_underlying (ti_str hd), Result.andThen_ok, Option.isSome_none, Bool.false_eq_true, if_false]
      rw [bounds_sound hl hh2 rl rh hp.1 hp.2.1 hp.2.2 (Nat.le_refl _)]; rfl
    · cases h
  · rename_i e els hd
    split at h
    · cases h
    · rename_i l hh hl hh2 hne
      simp only [Option.some.injEq, Prod.mk.injEq] at h; obtain ⟨rfl, rfl⟩ := h
      obtain ⟨h0, h1, h2, h3⟩ := hp
      obtain ⟨inf, hinf, hsz, _, _⟩ := ti_info (P := P) (t := e) (fun e0 => hne e0)
      have hu := ti_slice hd
      have run : ∀ (a : Option Addr) (len cap : Nat), len = els.length → len ≤ cap → (Instr.sliceAt t (.slice a len cap) lov hiv none).run P w =
          .ok (.slice (if cap = l.toNat then a else a.map (·.add (l.toNat * (ti P e).size))) (hh.toNat - l.toNat) (cap - l.toNat)) w := by
        intro a len cap e1 hc
        subst e1
        simp only [Instr.sliceAt, Sem.run_bind, run_underlying hu, Result.andThen_ok, Instr.slice]
        rw [bounds_sound hl hh2 rl rh h0 h1 h2 hc]
        simp only [Result.andThen_ok, run_sizeOf hinf, Sem.run_pure, hsz]
      have hlen : ((els.take hh.toNat).drop l.toNat).length = hh.toNat - l.toNat := by simp; omega
      cases hx.slice_open with
      | slice0 =>
        refine ⟨_, run _ _ _ rfl (Nat.le_refl _), ?_⟩
        simp at h2
        have : l.toNat = 0 := by omega
        have hh0 : hh.toNat = 0 := by omega
        simp [this, hh0]
        exact .closed .slice0
      | @slice _ es cap a vs k1 k2 k3 k4 =>
        refine ⟨_, run _ _ _ rfl k4, ?_⟩
        have hes : els ≠ [] → es = (ti P e).size := by
          intro hne
          obtain ⟨y, ys, rfl⟩ := List.exists_cons_of_ne_nil hne
          rw [← k1 y (by simp), h3 y (by simp)]
        have main : RepCL w own ((els.take hh.toNat).drop l.toNat).flatten ((vs.take (hh.toNat * es)).drop (l.toNat * es)) := by
          rw [flatten_take_drop k1]; exact (k2.take _).drop _
        have hmem : ∀ y ∈ (els.take hh.toNat).drop l.toNat, y.length = es := fun y hy => k1 y (List.mem_of_mem_take (List.mem_of_mem_drop hy))
        rw [← hlen]
        by_cases hc : cap = l.toNat
        · rw [if_pos hc]
          have : (els.take hh.toNat).drop l.toNat = [] := List.length_eq_zero_iff.mp (by rw [hlen]; omega)
          have hvs : (vs.take (hh.toNat * es)).drop (l.toNat * es) = [] := by
            have := main.length; rw [‹(els.take hh.toNat).drop l.toNat = []›] at this; exact List.length_eq_zero_iff.mp (by simpa using this.symm)
          refine .closed (.slice (es := es) (vs := []) hmem (by rw [this]; exact .nil) ⟨fun h => absurd rfl h, fun j v hj => by simp at hj⟩ (by rw [this]; simp))
        · rw [if_neg hc]
          simp only [Option.map_some]
          by_cases he : els = []
          · subst he
            simp at h2
            have : l.toNat = 0 := by omega
            refine .closed (.slice (es := es) (vs := []) hmem (by simpa using RepCL.nil) ⟨fun h => absurd rfl h, fun j v hj => by simp at hj⟩ (by simp))
          · rw [← hes he]
            exact .closed (.slice hmem main ((k3.take _).drop _) (by rw [hlen]; omega))
    · cases h
  · cases h

theorem sliceFA_sound {t : TypeId} {x r : AV} {pre : Prop} {vx : Value} {lo hi : Option AV} {lov hiv : Option Value} (h : sliceFA P t x lo hi = some (pre, r)) (hp : pre) (hx : RepV w own β ok x vx)
    (rl : RepO w own β ok lo lov) (rh : RepO w own β ok hi hiv) : ∃ v, (Instr.sliceAt t vx lov hiv none).run P w = .ok v w ∧ RepV w own β ok r v := by
  unfold sliceFA at h
  split at h
  · rename_i els
    split at h
    · rename_i pre' els' hs
      simp only [Option.some.injEq, Prod.mk.injEq] at h; obtain ⟨rfl, rfl⟩ := h
      obtain ⟨v, hv, hr⟩ := sliceA_sound (x := .slice els) hs hp hx.weak rl rh
      refine ⟨v, hv, ?_⟩
      obtain ⟨o, rfl⟩ : ∃ o, vx = .slice o els.length els.length := by
        generalize hE : AV.sliceF els = E at hx
        have := hx.sliceF_open' hE.symm
        exact this
      unfold sliceA at hs
      split at hs
      · rename_i _ hq; cases hq
      · rename_i e els0 hd hq
        cases hq
        split at hs
        · cases hs
        · rename_i l hh hl hh2 hne
          simp only [Option.some.injEq, Prod.mk.injEq] at hs
          obtain ⟨rfl, _⟩ := hs
          obtain ⟨h0, h1, h2, h3⟩ := hp
          obtain ⟨inf, hinf, hsz, _, _⟩ := ti_info (P := P) (t := e) (fun e0 => hne e0)
          simp only [Instr.sliceAt, Sem.run_bind, run_underlying (ti_slice hd), Result.andThen_ok, Instr.slice] at hv
          rw [bounds_sound hl hh2 rl rh h0 h1 h2 (Nat.le_refl _)] at hv
          simp only [Result.andThen_ok, run_sizeOf hinf, Sem.run_pure, hsz] at hv
          simp only [hiA, Option.some.injEq] at hh2
          subst hh2
          simp only [Result.ok.injEq, and_true, Int.toNat_natCast] at hv
          subst hv
          have hl2 := hr.slice_open.slice_len
          have hr2 := hr.slice_open
          rw [hl2] at hr2 ⊢
          exact .closed hr2.full
        · cases hs
      · cases hs
    · cases h
  · exact sliceA_sound h hp hx.weak rl rh

theorem sliceFA_pre {t : TypeId} {x r : AV} {pre : Prop} {lo hi : Option AV} (h : sliceFA P t x lo hi = some (pre, r)) : ∃ r', sliceA P t (weak x) lo hi = some (pre, r') := by
  unfold sliceFA at h
  split at h
  · split at h
    · rename_i hs
      simp only [Option.some.injEq, Prod.mk.injEq] at h; obtain ⟨rfl, _⟩ := h
      exact ⟨_, hs⟩
    · cases h
  · exact ⟨r, h⟩

theorem Both.map_operands {ρA : Operand → AV} {ρ : Operand → Value} (hρ : ∀ x, RepV w own β ok (ρA x) (ρ x)) (ps : List (Nat × Operand)) :
    Both (fun (a : Nat × AV) (b : Nat × Value) => a.1 = b.1 ∧ RepV w own β ok a.2 b.2) (ps.map fun p => (p.1, ρA p.2)) (ps.map fun p => (p.1, ρ p.2)) := by
  induction ps with
  | nil => exact .nil
  | cons p ps ih => exact .cons ⟨rfl, hρ _⟩ ih
theorem RepVL.map {ρA : Operand → AV} {ρ : Operand → Value} (hρ : ∀ x, RepV w own β ok (ρA x) (ρ x)) (ps : List Operand) : RepVL w own β ok (ps.map ρA) (ps.map ρ) := by
  induction ps with
  | nil => exact .nil
  | cons p ps ih => exact .cons (hρ _) ih
theorem RepO.map {ρA : Operand → AV} {ρ : Operand → Value} (hρ : ∀ x, RepV w own β ok (ρA x) (ρ x)) (o : Option Operand) : RepO w own β ok (o.map ρA) (o.map ρ) := by
  cases o with
  | none => trivial
  | some x => exact hρ x

theorem places_eq {fs : Array Field} {l : List (Nat × Nat × Bool)} (h : fs.toList.mapM (fieldOf P) = some l) :
    fs.toList.mapM (fun f => (P.info? f.type).map fun i => (f.offset, i.size)) = some (l.map fun x => (x.1, x.2.1)) := by
  have : ∀ (xs : List Field) (l : List (Nat × Nat × Bool)), xs.mapM (fieldOf P) = some l → xs.mapM (fun f => (P.info? f.type).map fun i => (f.offset, i.size)) = some (l.map fun x => (x.1, x.2.1)) := by
    intro xs
    induction xs with
    | nil => intro l h; simp at h; subst h; simp
    | cons x xs ih =>
      intro l h
      simp only [List.mapM_cons, Option.bind_eq_bind, Option.bind_eq_some_iff, Option.pure_def, Option.some.injEq] at h
      obtain ⟨b, hb, bs, hbs, rfl⟩ := h
      have ih' := ih _ hbs
      unfold fieldOf at hb
      split at hb
      · rename_i i d hi hd
        cases hb
        simp [List.mapM_cons, hi, ih']
      · cases hb
  exact this _ _ h

theorem build_sound {t : TypeId} {parts : Array (Nat × Operand)} {ρA : Operand → AV} {ρ : Operand → Value} (hρ : ∀ x, RepV w own β ok (ρA x) (ρ x)) {pre : Prop} {r : AV}
    (h : pureOp P ρA (.build t parts) = some (pre, r)) : ∃ v, (Instr.build t (parts.map fun (i, x) => (i, ρ x))).run P w = .ok v w ∧ RepV w own β ok r v := by
  simp only [pureOp] at h
  have hp := Both.map_operands hρ parts.toList
  have el : (parts.map fun (x : Nat × Operand) => (x.1, ρ x.2)).toList = parts.toList.map fun p => (p.1, ρ p.2) := by simp
  split at h
  · rename_i fs z hd hz
    obtain ⟨inf, hinf, hsz, _, hzero⟩ := ti_info (P := P) (t := t) (by rw [hd]; simp)
    rw [hz] at hzero
    obtain ⟨zv, hzv, rfl⟩ : ∃ zv, inf.zero = some zv ∧ z = zv.cells.toList.map leaf := by
      cases hq : inf.zero with
      | none => rw [hq] at hzero; cases hzero
      | some zv => rw [hq] at hzero; simp at hzero; exact ⟨zv, rfl, hzero⟩
    cases hf : fillA (placeS fs) (zv.cells.toList.map leaf) (parts.toList.map fun p => (p.1, ρA p.2)) with
    | none => rw [hf] at h; cases h
    | some cs =>
      rw [hf] at h
      simp only [Option.map_some, Option.some.injEq, Prod.mk.injEq] at h
      obtain ⟨_, rfl⟩ := h
      obtain ⟨out, ho, hr⟩ := fillA_sound hf (leafs_repV _) hp
      obtain ⟨fl, hu, hm⟩ := ti_struct hd
      refine ⟨.agg out, run_build w t _ out ?_, by have := RepV.agg hr; simpa using this⟩
      rw [el]
      simp only [Program.built, hinf, hu, hzv, places_eq hm]
      rw [← ho]
      congr 1
      funext i
      simp only [placeS]
      cases hi : fs[i]? with
      | none => simp [hi]
      | some x => obtain ⟨a, b, c⟩ := x; simp [hi]
  · rename_i n e z hd hz
    split at h
    · cases h
    · rename_i hne
      obtain ⟨inf, hinf, hsz, _, hzero⟩ := ti_info (P := P) (t := t) (by rw [hd]; simp)
      obtain ⟨ine, hine, hsze, _, _⟩ := ti_info (P := P) (t := e) (fun e0 => hne e0)
      rw [hz] at hzero
      obtain ⟨zv, hzv, rfl⟩ : ∃ zv, inf.zero = some zv ∧ z = zv.cells.toList.map leaf := by
        cases hq : inf.zero with
        | none => rw [hq] at hzero; cases hzero
        | some zv => rw [hq] at hzero; simp at hzero; exact ⟨zv, rfl, hzero⟩
      cases hf : fillA (fun i => some (i * (ti P e).size, (ti P e).size)) (zv.cells.toList.map leaf) (parts.toList.map fun p => (p.1, ρA p.2)) with
      | none => rw [hf] at h; cases h
      | some cs =>
        rw [hf] at h
        simp only [Option.map_some, Option.some.injEq, Prod.mk.injEq] at h
        obtain ⟨_, rfl⟩ := h
        obtain ⟨out, ho, hr⟩ := fillA_sound hf (leafs_repV _) hp
        refine ⟨.agg out, run_build w t _ out ?_, by have := RepV.agg hr; simpa using this⟩
        rw [el]
        simp only [Program.built, hinf, ti_array hd, hzv, hine, hsze]
        exact ho
  · cases h

theorem run_value {s : Sem Value} {v : Value} (h : s.run P w = .ok v w) : (do pure (Next.value (← s)) : Sem Next).run P w = .ok (.value v) w := by
  simp only [Sem.run_bind, h, Result.andThen_ok, Sem.run_pure]

theorem pure_sound {ρA : Operand → AV} {ρ : Operand → Value} (hρ : ∀ x, RepV w own β ok (ρA x) (ρ x)) {o : Oper} {pre : Prop} {r : AV} (h : pureOp P ρA o.op = some (pre, r)) (hp : pre) :
    ∃ v, (execOp ρ o).run P w = .ok (.value v) w ∧ RepV w own β ok r v := by
  have fin : ∀ {s : Sem Value}, (∃ v, s.run P w = .ok v w ∧ RepV w own β ok r v) → ∃ v, (do pure (Next.value (← s)) : Sem Next).run P w = .ok (.value v) w ∧ RepV w own β ok r v :=
    fun ⟨v, hv, hr⟩ => ⟨v, run_value hv, hr⟩
  obtain ⟨dst, op, ty, pos, after, guard⟩ := o
  simp only at h
  cases op <;> simp only [pureOp] at h <;> (try (cases h; done)) <;> simp only [execOp]
  case move x => simp only [Option.some.injEq, Prod.mk.injEq] at h; obtain ⟨rfl, rfl⟩ := h; exact ⟨_, rfl, hρ x⟩
  case assign x => simp only [Option.some.injEq, Prod.mk.injEq] at h; obtain ⟨rfl, rfl⟩ := h; exact ⟨_, rfl, hρ x⟩
  case pick c a b =>
    split at h
    · rename_i t hc
      simp only [Option.some.injEq, Prod.mk.injEq] at h; obtain ⟨rfl, rfl⟩ := h
      have := hρ c; rw [hc] at this
      have e := this.bool_open
      refine ⟨if t then ρ a else ρ b, ?_, pickV_sound (hρ a) (hρ b)⟩
      simp only [e, asBool, Sem.run_bind, Sem.run_pure, Result.andThen_ok]
    · cases h
  case build t parts => exact fin (build_sound hρ (by simpa only [pureOp] using h))
  case nilCheck x =>
    have hx := hρ x
    split at h
    · rename_i hc; rw [hc] at hx h
      simp only [Option.some.injEq, Prod.mk.injEq] at h; obtain ⟨rfl, rfl⟩ := h
      obtain ⟨hg, e⟩ := hx.ptr_open; rw [e]; exact ⟨_, rfl, .ptr hg⟩
    · rename_i hc; rw [hc] at hx h
      simp only [Option.some.injEq, Prod.mk.injEq] at h; obtain ⟨rfl, rfl⟩ := h
      obtain ⟨a, vs, e, h1, h2⟩ := hx.cptr_open; rw [e]; exact ⟨_, rfl, .closed (.cptr h1 h2)⟩
    · rename_i hc; rw [hc] at hx h
      simp only [Option.some.injEq, Prod.mk.injEq] at h; obtain ⟨rfl, rfl⟩ := h
      obtain ⟨hg, e⟩ := hx.rptr_open; rw [e]; exact ⟨_, rfl, .rptr hg⟩
    · rename_i hc; rw [hc] at hx h
      simp only [Option.some.injEq, Prod.mk.injEq] at h; obtain ⟨rfl, rfl⟩ := h
      obtain ⟨vs, e, h1⟩ := hx.func_open; rw [e]; exact ⟨_, rfl, .func h1⟩
    · rename_i hc; rw [hc] at hx h
      simp only [Option.some.injEq, Prod.mk.injEq] at h; obtain ⟨rfl, rfl⟩ := h
      obtain ⟨vs, e, h1⟩ := hx.mfunc_open; rw [e]; exact ⟨_, rfl, .mfunc h1⟩
    · cases h
  case binOp op t x y _ => exact fin (binA_sound h hp (hρ x) (hρ y))
  case unOp op _ x => exact fin (unA_sound h (hρ x))
  case convert s d x => exact fin (convertA_sound h (hρ x))
  case makeFunc fn first captured =>
    split at h
    · rename_i h0
      simp only [Option.some.injEq, Prod.mk.injEq] at h; obtain ⟨rfl, rfl⟩ := h
      have : first = #[] := by simpa using h0
      subst this
      refine fin ⟨_, rfl, ?_⟩
      have := RepV.func (fn := fn) (RepVL.map hρ captured.toList)
      have e : (captured.toList.map ρ).toArray = captured.map ρ := by apply Array.toList_inj.mp; simp
      have e2 : (#[] : Array Operand).map ρ = #[] := by simp
      rw [e] at this; rw [e2]; exact this
    · split at h
      · rename_i h0
        simp only [Option.some.injEq, Prod.mk.injEq] at h; obtain ⟨rfl, rfl⟩ := h
        have : captured = #[] := by simpa using h0
        subst this
        refine fin ⟨_, rfl, ?_⟩
        have := RepV.mfunc (fn := fn) (RepVL.map hρ first.toList)
        have e : (first.toList.map ρ).toArray = first.map ρ := by apply Array.toList_inj.mp; simp
        have e2 : (#[] : Array Operand).map ρ = #[] := by simp
        rw [e] at this; rw [e2]; exact this
      · cases h
  case slice t x lo hi mx =>
    cases mx with
    | none => exact fin (sliceFA_sound h hp (hρ x) (RepO.map hρ lo) (RepO.map hρ hi))
    | some m => cases h
  case fieldAddr t x f => exact fin (fieldAddrA_sound h (hρ x))
  case field t x f => exact fin (fieldA_sound h (hρ x))
  case indexAddr t x i => exact fin (indexAddrA_sound h hp (hρ x).weak (hρ i))
  case index t x i => exact fin (indexA_sound h hp (hρ x) (hρ i))
  case extract x i =>
    split at h
    · rename_i vs hc
      split at h
      · rename_i hi
        simp only [Option.some.injEq, Prod.mk.injEq] at h; obtain ⟨rfl, rfl⟩ := h
        have hx := hρ x; rw [hc] at hx
        obtain ⟨us, e, hus⟩ := hx.tuple_open
        obtain ⟨v, hv, hr⟩ := hus.get i hi
        refine fin ⟨v, ?_, by rw [List.getD_eq_getElem?_getD, List.getElem?_eq_getElem hi]; exact hr⟩
        simp [e, Instr.extract, hv]
      · cases h
    · cases h
  case call c =>
    split at h
    · rename_i hc
      split at h
      · rename_i x t ha hty
        have ea : c.args = #[x] := by apply Array.toList_inj.mp; simpa using ha
        have et : c.argTypes = #[t] := by apply Array.toList_inj.mp; simpa using hty
        simp only [resolve, hc, ea, et, Sem.run_bind, Sem.run_pure, Result.andThen_ok, invoke, builtin]
        obtain ⟨v, hv, hr⟩ := lenA_sound (P := P) (ty := ty) h (hρ x).weak
        exact ⟨v, by
          have e2 : (#[x] : Array Operand).map ρ = #[ρ x] := by simp
          rw [e2, hv]; rfl, hr⟩
      · cases h
    · rename_i hc
      split at h
      · rename_i x xs ha
        simp only [resolve, hc, Sem.run_bind, Sem.run_pure, Result.andThen_ok, invoke, builtin]
        cases hf : foldA maxA (ρA x) (xs.map ρA) with
        | none => rw [hf] at h; cases h
        | some z =>
          rw [hf] at h; simp only [Option.map_some, Option.some.injEq, Prod.mk.injEq] at h; obtain ⟨_, rfl⟩ := h
          obtain ⟨v, hv, hr⟩ := foldA_max (P := P) hf (hρ x) (RepVL.map hρ xs)
          have e : (Builtin.max_ c.argTypes ty (c.args.map ρ)).run P w = .ok v w := by simp only [Builtin.max_, Array.toList_map, ha, List.map_cons]; exact hv
          exact ⟨v, by rw [e]; rfl, hr⟩
      · cases h
    · rename_i hc
      split at h
      · rename_i x xs ha
        simp only [resolve, hc, Sem.run_bind, Sem.run_pure, Result.andThen_ok, invoke, builtin]
        cases hf : foldA minA (ρA x) (xs.map ρA) with
        | none => rw [hf] at h; cases h
        | some z =>
          rw [hf] at h; simp only [Option.map_some, Option.some.injEq, Prod.mk.injEq] at h; obtain ⟨_, rfl⟩ := h
          obtain ⟨v, hv, hr⟩ := foldA_min (P := P) hf (hρ x) (RepVL.map hρ xs)
          have e : (Builtin.min_ c.argTypes ty (c.args.map ρ)).run P w = .ok v w := by simp only [Builtin.min_, Array.toList_map, ha, List.map_cons]; exact hv
          exact ⟨v, by rw [e]; rfl, hr⟩
      · cases h
    · cases h
end
end Go.Ab
end
