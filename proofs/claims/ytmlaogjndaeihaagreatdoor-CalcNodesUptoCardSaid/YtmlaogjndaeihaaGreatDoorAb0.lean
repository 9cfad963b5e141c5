/- Abstract values of Go code as trees, and how they stand for the model's values in a world. -/
import Derived.Tactics
import Derived.Below
import Derived.KernelRfl
import Derived.Orders
namespace Go.Ab

/-- A value as a tree. 'slice', 'cptr': memory that is never written again; 'view', 'ptr', 'rptr': the frame's own memory, by its key (the slot and the generation). -/
inductive AV where
  | bool (b : Bool)
  | int (k : IntKind) (n : Int)
  | str (s : ByteArray)
  | agg (cs : List AV)
  | slice (els : List (List AV))
  | nils
  | cptr (cs : List AV)
  | func (fn : Fn) (cap : List AV)
  | nilFunc
  | tuple (vs : List AV)
  | view (t g : Nat)
  | ptr (t g off : Nat)
  | rptr (t g es i off : Nat)
  | mref (t g : Nat)
  | lit (v : Value)
  | any

instance : Inhabited AV := ⟨.any⟩

/-- The cells from an address on hold these values, in a block that is not one of the frame's own. -/
def At (w : World) (own : Nat → Prop) (a : Addr) (vs : List Value) : Prop :=
  (vs ≠ [] → a.spot = none) ∧ ∀ j v, vs[j]? = some v → ¬ own a.block ∧ w.cell? ⟨a.block, a.off + j, none⟩ = some v

mutual
/-- Closed values: they lean on no memory that is written again. -/
inductive RepC (w : World) (own : Nat → Prop) : AV → Value → Prop where
  | bool (b : Bool) : RepC w own (.bool b) (.bool b)
  | int (k : IntKind) (n : Int) : RepC w own (.int k n) (.int k n)
  | str (s : ByteArray) : RepC w own (.str s) (.string s)
  | agg {cs : List AV} {vs : List Value} : RepCL w own cs vs → RepC w own (.agg cs) (.agg vs.toArray)
  | slice {els : List (List AV)} {es cap : Nat} {a : Addr} {vs : List Value} : (∀ e ∈ els, e.length = es) → RepCL w own els.flatten vs → At w own a vs → els.length ≤ cap →
      RepC w own (.slice els) (.slice (some a) els.length cap)
  | slice0 : RepC w own (.slice []) (.slice none 0 0)
  | nils : RepC w own .nils (.slice none 0 0)
  | cptr {cs : List AV} {a : Addr} {vs : List Value} : RepCL w own cs vs → At w own a vs → RepC w own (.cptr cs) (.pointer (some a))
  | func {fn : Fn} {cs : List AV} {vs : List Value} : RepCL w own cs vs → RepC w own (.func fn cs) (.func fn #[] vs.toArray)
  | nilFunc : RepC w own .nilFunc .nilFunc
  | tuple {cs : List AV} {vs : List Value} : RepCL w own cs vs → RepC w own (.tuple cs) (.tuple vs.toArray)
  | lit (v : Value) : RepC w own (.lit v) v
  | any (v : Value) : RepC w own .any v
inductive RepCL (w : World) (own : Nat → Prop) : List AV → List Value → Prop where
  | nil : RepCL w own [] []
  | cons {x : AV} {v : Value} {xs : List AV} {vs : List Value} : RepC w own x v → RepCL w own xs vs → RepCL w own (x :: xs) (v :: vs)
end

/-- Where one of the frame's own regions lies. -/
structure Loc where
  block : Nat
  cap : Nat
  len : Nat
  isNil : Bool
  deriving Inhabited

mutual
inductive RepV (w : World) (own : Nat → Prop) (β : Nat → Nat → Loc) (ok : Nat → Nat → Prop) : AV → Value → Prop where
  | closed {x : AV} {v : Value} : RepC w own x v → RepV w own β ok x v
  | agg {cs : List AV} {vs : List Value} : RepVL w own β ok cs vs → RepV w own β ok (.agg cs) (.agg vs.toArray)
  | func {fn : Fn} {cs : List AV} {vs : List Value} : RepVL w own β ok cs vs → RepV w own β ok (.func fn cs) (.func fn #[] vs.toArray)
  | tuple {cs : List AV} {vs : List Value} : RepVL w own β ok cs vs → RepV w own β ok (.tuple cs) (.tuple vs.toArray)
  | view {t g : Nat} : ok t g → RepV w own β ok (.view t g) (.slice (if (β t g).isNil then none else some ⟨(β t g).block, 0, none⟩) (β t g).len (β t g).cap)
  | ptr {t g off : Nat} : ok t g → RepV w own β ok (.ptr t g off) (.pointer (some ⟨(β t g).block, off, none⟩))
  | rptr {t g es i off : Nat} : ok t g → RepV w own β ok (.rptr t g es i off) (.pointer (some ⟨(β t g).block, i * es + off, none⟩))
  | mref {t g : Nat} : ok t g → RepV w own β ok (.mref t g) (.map (some (β t g).block))
inductive RepVL (w : World) (own : Nat → Prop) (β : Nat → Nat → Loc) (ok : Nat → Nat → Prop) : List AV → List Value → Prop where
  | nil : RepVL w own β ok [] []
  | cons {x : AV} {v : Value} {xs : List AV} {vs : List Value} : RepV w own β ok x v → RepVL w own β ok xs vs → RepVL w own β ok (x :: xs) (v :: vs)
end

/-! How a world may go on. -/
def Grows (w w' : World) (own own' : Nat → Prop) : Prop :=
  ∀ b o v, ¬ own b → w.cell? ⟨b, o, none⟩ = some v → ¬ own' b ∧ w'.cell? ⟨b, o, none⟩ = some v

theorem Grows.refl (w : World) (own : Nat → Prop) : Grows w w own own := fun _ _ _ h1 h2 => ⟨h1, h2⟩
theorem Grows.trans {a b c : World} {o1 o2 o3 : Nat → Prop} (h : Grows a b o1 o2) (k : Grows b c o2 o3) : Grows a c o1 o3 :=
  fun x o v h1 h2 => let ⟨p, q⟩ := h x o v h1 h2; k x o v p q

theorem At.mono {w w' : World} {own own' : Nat → Prop} {a : Addr} {vs : List Value} (g : Grows w w' own own') (h : At w own a vs) : At w' own' a vs :=
  ⟨h.1, fun j v hj => let ⟨p, q⟩ := h.2 j v hj; g _ _ _ p q⟩

mutual
theorem RepC.mono {w w' : World} {own own' : Nat → Prop} (g : Grows w w' own own') : ∀ {x : AV} {v : Value}, RepC w own x v → RepC w' own' x v
  | _, _, .bool _ => .bool _
  | _, _, .int _ _ => .int _ _
  | _, _, .str _ => .str _
  | _, _, .agg h => .agg (RepCL.mono g h)
  | _, _, .slice h1 h2 h3 h4 => .slice h1 (RepCL.mono g h2) (h3.mono g) h4
  | _, _, .slice0 => .slice0
  | _, _, .nils => .nils
  | _, _, .cptr h1 h2 => .cptr (RepCL.mono g h1) (h2.mono g)
  | _, _, .func h => .func (RepCL.mono g h)
  | _, _, .nilFunc => .nilFunc
  | _, _, .tuple h => .tuple (RepCL.mono g h)
  | _, _, .lit _ => .lit _
  | _, _, .any _ => .any _
theorem RepCL.mono {w w' : World} {own own' : Nat → Prop} (g : Grows w w' own own') : ∀ {x : List AV} {v : List Value}, RepCL w own x v → RepCL w' own' x v
  | _, _, .nil => .nil
  | _, _, .cons h1 h2 => .cons (RepC.mono g h1) (RepCL.mono g h2)
end

mutual
theorem RepV.mono {w w' : World} {own own' : Nat → Prop} {β β' : Nat → Nat → Loc} {n n' : Nat → Nat → Prop} (g : Grows w w' own own') (hn : ∀ t k, n t k → n' t k) (hb : ∀ t k, n t k → β' t k = β t k) :
    ∀ {x : AV} {v : Value}, RepV w own β n x v → RepV w' own' β' n' x v
  | _, _, .closed h => .closed (h.mono g)
  | _, _, .agg h => .agg (RepVL.mono g hn hb h)
  | _, _, .func h => .func (RepVL.mono g hn hb h)
  | _, _, .tuple h => .tuple (RepVL.mono g hn hb h)
  | _, _, .view h => by rw [← hb _ _ h]; exact .view (hn _ _ h)
  | _, _, .ptr h => by rw [← hb _ _ h]; exact .ptr (hn _ _ h)
  | _, _, .rptr h => by rw [← hb _ _ h]; exact .rptr (hn _ _ h)
  | _, _, .mref h => by rw [← hb _ _ h]; exact .mref (hn _ _ h)
theorem RepVL.mono {w w' : World} {own own' : Nat → Prop} {β β' : Nat → Nat → Loc} {n n' : Nat → Nat → Prop} (g : Grows w w' own own') (hn : ∀ t k, n t k → n' t k) (hb : ∀ t k, n t k → β' t k = β t k) :
    ∀ {x : List AV} {v : List Value}, RepVL w own β n x v → RepVL w' own' β' n' x v
  | _, _, .nil => .nil
  | _, _, .cons h1 h2 => .cons (RepV.mono g hn hb h1) (RepVL.mono g hn hb h2)
end

/-! Lists. -/
section
variable {w : World} {own : Nat → Prop} {β : Nat → Nat → Loc} {ok : Nat → Nat → Prop}
theorem RepCL.length {xs : List AV} {vs : List Value} (h : RepCL w own xs vs) : xs.length = vs.length := by
  induction xs generalizing vs with
  | nil => cases h; rfl
  | cons x xs ih => cases h with | cons _ h2 => simp [ih h2]
theorem RepVL.length {xs : List AV} {vs : List Value} (h : RepVL w own β ok xs vs) : xs.length = vs.length := by
  induction xs generalizing vs with
  | nil => cases h; rfl
  | cons x xs ih => cases h with | cons _ h2 => simp [ih h2]
theorem RepCL.toV {xs : List AV} {vs : List Value} (h : RepCL w own xs vs) : RepVL w own β ok xs vs := by
  induction xs generalizing vs with
  | nil => cases h; exact .nil
  | cons x xs ih => cases h with | cons h1 h2 => exact .cons (.closed h1) (ih h2)
theorem RepVL.get {xs : List AV} {vs : List Value} (h : RepVL w own β ok xs vs) (i : Nat) (hi : i < xs.length) : ∃ v, vs[i]? = some v ∧ RepV w own β ok xs[i] v := by
  induction xs generalizing vs i with
  | nil => simp at hi
  | cons x xs ih => cases h with
    | cons h1 h2 => cases i with
      | zero => exact ⟨_, rfl, h1⟩
      | succ i => simpa using ih h2 i (by simpa using hi)
theorem RepCL.get {xs : List AV} {vs : List Value} (h : RepCL w own xs vs) (i : Nat) (hi : i < xs.length) : ∃ v, vs[i]? = some v ∧ RepC w own xs[i] v := by
  induction xs generalizing vs i with
  | nil => simp at hi
  | cons x xs ih => cases h with
    | cons h1 h2 => cases i with
      | zero => exact ⟨_, rfl, h1⟩
      | succ i => simpa using ih h2 i (by simpa using hi)
theorem RepVL.getD {xs : List AV} {vs : List Value} (h : RepVL w own β ok xs vs) (i : Nat) (d : Value) : RepV w own β ok (xs.getD i .any) (vs.getD i d) := by
  by_cases hi : i < xs.length
  · obtain ⟨v, hv, hr⟩ := h.get i hi
    simp [List.getD, hv, hi, hr]
  · have := h.length
    simp [List.getD, List.getElem?_eq_none (by omega : xs.length ≤ i)]
    exact .closed (.any _)
theorem RepVL.set {xs : List AV} {vs : List Value} (h : RepVL w own β ok xs vs) (i : Nat) {x : AV} {v : Value} (hx : RepV w own β ok x v) : RepVL w own β ok (xs.set i x) (vs.set i v) := by
  induction xs generalizing vs i with
  | nil => cases h; exact .nil
  | cons y xs ih => cases h with
    | cons h1 h2 => cases i with
      | zero => exact .cons hx h2
      | succ i => exact .cons h1 (ih h2 i)
theorem RepCL.append {xs ys : List AV} {vs us : List Value} (h : RepCL w own xs vs) (k : RepCL w own ys us) : RepCL w own (xs ++ ys) (vs ++ us) := by
  induction xs generalizing vs with
  | nil => cases h; exact k
  | cons x xs ih => cases h with | cons h1 h2 => exact .cons h1 (ih h2)
theorem RepVL.append {xs ys : List AV} {vs us : List Value} (h : RepVL w own β ok xs vs) (k : RepVL w own β ok ys us) : RepVL w own β ok (xs ++ ys) (vs ++ us) := by
  induction xs generalizing vs with
  | nil => cases h; exact k
  | cons x xs ih => cases h with | cons h1 h2 => exact .cons h1 (ih h2)
theorem RepCL.drop {xs : List AV} {vs : List Value} (h : RepCL w own xs vs) (i : Nat) : RepCL w own (xs.drop i) (vs.drop i) := by
  induction xs generalizing vs i with
  | nil => cases h; simpa using RepCL.nil
  | cons x xs ih => cases h with
    | cons h1 h2 => cases i with
      | zero => exact .cons h1 h2
      | succ i => exact ih h2 i
theorem RepCL.take {xs : List AV} {vs : List Value} (h : RepCL w own xs vs) (i : Nat) : RepCL w own (xs.take i) (vs.take i) := by
  induction xs generalizing vs i with
  | nil => cases h; simpa using RepCL.nil
  | cons x xs ih => cases h with
    | cons h1 h2 => cases i with
      | zero => exact .nil
      | succ i => exact .cons h1 (ih h2 i)
theorem RepVL.drop {xs : List AV} {vs : List Value} (h : RepVL w own β ok xs vs) (i : Nat) : RepVL w own β ok (xs.drop i) (vs.drop i) := by
  induction xs generalizing vs i with
  | nil => cases h; simpa using RepVL.nil
  | cons x xs ih => cases h with
    | cons h1 h2 => cases i with
      | zero => exact .cons h1 h2
      | succ i => exact ih h2 i
theorem RepVL.take {xs : List AV} {vs : List Value} (h : RepVL w own β ok xs vs) (i : Nat) : RepVL w own β ok (xs.take i) (vs.take i) := by
  induction xs generalizing vs i with
  | nil => cases h; simpa using RepVL.nil
  | cons x xs ih => cases h with
    | cons h1 h2 => cases i with
      | zero => exact .nil
      | succ i => exact .cons h1 (ih h2 i)
/-- A struct's value, opened. -/
theorem RepV.agg_open {cs : List AV} {v : Value} (h : RepV w own β ok (.agg cs) v) : ∃ vs, v = .agg vs.toArray ∧ RepVL w own β ok cs vs := by
  cases h with
  | closed h => cases h with | agg h => exact ⟨_, rfl, h.toV⟩
  | agg h => exact ⟨_, rfl, h⟩
theorem RepV.tuple_open {cs : List AV} {v : Value} (h : RepV w own β ok (.tuple cs) v) : ∃ vs, v = .tuple vs.toArray ∧ RepVL w own β ok cs vs := by
  cases h with
  | closed h => cases h with | tuple h => exact ⟨_, rfl, h.toV⟩
  | tuple h => exact ⟨_, rfl, h⟩
theorem RepV.func_open {fn : Fn} {cs : List AV} {v : Value} (h : RepV w own β ok (.func fn cs) v) : ∃ vs, v = .func fn #[] vs.toArray ∧ RepVL w own β ok cs vs := by
  cases h with
  | closed h => cases h with | func h => exact ⟨_, rfl, h.toV⟩
  | func h => exact ⟨_, rfl, h⟩
theorem RepV.bool_open {b : Bool} {v : Value} (h : RepV w own β ok (.bool b) v) : v = .bool b := by cases h with | closed h => cases h; rfl
theorem RepV.int_open {k : IntKind} {n : Int} {v : Value} (h : RepV w own β ok (.int k n) v) : v = .int k n := by cases h with | closed h => cases h; rfl
theorem RepV.str_open {s : ByteArray} {v : Value} (h : RepV w own β ok (.str s) v) : v = .string s := by cases h with | closed h => cases h; rfl
theorem RepV.slice_open {els : List (List AV)} {v : Value} (h : RepV w own β ok (.slice els) v) : RepC w own (.slice els) v := by cases h with | closed h => exact h
theorem RepV.nils_open {v : Value} (h : RepV w own β ok .nils v) : v = .slice none 0 0 := by cases h with | closed h => cases h; rfl
theorem RepV.nilFunc_open {v : Value} (h : RepV w own β ok .nilFunc v) : v = .nilFunc := by cases h with | closed h => cases h; rfl
theorem RepV.cptr_open {cs : List AV} {v : Value} (h : RepV w own β ok (.cptr cs) v) : ∃ a vs, v = .pointer (some a) ∧ RepCL w own cs vs ∧ At w own a vs := by
  cases h with | closed h => cases h with | cptr h1 h2 => exact ⟨_, _, rfl, h1, h2⟩
theorem RepV.view_open {t g : Nat} {v : Value} (h : RepV w own β ok (.view t g) v) : ok t g ∧ v = .slice (if (β t g).isNil then none else some ⟨(β t g).block, 0, none⟩) (β t g).len (β t g).cap := by
  cases h with | closed h => cases h | view h => exact ⟨h, rfl⟩
theorem RepV.ptr_open {t g off : Nat} {v : Value} (h : RepV w own β ok (.ptr t g off) v) : ok t g ∧ v = .pointer (some ⟨(β t g).block, off, none⟩) := by
  cases h with | closed h => cases h | ptr h => exact ⟨h, rfl⟩
theorem RepV.rptr_open {t g es i off : Nat} {v : Value} (h : RepV w own β ok (.rptr t g es i off) v) : ok t g ∧ v = .pointer (some ⟨(β t g).block, i * es + off, none⟩) := by
  cases h with | closed h => cases h | rptr h => exact ⟨h, rfl⟩
theorem RepV.mref_open {t g : Nat} {v : Value} (h : RepV w own β ok (.mref t g) v) : ok t g ∧ v = .map (some (β t g).block) := by
  cases h with | closed h => cases h | mref h => exact ⟨h, rfl⟩
end

/-! The constants of the code. -/
def leaf : Value → AV
  | .bool b => .bool b
  | .int k n => .int k n
  | .string s => .str s
  | .slice none 0 0 => .nils
  | .nilFunc => .nilFunc
  | .agg _ | .tuple _ => .any
  | v => .lit v
def ofConst : Value → AV
  | .agg cs => .agg (cs.toList.map leaf)
  | v => leaf v
theorem leaf_rep (w : World) (own : Nat → Prop) (v : Value) : RepC w own (leaf v) v := by
  unfold leaf
  split
  · exact .bool _
  · exact .int _ _
  · exact .str _
  · exact .nils
  · exact .nilFunc
  · exact .any _
  · exact .any _
  · exact .lit _
theorem leafs_rep (w : World) (own : Nat → Prop) (vs : List Value) : RepCL w own (vs.map leaf) vs := by
  induction vs with
  | nil => exact .nil
  | cons v vs ih => exact .cons (leaf_rep w own v) ih
theorem ofConst_rep (w : World) (own : Nat → Prop) (v : Value) : RepC w own (ofConst v) v := by
  unfold ofConst
  split
  · rename_i cs
    have := RepC.agg (leafs_rep w own cs.toList)
    simpa using this
  · exact leaf_rep w own _

end Go.Ab
