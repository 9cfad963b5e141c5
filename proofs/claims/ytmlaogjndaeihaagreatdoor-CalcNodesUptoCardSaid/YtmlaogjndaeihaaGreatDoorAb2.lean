/- The operations that touch no memory of the frame's own: one function, and its proof over the model. -/
import Derived.Test.YtmlaogjndaeihaaGreatDoorAb1
namespace Go.Ab

inductive Both {α β : Type} (R : α → β → Prop) : List α → List β → Prop where
  | nil : Both R [] []
  | cons {a : α} {b : β} {as : List α} {bs : List β} : R a b → Both R as bs → Both R (a :: as) (b :: bs)

def cellsA : AV → Option (List AV)
  | .agg cs => some cs
  | .any | .lit (.agg _) => none
  | v => some [v]
def partA (cs : List AV) (off size : Nat) (ag : Bool) : AV := if ag then .agg ((cs.drop off).take size) else cs.getD off .any
def setA (cs : List AV) (off : Nat) (xs : List AV) : List AV := cs.take off ++ xs ++ cs.drop (off + xs.length)
def fillA (place : Nat → Option (Nat × Nat)) : List AV → List (Nat × AV) → Option (List AV)
  | cs, [] => some cs
  | cs, (i, v) :: rest =>
    match place i, cellsA v with
    | some (off, size), some xs => if xs.length = size ∧ off + size ≤ cs.length then fillA place (setA cs off xs) rest else none
    | _, _ => none
def placeS (fs : List (Nat × Nat × Bool)) (i : Nat) : Option (Nat × Nat) :=
  match fs[i]? with
  | some (o, s, _) => some (o, s)
  | none => none
def maxA : AV → AV → Option AV
  | .int k x, .int _ y => some (.int k (if y > x then y else x))
  | _, _ => none
def minA : AV → AV → Option AV
  | .int k x, .int _ y => some (.int k (if y < x then y else x))
  | _, _ => none
def foldA (f : AV → AV → Option AV) : AV → List AV → Option AV
  | x, [] => some x
  | x, y :: ys => match f x y with | some z => foldA f z ys | none => none
/-- A bound of a slice expression. -/
def loA : Option AV → Option Int
  | none => some 0
  | some (.int _ n) => some n
  | _ => none
def hiA (len : Nat) : Option AV → Option Int
  | none => some len
  | some (.int _ n) => some n
  | _ => none
def isInt : AV → Option Int
  | .int _ n => some n
  | _ => none

def lenA (P : Program) (t : TypeId) : AV → Option (Prop × AV)
  | .slice els => match (ti P t).d with | .slice _ => some (True, .int .i64 els.length) | _ => none
  | .nils => match (ti P t).d with | .slice _ => some (True, .int .i64 0) | _ => none
  | .str s => match (ti P t).d with | .str => some (True, .int .i64 s.size) | _ => none
  | _ => none
def indexA (P : Program) (t : TypeId) (x i : AV) : Option (Prop × AV) :=
  match (ti P t).d, x, i with
  | .str, .str s, .int _ n => some (0 ≤ n ∧ n < s.size, .int .u8 (bt s n))
  | .array len e, .agg cs, .int _ n =>
    match (ti P e).d with
    | .other => none
    | _ => if (ti P e).agg = true then none else some (0 ≤ n ∧ n < len ∧ n.toNat * (ti P e).size < cs.length, cs.getD (n.toNat * (ti P e).size) .any)
  | _, _, _ => none
def indexAddrA (P : Program) (t : TypeId) (x i : AV) : Option (Prop × AV) :=
  match (ti P t).d, x, i with
  | .slice e, .slice els, .int _ n =>
    match (ti P e).d with
    | .other => none
    | _ => some (0 ≤ n ∧ n < els.length ∧ (els.getD n.toNat []).length = (ti P e).size, .cptr (els.getD n.toNat []))
  | .array len e, .ptr k g off, .int _ n =>
    match (ti P e).d with
    | .other => none
    | _ => if (ti P e).size = 0 then none else some (0 ≤ n ∧ n < len, .ptr k g (off + n.toNat * (ti P e).size))
  | .array len e, .cptr cs, .int _ n =>
    match (ti P e).d with
    | .other => none
    | _ => if (ti P e).size = 0 then none else some (0 ≤ n ∧ n < len, .cptr (cs.drop (n.toNat * (ti P e).size)))
  | _, _, _ => none
def fieldAddrA (P : Program) (t : TypeId) (x : AV) (f : Nat) : Option (Prop × AV) :=
  match (ti P t).d, x with
  | .struct fs, x =>
    match fs[f]? with
    | some (off, size, _) =>
      if size = 0 then none else
      match x with
      | .ptr k g o => some (True, .ptr k g (o + off))
      | .rptr k g es i o => some (True, .rptr k g es i (o + off))
      | .cptr cs => some (True, .cptr (cs.drop off))
      | _ => none
    | none => none
  | _, _ => none
def fieldA (P : Program) (t : TypeId) (x : AV) (f : Nat) : Option (Prop × AV) :=
  match (ti P t).d, x with
  | .struct fs, .agg cs =>
    match fs[f]? with
    | some (off, size, ag) => if off + size ≤ cs.length ∧ (ag = false → 0 < size) then some (True, partA cs off size ag) else none
    | none => none
  | _, _ => none
def sliceA (P : Program) (t : TypeId) (x : AV) (lo hi : Option AV) : Option (Prop × AV) :=
  match (ti P t).d, x with
  | .str, .str s =>
    match loA lo, hiA s.size hi with
    | some l, some h => some (0 ≤ l ∧ l ≤ h ∧ h ≤ s.size, .str (s.extract l.toNat h.toNat))
    | _, _ => none
  | .slice e, .slice els =>
    match (ti P e).d, loA lo, hiA els.length hi with
    | .other, _, _ => none
    | _, some l, some h => some (0 ≤ l ∧ l ≤ h ∧ h ≤ els.length ∧ ∀ x ∈ els, x.length = (ti P e).size, .slice ((els.take h.toNat).drop l.toNat))
    | _, _, _ => none
  | _, _ => none
def convertA (P : Program) (s d : TypeId) (x : AV) : Option (Prop × AV) :=
  match (ti P s).d, (ti P d).d, x with
  | .int _, .int k, .int _ n => some (True, .int k (k.wrap n))
  | .str, .str, .str b => some (True, .str b)
  | _, _, _ => none

def pureOp (P : Program) (ρ : Operand → AV) : Op → Option (Prop × AV)
  | .move x | .assign x => some (True, ρ x)
  | .pick c a b => match ρ c with | .bool t => some (True, pickV t (ρ a) (ρ b)) | _ => none
  | .binOp op t x y _ => binA P t op (ρ x) (ρ y)
  | .unOp op _ x => unA op (ρ x)
  | .convert s d x => convertA P s d (ρ x)
  | .build t parts =>
    match (ti P t).d, (ti P t).zero with
    | .struct fs, some z => (fillA (placeS fs) z (parts.toList.map fun p => (p.1, ρ p.2))).map fun cs => (True, .agg cs)
    | .array _ e, some z =>
      match (ti P e).d with
      | .other => none
      | _ => (fillA (fun i => some (i * (ti P e).size, (ti P e).size)) z (parts.toList.map fun p => (p.1, ρ p.2))).map fun cs => (True, .agg cs)
    | _, _ => none
  | .field t x f => fieldA P t (ρ x) f
  | .index t x i => indexA P t (ρ x) (ρ i)
  | .indexAddr t x i => indexAddrA P t (ρ x) (ρ i)
  | .fieldAddr t x f => fieldAddrA P t (ρ x) f
  | .nilCheck x => match ρ x with
    | .ptr .. | .cptr _ | .rptr .. => some (True, ρ x)
    | .func (.func _) _ => some (True, ρ x)
    | _ => none
  | .extract x i => match ρ x with
    | .tuple vs => if i < vs.length then some (True, vs.getD i .any) else none
    | _ => none
  | .slice t x lo hi none => sliceA P t (ρ x) (lo.map ρ) (hi.map ρ)
  | .makeFunc fn first captured => if first.size = 0 then some (True, .func fn (captured.toList.map ρ)) else none
  | .call c =>
    match c.callee with
    | .builtin .len => match c.args.toList, c.argTypes.toList with | [x], [t] => lenA P t (ρ x) | _, _ => none
    | .builtin .max => match c.args.toList with | x :: xs => (foldA maxA (ρ x) (xs.map ρ)).map fun v => (True, v) | _ => none
    | .builtin .min => match c.args.toList with | x :: xs => (foldA minA (ρ x) (xs.map ρ)).map fun v => (True, v) | _ => none
    | _ => none
  | _ => none

section
variable {P : Program} {w : World} {own : Nat → Prop} {β : Nat → Nat → Loc} {ok : Nat → Nat → Prop}

theorem run_sizeOf {t : TypeId} {i : TypeInfo} (h : P.info? t = some i) : (sizeOf t).run P w = .ok i.size w := by simp [sizeOf, typeInfo, h]
theorem run_isAgg {t : TypeId} {d : TypeDesc} (h : P.underlying t = some d) : (isAgg t).run P w = .ok (aggD d) w := by
  simp only [isAgg, Sem.run_bind, run_underlying h, Result.andThen_ok]
  cases d <;> rfl

theorem cellsA_rep {v : AV} {xs : List AV} {u : Value} (h : cellsA v = some xs) (hr : RepV w own β ok v u) : RepVL w own β ok xs u.cells.toList := by
  unfold cellsA at h
  split at h
  · cases h
    obtain ⟨vs, rfl, hv⟩ := hr.agg_open
    simpa [Value.cells] using hv
  · cases h
  · cases h
  · rename_i h1 h2 h3
    cases h
    have : u.cells = #[u] := by
      cases u <;> try rfl
      exfalso
      cases hr with
      | closed hr => cases hr with
        | agg _ => exact h1 _ rfl
        | any => exact h2 rfl
        | lit => exact h3 _ rfl
      | agg _ => exact h1 _ rfl
    rw [this]; exact .cons hr .nil

theorem foldl_set (off : Nat) : ∀ (vs : List Value) (k : Nat) (cells : Array Value), off + k + vs.length ≤ cells.size →
    ((vs.zipIdx k).foldl (fun cs (c, j) => cs.setIfInBounds (off + j) c) cells).toList = cells.toList.take (off + k) ++ vs ++ cells.toList.drop (off + k + vs.length)
  | [], k, cells, h => by simp
  | v :: vs, k, cells, h => by
    simp only [List.zipIdx_cons, List.foldl_cons]
    rw [foldl_set off vs (k + 1) _ (by simp at h ⊢; omega)]
    simp only [List.length_cons] at h
    simp only [Array.toList_setIfInBounds, List.length_cons]
    have hlt : off + k < cells.toList.length := by simp; omega
    rw [List.drop_set_of_lt (by omega), List.take_set]
    have : (List.take (off + (k + 1)) cells.toList).set (off + k) v = List.take (off + k) cells.toList ++ [v] := by
      rw [show off + (k + 1) = off + k + 1 by omega, List.take_succ_eq_append_getElem hlt, List.set_append_right _ _ (by simp; exact Nat.min_le_left _ _)]
      have hm : min (off + k) cells.size ≤ off + k := Nat.min_le_left _ _
      simp [Nat.min_eq_left (by omega : off + k ≤ cells.size)]
    rw [this]
    simp [show off + (k + 1) + vs.length = off + k + (vs.length + 1) by omega]

theorem setA_rep {cs xs : List AV} {cells : Array Value} {u : Value} {off : Nat} (hc : RepVL w own β ok cs cells.toList) (hx : RepVL w own β ok xs u.cells.toList) (hl : off + xs.length ≤ cs.length) :
    RepVL w own β ok (setA cs off xs) (u.cells.zipIdx.foldl (fun cs (c, j) => cs.setIfInBounds (off + j) c) cells).toList := by
  have e1 := hc.length; have e2 := hx.length
  have e := foldl_set off u.cells.toList 0 cells (by simp at e1 e2 ⊢; omega)
  have : (u.cells.zipIdx.foldl (fun cs (c, j) => cs.setIfInBounds (off + j) c) cells) = ((u.cells.toList.zipIdx 0).foldl (fun cs (c, j) => cs.setIfInBounds (off + j) c) cells) := by
    rw [← Array.foldl_toList]; simp
  rw [this, e, setA, e2]
  simp only [Nat.add_zero]
  exact ((hc.take off).append hx).append (hc.drop _)

theorem fillA_sound {place : Nat → Option (Nat × Nat)} : ∀ {parts : List (Nat × AV)} {ps : List (Nat × Value)} {cs rs : List AV} {cells : Array Value}, fillA place cs parts = some rs → RepVL w own β ok cs cells.toList →
    Both (fun (a : Nat × AV) (b : Nat × Value) => a.1 = b.1 ∧ RepV w own β ok a.2 b.2) parts ps → ∃ out, Instr.fill place cells ps = some out ∧ RepVL w own β ok rs out.toList
  | [], _, cs, rs, cells, h, hc, hp => by
    cases hp
    simp only [fillA, Option.some.injEq] at h; subst h
    exact ⟨cells, rfl, hc⟩
  | (i, v) :: parts, _, cs, rs, cells, h, hc, hp => by
    cases hp with
    | @cons _ b _ ps hab hps =>
      obtain ⟨j, u⟩ := b
      obtain ⟨e, hr⟩ := hab
      simp only at e hr; subst e
      simp only [fillA] at h
      split at h
      · rename_i off size xs hpl hce
        split at h
        · rename_i hlen
          have hx := cellsA_rep hce hr
          have el := hx.length; have ec := hc.length
          obtain ⟨out, ho, hro⟩ := fillA_sound h (setA_rep hc hx (by omega)) hps
          refine ⟨out, ?_, hro⟩
          simp only [Instr.fill, hpl]
          rw [if_neg (by simp at el ec ⊢; omega)]
          exact ho
        · cases h
      · cases h

theorem leafs_repV (vs : List Value) : RepVL w own β ok (vs.map leaf) vs := (leafs_rep w own vs).toV

theorem partA_sound {cs : List AV} {vs : List Value} {t : TypeId} {i : TypeInfo} {d : TypeDesc} {off : Nat} (hc : RepVL w own β ok cs vs) (hi : P.info? t = some i) (hu : P.underlying t = some d)
    (hl : off + i.size ≤ cs.length) (h0 : aggD d = false → 0 < i.size) : ∃ v, (part t vs.toArray off).run P w = .ok v w ∧ RepV w own β ok (partA cs off i.size (aggD d)) v := by
  simp only [part, Sem.run_bind, run_isAgg hu, Result.andThen_ok]
  cases ha : aggD d
  · simp only [Bool.false_eq_true, if_false]
    have hlt : off < cs.length := by have := h0 ha; omega
    obtain ⟨v, hv, hr⟩ := hc.get off hlt
    refine ⟨v, by simp [hv], ?_⟩
    simp only [partA, Bool.false_eq_true, if_false]
    rw [List.getD_eq_getElem?_getD, List.getElem?_eq_getElem hlt]; exact hr
  · simp only [if_true, Sem.run_bind, run_sizeOf hi, Result.andThen_ok]
    refine ⟨_, rfl, ?_⟩
    simp only [partA, if_true]
    have := RepV.agg ((hc.drop off).take i.size)
    have e : vs.toArray.extract off (off + i.size) = ((vs.drop off).take i.size).toArray := by
      apply Array.toList_inj.mp; simp [List.take_drop]
    rw [e]; exact this

theorem pickV_sound {t : Bool} {x y : AV} {vx vy : Value} (hx : RepV w own β ok x vx) (hy : RepV w own β ok y vy) : RepV w own β ok (pickV t x y) (if t then vx else vy) := by
  unfold pickV
  split
  · obtain rfl := hx.bool_open; obtain rfl := hy.bool_open
    cases t <;> exact .closed (.bool _)
  · cases t
    · exact hy
    · exact hx

theorem getD_flatten {α : Type} {es : Nat} : ∀ {els : List (List α)} {n : Nat}, (∀ e ∈ els, e.length = es) → n < els.length → (els.flatten.drop (n * es)).take es = els.getD n []
  | [], n, _, h => by simp at h
  | e :: els, 0, hl, _ => by
    have h0 : e.length = es := hl e (by simp)
    subst h0
    simp [List.getD]
  | e :: els, n + 1, hl, h => by
    have h0 : e.length = es := hl e (by simp)
    have : (n + 1) * es = e.length + n * es := by rw [h0, Nat.add_mul]; omega
    rw [this, List.flatten_cons, List.drop_append, List.drop_of_length_le (by omega), List.nil_append, Nat.add_sub_cancel_left]
    have ih := getD_flatten (els := els) (n := n) (fun x hx => hl x (by simp [hx])) (by simpa using h)
    simpa using ih
theorem length_flatten_const {α : Type} {es : Nat} : ∀ {els : List (List α)}, (∀ e ∈ els, e.length = es) → els.flatten.length = els.length * es
  | [], _ => by simp
  | e :: els, hl => by
    have h0 : e.length = es := hl e (by simp)
    have ih := length_flatten_const (els := els) (fun x hx => hl x (by simp [hx]))
    simp [ih, h0, Nat.add_mul, Nat.add_comm]
theorem flatten_take_drop {α : Type} {es : Nat} {els : List (List α)} (hl : ∀ e ∈ els, e.length = es) (l h : Nat) : ((els.take h).drop l).flatten = (els.flatten.take (h * es)).drop (l * es) := by
  have tk : ∀ (xs : List (List α)) (n : Nat), (∀ e ∈ xs, e.length = es) → (xs.take n).flatten = xs.flatten.take (n * es) := by
    intro xs
    induction xs with
    | nil => intro n _; simp
    | cons x xs ih =>
      intro n hx
      cases n with
      | zero => simp
      | succ n =>
        have h0 : x.length = es := hx x (by simp)
        rw [List.take_succ_cons, List.flatten_cons, List.flatten_cons, ih n (fun e he => hx e (by simp [he])), List.take_append, h0]
        have e1 : (n + 1) * es - es = n * es := by rw [Nat.add_mul]; omega
        rw [e1, List.take_of_length_le (i := (n + 1) * es) (by rw [h0, Nat.add_mul]; omega)]
  have dr : ∀ (xs : List (List α)) (n : Nat), (∀ e ∈ xs, e.length = es) → (xs.drop n).flatten = xs.flatten.drop (n * es) := by
    intro xs
    induction xs with
    | nil => intro n _; simp
    | cons x xs ih =>
      intro n hx
      cases n with
      | zero => simp
      | succ n =>
        have h0 : x.length = es := hx x (by simp)
        rw [List.drop_succ_cons, List.flatten_cons, ih n (fun e he => hx e (by simp [he])), List.drop_append, h0]
        have e1 : (n + 1) * es - es = n * es := by rw [Nat.add_mul]; omega
        rw [e1, List.drop_of_length_le (i := (n + 1) * es) (by rw [h0, Nat.add_mul]; omega), List.nil_append]
  rw [dr _ _ (fun e he => hl e (List.mem_of_mem_take he)), tk _ _ hl]

theorem At.drop {a : Addr} {vs : List Value} (h : At w own a vs) (n : Nat) : At w own (a.add n) (vs.drop n) := by
  obtain ⟨h1, h2⟩ := h
  refine ⟨fun hne => ?_, fun j v hj => ?_⟩
  · unfold Addr.add
    split
    · exact h1 (fun e => hne (by simp [e]))
    · rfl
  · have := h2 (n + j) v (by simpa using hj)
    unfold Addr.add
    split
    · rename_i e; subst e; simpa using this
    · simpa [Nat.add_assoc] using this
theorem At.take {a : Addr} {vs : List Value} (h : At w own a vs) (n : Nat) : At w own a (vs.take n) := by
  obtain ⟨h1, h2⟩ := h
  refine ⟨fun hne => h1 (fun e => hne (by simp [e])), fun j v hj => ?_⟩
  rw [List.getElem?_take] at hj
  split at hj
  · exact h2 j v hj
  · cases hj

/-- Element n of a closed slice, as an address. -/
theorem slice_at {els : List (List AV)} {v : Value} {n : Nat} (h : RepC w own (.slice els) v) (hn : n < els.length) {s : Nat} (hs : (els.getD n []).length = s) :
    ∃ a cap vs, v = .slice (some a) els.length cap ∧ RepCL w own (els.getD n []) vs ∧ At w own (a.add (n * s)) vs := by
  cases h with
  | slice0 => simp at hn
  | @slice _ es cap a vs h1 h2 h3 h4 =>
    have he : es = s := by
      rw [← hs, List.getD_eq_getElem?_getD, List.getElem?_eq_getElem hn, Option.getD_some]
      exact (h1 _ (List.getElem_mem hn)).symm
    subst he
    refine ⟨a, cap, (vs.drop (n * es)).take es, rfl, ?_, (h3.drop _).take _⟩
    rw [← getD_flatten h1 hn]
    exact (h2.drop _).take _

theorem lenA_sound {t ty : TypeId} {x r : AV} {pre : Prop} {vx : Value} (h : lenA P t x = some (pre, r)) (hx : RepV w own β ok x vx) :
    ∃ v, (Builtin.len_ #[t] ty #[vx]).run P w = .ok v w ∧ RepV w own β ok r v := by
  unfold lenA at h
  split at h
  · split at h
    · rename_i e hd
      simp only [Option.some.injEq, Prod.mk.injEq] at h; obtain ⟨rfl, rfl⟩ := h
      have hs := hx.slice_open
      cases hs with
      | slice => exact ⟨_, by simp [Builtin.len_, run_underlying (ti_slice hd), goInt], .closed (.int _ _)⟩
      | slice0 => exact ⟨_, by simp [Builtin.len_, run_underlying (ti_slice hd), goInt], .closed (.int _ _)⟩
    · cases h
  · split at h
    · rename_i e hd
      simp only [Option.some.injEq, Prod.mk.injEq] at h; obtain ⟨rfl, rfl⟩ := h
      obtain rfl := hx.nils_open
      exact ⟨_, by simp [Builtin.len_, run_underlying (ti_slice hd), goInt], .closed (.int _ _)⟩
    · cases h
  · split at h
    · rename_i hd
      simp only [Option.some.injEq, Prod.mk.injEq] at h; obtain ⟨rfl, rfl⟩ := h
      obtain rfl := hx.str_open
      exact ⟨_, by simp [Builtin.len_, run_underlying (ti_str hd), goInt], .closed (.int _ _)⟩
    · cases h
  · cases h

theorem bt_eq (s : ByteArray) (n : Int) (h0 : 0 ≤ n) (h1 : n < s.size) : (if 0 ≤ n then s[n.toNat]? else none) = some (s.data.toList.getD n.toNat 0) := by
  rw [if_pos h0]
  have : n.toNat < s.size := by omega
  rw [getElem?_pos s n.toNat this]
  have e : s[n.toNat] = s.data[n.toNat]'(by simpa using this) := rfl
  rw [e, List.getD_eq_getElem?_getD]
  have : n.toNat < s.data.size := by simpa using this
  simp only [Array.getElem?_toList]
  rw [Array.getElem?_eq_getElem this]; rfl

theorem indexA_sound {t : TypeId} {x i r : AV} {pre : Prop} {vx vi : Value} (h : indexA P t x i = some (pre, r)) (hp : pre) (hx : RepV w own β ok x vx) (hi : RepV w own β ok i vi) :
    ∃ v, (Instr.index t vx vi).run P w = .ok v w ∧ RepV w own β ok r v := by
  unfold indexA at h
  split at h
  · rename_i s k n hd
    simp only [Option.some.injEq, Prod.mk.injEq] at h; obtain ⟨rfl, rfl⟩ := h
    obtain rfl := hx.str_open; obtain rfl := hi.int_open
    refine ⟨_, ?_, .closed (.int _ _)⟩
    simp only [Instr.index, asIntOf, Sem.run_bind, Sem.run_pure, Result.andThen_ok, run_underlying (ti_str hd)]
    rw [bt_eq _ _ hp.1 hp.2]; rfl
  · rename_i len e cs k n hd
    split at h
    · cases h
    rename_i hne0
    split at h
    · cases h
    · rename_i hc
      simp only [Option.some.injEq, Prod.mk.injEq] at h; obtain ⟨rfl, rfl⟩ := h
      obtain ⟨vs, rfl, hvs⟩ := hx.agg_open; obtain rfl := hi.int_open
      obtain ⟨h0, h1, h2⟩ := hp
      have hne : (ti P e).d ≠ .other := fun e0 => hne0 e0
      obtain ⟨inf, hinf, hsz, _, _⟩ := ti_info hne
      obtain ⟨d, hu, hag⟩ := ti_und hne
      have hag' : aggD d = false := by rw [← hag]; simpa using hc
      obtain ⟨v, hv, hr⟩ := hvs.get _ h2
      refine ⟨v, ?_, ?_⟩
      · simp only [Instr.index, asIntOf, Sem.run_bind, Sem.run_pure, Result.andThen_ok, run_underlying (ti_array hd)]
        rw [if_pos ⟨h0, h1⟩]
        simp only [Sem.run_bind, run_sizeOf hinf, Result.andThen_ok, part, run_isAgg hu, hag', Bool.false_eq_true, if_false, hsz]
        simp [hv]
      · rw [List.getD_eq_getElem?_getD, List.getElem?_eq_getElem h2]; exact hr
  · cases h

theorem indexAddrA_sound {t : TypeId} {x i r : AV} {pre : Prop} {vx vi : Value} (h : indexAddrA P t x i = some (pre, r)) (hp : pre) (hx : RepV w own β ok x vx) (hi : RepV w own β ok i vi) :
    ∃ v, (Instr.indexAt t vx vi).run P w = .ok v w ∧ RepV w own β ok r v := by
  unfold indexAddrA at h
  split at h
  · rename_i e els k n hd
    split at h
    · cases h
    · rename_i hne
      simp only [Option.some.injEq, Prod.mk.injEq] at h; obtain ⟨rfl, rfl⟩ := h
      obtain rfl := hi.int_open
      obtain ⟨h0, h1, h2⟩ := hp
      obtain ⟨inf, hinf, hsz, _, _⟩ := ti_info (P := P) (t := e) (fun e0 => hne e0)
      obtain ⟨a, cap, vs, rfl, hc, hat⟩ := slice_at hx.slice_open (by omega) h2
      refine ⟨_, ?_, .closed (.cptr hc hat)⟩
      simp only [Instr.indexAt, asIntOf, Sem.run_bind, Sem.run_pure, Result.andThen_ok, run_underlying (ti_slice hd)]
      rw [if_pos ⟨h0, h1⟩]
      simp only [Sem.run_bind, run_sizeOf hinf, Result.andThen_ok, hsz]; rfl
  · rename_i len e k g off kk n hd
    split at h
    · cases h
    · rename_i hne
      split at h
      · cases h
      · rename_i hs
        simp only [Option.some.injEq, Prod.mk.injEq] at h; obtain ⟨rfl, rfl⟩ := h
        obtain rfl := hi.int_open
        obtain ⟨hg, rfl⟩ := hx.ptr_open
        obtain ⟨inf, hinf, hsz, _, _⟩ := ti_info (P := P) (t := e) (fun e0 => hne e0)
        refine ⟨.pointer (some ⟨(β k g).block, off + n.toNat * (ti P e).size, none⟩), ?_, .ptr hg⟩
        simp only [Instr.indexAt, Instr.sureAddr, asIntOf, Sem.run_bind, Sem.run_pure, Result.andThen_ok, run_underlying (ti_array hd)]
        rw [if_pos hp]
        simp only [Sem.run_bind, run_sizeOf hinf, Result.andThen_ok, hsz, Addr.add]
        split
        · rename_i e0; rw [e0]; rfl
        · rfl
  · rename_i len e cs kk n hd
    split at h
    · cases h
    · rename_i hne
      split at h
      · cases h
      · rename_i hs
        simp only [Option.some.injEq, Prod.mk.injEq] at h; obtain ⟨rfl, rfl⟩ := h
        obtain rfl := hi.int_open
        obtain ⟨a, vs, rfl, hc, hat⟩ := hx.cptr_open
        obtain ⟨inf, hinf, hsz, _, _⟩ := ti_info (P := P) (t := e) (fun e0 => hne e0)
        refine ⟨_, ?_, .closed (.cptr (hc.drop _) (hat.drop _))⟩
        simp only [Instr.indexAt, Instr.sureAddr, asIntOf, Sem.run_bind, Sem.run_pure, Result.andThen_ok, run_underlying (ti_array hd)]
        rw [if_pos hp]
        simp only [Sem.run_bind, run_sizeOf hinf, Result.andThen_ok, hsz]; rfl
  · cases h

theorem fieldAddrA_sound {t : TypeId} {x r : AV} {f : Nat} {pre : Prop} {vx : Value} (h : fieldAddrA P t x f = some (pre, r)) (hx : RepV w own β ok x vx) :
    ∃ v, (Instr.fieldAt t vx f).run P w = .ok v w ∧ RepV w own β ok r v := by
  unfold fieldAddrA at h
  split at h
  · rename_i fs x' hd
    split at h
    · rename_i off size ag hf
      obtain ⟨fl, fd, d, inf, hu, hfd, hoff, hinf, hsz, _, _⟩ := ti_field hd hf
      split at h
      · cases h
      · rename_i hs
        have go : ∀ a : Addr, vx = .pointer (some a) → (Instr.fieldAt t vx f).run P w = .ok (.pointer (some (a.add off))) w := by
          intro a ha; subst ha
          simp only [Instr.fieldAt, Sem.run_bind, run_underlying hu, Result.andThen_ok, hfd, Instr.sureAddr, Sem.run_pure, fieldPlace, run_sizeOf hinf]
          rw [if_neg (by rw [hsz]; exact hs)]
          simp [hoff]
        split at h
        · simp only [Option.some.injEq, Prod.mk.injEq] at h; obtain ⟨rfl, rfl⟩ := h
          obtain ⟨hg, hv⟩ := hx.ptr_open
          rename_i k g o
          refine ⟨.pointer (some ⟨(β k g).block, o + off, none⟩), ?_, .ptr hg⟩
          rw [go _ hv]; unfold Addr.add; split
          · rename_i e0; rw [e0]; rfl
          · rfl
        · simp only [Option.some.injEq, Prod.mk.injEq] at h; obtain ⟨rfl, rfl⟩ := h
          obtain ⟨hg, hv⟩ := hx.rptr_open
          rename_i k g es i o
          refine ⟨.pointer (some ⟨(β k g).block, i * es + (o + off), none⟩), ?_, .rptr hg⟩
          rw [go _ hv]; unfold Addr.add; split
          · rename_i e0; rw [e0]; rfl
          · simp [Nat.add_assoc]
        · simp only [Option.some.injEq, Prod.mk.injEq] at h; obtain ⟨rfl, rfl⟩ := h
          obtain ⟨a, vs, hv, hc, hat⟩ := hx.cptr_open
          exact ⟨_, go _ hv, .closed (.cptr (hc.drop _) (hat.drop _))⟩
        · cases h
    · cases h
  · cases h

theorem fieldA_sound {t : TypeId} {x r : AV} {f : Nat} {pre : Prop} {vx : Value} (h : fieldA P t x f = some (pre, r)) (hx : RepV w own β ok x vx) :
    ∃ v, (Instr.field t vx f).run P w = .ok v w ∧ RepV w own β ok r v := by
  unfold fieldA at h
  split at h
  · rename_i fs cs hd
    split at h
    · rename_i off size ag hf
      obtain ⟨fl, fd, d, inf, hu, hfd, hoff, hinf, hsz, hu2, hag⟩ := ti_field hd hf
      split at h
      · rename_i hc
        simp only [Option.some.injEq, Prod.mk.injEq] at h; obtain ⟨rfl, rfl⟩ := h
        obtain ⟨vs, rfl, hvs⟩ := hx.agg_open
        obtain ⟨v, hv, hr⟩ := partA_sound (off := off) hvs hinf hu2 (by rw [hsz]; exact hc.1) (fun e => by rw [hsz]; exact hc.2 (by rw [← hag, e]))
        refine ⟨v, ?_, by rw [hsz, hag] at hr; exact hr⟩
        simp only [Instr.field, Sem.run_bind, run_underlying hu, Result.andThen_ok, hfd, asAgg, Sem.run_pure, hoff]
        exact hv
      · cases h
    · cases h
  · cases h

theorem convertA_sound {s d : TypeId} {x r : AV} {pre : Prop} {vx : Value} (h : convertA P s d x = some (pre, r)) (hx : RepV w own β ok x vx) :
    ∃ v, (convert s d vx).run P w = .ok v w ∧ RepV w own β ok r v := by
  unfold convertA at h
  split at h
  · rename_i k1 k k2 n hs hd
    simp only [Option.some.injEq, Prod.mk.injEq] at h; obtain ⟨rfl, rfl⟩ := h
    obtain rfl := hx.int_open
    exact ⟨_, by simp [convert, run_underlying (ti_int hs), run_underlying (ti_int hd), Conv.intToInt], .closed (.int _ _)⟩
  · rename_i b hs hd
    simp only [Option.some.injEq, Prod.mk.injEq] at h; obtain ⟨rfl, rfl⟩ := h
    obtain rfl := hx.str_open
    exact ⟨_, by simp [convert, run_underlying (ti_str hs), run_underlying (ti_str hd)], .closed (.str _)⟩
  · cases h
end
end Go.Ab
