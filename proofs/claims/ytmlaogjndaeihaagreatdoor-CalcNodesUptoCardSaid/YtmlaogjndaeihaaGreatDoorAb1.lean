/- Types in short, and the operations that touch no memory: their values as trees, proved of the model. -/
import Derived.Test.YtmlaogjndaeihaaGreatDoorAb0
import Derived.Laws.StructEq
import Derived.Laws.Slices
import Derived.Laws.Tables
import Derived.Laws.Build
set_option linter.unusedSimpArgs false
set_option linter.unusedVariables false
namespace Go.Ab

inductive D where
  | bool | int (k : IntKind) | str
  | struct (fs : List (Nat × Nat × Bool))
  | array (len : Nat) (elem : TypeId)
  | slice (elem : TypeId)
  | ptr (elem : TypeId)
  | map (key elem : TypeId)
  | func | other
  deriving Inhabited

structure TI where
  d : D
  size : Nat
  bytes : Nat
  agg : Bool
  zero : Option (List AV)
  deriving Inhabited

def aggD : TypeDesc → Bool
  | .struct _ | .array _ _ => true
  | _ => false
def fieldOf (P : Program) (f : Field) : Option (Nat × Nat × Bool) :=
  match P.info? f.type, P.underlying f.type with
  | some i, some d => some (f.offset, i.size, aggD d)
  | _, _ => none
def dOf (P : Program) : TypeDesc → D
  | .bool => .bool
  | .int k => .int k
  | .string => .str
  | .struct fs => match fs.toList.mapM (fieldOf P) with | some l => .struct l | none => .other
  | .array n e => .array n e
  | .slice e => .slice e
  | .pointer e => .ptr e
  | .map k e => .map k e
  | .func _ _ _ => .func
  | _ => .other
/-- What the rules ask of a type. -/
def ti (P : Program) (t : TypeId) : TI :=
  match P.info? t, P.underlying t with
  | some i, some d => ⟨dOf P d, i.size, i.bytes, aggD d, i.zero.map fun v => v.cells.toList.map leaf⟩
  | _, _ => ⟨.other, 0, 0, false, none⟩

section
variable {P : Program} {t : TypeId}
theorem ti_ne {x : TI} (h : ti P t = x) (hd : x.d ≠ .other) : ∃ i d, P.info? t = some i ∧ P.underlying t = some d ∧ x = ⟨dOf P d, i.size, i.bytes, aggD d, i.zero.map fun v => v.cells.toList.map leaf⟩ := by
  unfold ti at h
  split at h
  · rename_i i d hi hu; exact ⟨i, d, hi, hu, h.symm⟩
  · subst h; exact absurd rfl hd
theorem dOf_slice {d : TypeDesc} {e : TypeId} (h : dOf P d = .slice e) : d = .slice e := by
  cases d <;> simp [dOf] at h
  case struct => split at h <;> cases h
  case slice => rw [h]
theorem dOf_array {d : TypeDesc} {n : Nat} {e : TypeId} (h : dOf P d = .array n e) : d = .array n e := by
  cases d <;> simp [dOf] at h
  case struct => split at h <;> cases h
  case array => rw [h.1, h.2]
theorem dOf_int {d : TypeDesc} {k : IntKind} (h : dOf P d = .int k) : d = .int k := by
  cases d <;> simp [dOf] at h
  case struct => split at h <;> cases h
  case int => rw [h]
theorem dOf_bool {d : TypeDesc} (h : dOf P d = .bool) : d = .bool := by
  cases d <;> simp [dOf] at h
  case struct => split at h <;> cases h
  rfl
theorem dOf_str {d : TypeDesc} (h : dOf P d = .str) : d = .string := by
  cases d <;> simp [dOf] at h
  case struct => split at h <;> cases h
  rfl
theorem dOf_map {d : TypeDesc} {k e : TypeId} (h : dOf P d = .map k e) : d = .map k e := by
  cases d <;> simp [dOf] at h
  case struct => split at h <;> cases h
  case map => rw [h.1, h.2]
theorem dOf_struct {d : TypeDesc} {l : List (Nat × Nat × Bool)} (h : dOf P d = .struct l) : ∃ fs, d = .struct fs ∧ fs.toList.mapM (fieldOf P) = some l := by
  cases d <;> simp [dOf] at h
  case struct fs =>
    split at h
    · rename_i l' h'; cases h; exact ⟨fs, rfl, h'⟩
    · cases h
theorem ti_slice {e : TypeId} (h : (ti P t).d = .slice e) : P.underlying t = some (.slice e) := by
  obtain ⟨i, d, _, hu, he⟩ := ti_ne (P := P) (t := t) rfl (by rw [h]; simp)
  rw [he] at h; rw [hu, dOf_slice h]
theorem ti_array {n : Nat} {e : TypeId} (h : (ti P t).d = .array n e) : P.underlying t = some (.array n e) := by
  obtain ⟨i, d, _, hu, he⟩ := ti_ne (P := P) (t := t) rfl (by rw [h]; simp)
  rw [he] at h; rw [hu, dOf_array h]
theorem ti_int {k : IntKind} (h : (ti P t).d = .int k) : P.underlying t = some (.int k) := by
  obtain ⟨i, d, _, hu, he⟩ := ti_ne (P := P) (t := t) rfl (by rw [h]; simp)
  rw [he] at h; rw [hu, dOf_int h]
theorem ti_bool (h : (ti P t).d = .bool) : P.underlying t = some .bool := by
  obtain ⟨i, d, _, hu, he⟩ := ti_ne (P := P) (t := t) rfl (by rw [h]; simp)
  rw [he] at h; rw [hu, dOf_bool h]
theorem ti_str (h : (ti P t).d = .str) : P.underlying t = some .string := by
  obtain ⟨i, d, _, hu, he⟩ := ti_ne (P := P) (t := t) rfl (by rw [h]; simp)
  rw [he] at h; rw [hu, dOf_str h]
theorem ti_map {k e : TypeId} (h : (ti P t).d = .map k e) : P.underlying t = some (.map k e) := by
  obtain ⟨i, d, _, hu, he⟩ := ti_ne (P := P) (t := t) rfl (by rw [h]; simp)
  rw [he] at h; rw [hu, dOf_map h]
theorem ti_struct {l : List (Nat × Nat × Bool)} (h : (ti P t).d = .struct l) : ∃ fs, P.underlying t = some (.struct fs) ∧ fs.toList.mapM (fieldOf P) = some l := by
  obtain ⟨i, d, _, hu, he⟩ := ti_ne (P := P) (t := t) rfl (by rw [h]; simp)
  rw [he] at h
  obtain ⟨fs, rfl, h2⟩ := dOf_struct h
  exact ⟨fs, hu, h2⟩
theorem mapM_get {α β : Type} {f : α → Option β} : ∀ {xs : List α} {ys : List β}, xs.mapM f = some ys → ∀ (i : Nat) (y : β), ys[i]? = some y → ∃ x : α, xs[i]? = some x ∧ f x = some y
  | [], ys, h, i, y, hi => by simp at h; subst h; simp at hi
  | x :: xs, ys, h, i, y, hi => by
    simp only [List.mapM_cons, Option.bind_eq_bind, Option.bind_eq_some_iff, Option.pure_def, Option.some.injEq] at h
    obtain ⟨b, hb, bs, hbs, rfl⟩ := h
    cases i with
    | zero => simp at hi; subst hi; exact ⟨x, rfl, hb⟩
    | succ i => simpa using mapM_get hbs i y (by simpa using hi)
theorem ti_field {l : List (Nat × Nat × Bool)} (h : (ti P t).d = .struct l) {i off size : Nat} {ag : Bool} (hi : l[i]? = some (off, size, ag)) :
    ∃ fs f d inf, P.underlying t = some (.struct fs) ∧ fs[i]? = some f ∧ f.offset = off ∧ P.info? f.type = some inf ∧ inf.size = size ∧ P.underlying f.type = some d ∧ aggD d = ag := by
  obtain ⟨fs, hu, hm⟩ := ti_struct h
  obtain ⟨f, hf, hx⟩ := mapM_get hm i _ hi
  unfold fieldOf at hx
  split at hx
  · rename_i inf d h1 h2
    simp only [Option.some.injEq, Prod.mk.injEq] at hx
    exact ⟨fs, f, d, inf, hu, by simpa using hf, hx.1, h1, hx.2.1, h2, hx.2.2⟩
  · cases hx
theorem ti_info (hd : (ti P t).d ≠ .other) : ∃ i, P.info? t = some i ∧ i.size = (ti P t).size ∧ i.bytes = (ti P t).bytes ∧ (ti P t).zero = i.zero.map (fun v => v.cells.toList.map leaf) := by
  obtain ⟨i, d, hi, _, he⟩ := ti_ne (P := P) (t := t) rfl hd
  exact ⟨i, hi, by rw [he], by rw [he], by rw [he]⟩
theorem ti_und (hd : (ti P t).d ≠ .other) : ∃ d, P.underlying t = some d ∧ (ti P t).agg = aggD d := by
  obtain ⟨i, d, _, hu, he⟩ := ti_ne (P := P) (t := t) rfl hd
  exact ⟨d, hu, by rw [he]⟩
end

/-! Arithmetic. -/
def bitA (op : BinOp) (k : IntKind) (x y : Int) : Int :=
  let a := BitVec.ofInt k.bits x
  let b := BitVec.ofInt k.bits y
  match op with
  | .and => k.wrap (a &&& b).toNat
  | .or => k.wrap (a ||| b).toNat
  | .xor => k.wrap (a ^^^ b).toNat
  | _ => k.wrap (a &&& ~~~b).toNat
/-- The byte of a string. -/
def bt (s : ByteArray) (n : Int) : Int := ((s.data.toList.getD n.toNat 0).toNat : Int)
def pickV (t : Bool) : AV → AV → AV
  | .bool x, .bool y => .bool (bif t then x else y)
  | x, y => if t then x else y
def leafEq : AV → AV → Option Bool
  | .int k a, .int k' b => if k = k' then some (decide (a = b)) else none
  | .bool a, .bool b => some (a == b)
  | .str a, .str b => some (decide (a = b))
  | _, _ => none
def eqAll : List AV → List AV → Option Bool
  | [], [] => some true
  | [x], [y] => leafEq x y
  | x :: xs, y :: ys => match leafEq x y, eqAll xs ys with
    | some a, some b => some (a && b)
    | _, _ => none
  | _, _ => none
/-- Structs of this type and these leaves are compared leaf by leaf. -/
def EqT (P : Program) (t : TypeId) (xs ys : List AV) (r : Bool) : Prop :=
  ∀ (w : World) (own : Nat → Prop) (vs us : List Value), RepCL w own xs vs → RepCL w own ys us →
    (∀ x y : Operand, (eqGuard .eql t x y (.agg vs.toArray) (.agg us.toArray)).run P w = .ok () w) ∧ (∀ x y : Operand, (eqGuard .neq t x y (.agg vs.toArray) (.agg us.toArray)).run P w = .ok () w) ∧
    (Op.equal t (.agg vs.toArray) (.agg us.toArray)).run P w = .ok r w

def binA (P : Program) (t : TypeId) (op : BinOp) : AV → AV → Option (Prop × AV)
  | .int k a, .int k' b =>
    match op with
    | .shl => some (0 ≤ b, .int k (k.wrap (a * 2 ^ (min b.toNat k.bits))))
    | .shr => some (0 ≤ b, .int k (a.fdiv (2 ^ (min b.toNat k.bits))))
    | op => if k ≠ k' then none else
      match op with
      | .add => some (True, .int k (k.wrap (a + b)))
      | .sub => some (True, .int k (k.wrap (a - b)))
      | .mul => some (True, .int k (k.wrap (a * b)))
      | .quo => some (b ≠ 0, .int k (k.wrap (a.tdiv b)))
      | .rem => some (b ≠ 0, .int k (a.tmod b))
      | .eql => some (True, .bool (decide (a = b)))
      | .neq => some (True, .bool (!decide (a = b)))
      | .lss => some (True, .bool (decide (a < b)))
      | .leq => some (True, .bool (decide (a ≤ b)))
      | .gtr => some (True, .bool (decide (b < a)))
      | .geq => some (True, .bool (decide (b ≤ a)))
      | .and => some (True, .int k (bitA .and k a b))
      | .or => some (True, .int k (bitA .or k a b))
      | .xor => some (True, .int k (bitA .xor k a b))
      | .andNot => some (True, .int k (bitA .andNot k a b))
      | _ => none
  | .str a, .str b =>
    match op with
    | .add => some (((a.size + b.size : Nat) : Int) ≤ IntKind.i64.max, .str (a ++ b))
    | .eql => some (True, .bool (decide (a = b)))
    | .neq => some (True, .bool (!decide (a = b)))
    | .lss => some (True, .bool (Op.bytesLess a.toList b.toList))
    | .geq => some (True, .bool (!Op.bytesLess a.toList b.toList))
    | _ => none
  | .bool a, .bool b =>
    match (ti P t).d, op with
    | .bool, .eql => some (True, .bool (a == b))
    | .bool, .neq => some (True, .bool (!(a == b)))
    | _, _ => none
  | .agg xs, .agg ys =>
    match op, eqAll xs ys with
    | .eql, some r => some (EqT P t xs ys r, .bool r)
    | .neq, some r => some (EqT P t xs ys r, .bool (!r))
    | _, _ => none
  | _, _ => none

def unA (op : UnOp) : AV → Option (Prop × AV)
  | .bool b => match op with | .not => some (True, .bool (!b)) | _ => none
  | .int k n => match op with
    | .neg => some (True, .int k (k.wrap (0 - n)))
    | .xor => some (True, .int k (bitA .xor k (if k.signed then -1 else k.max) n))
    | _ => none
  | _ => none

theorem decide_beq_int (a b : Int) : (a == b) = decide (a = b) := by by_cases h : a = b <;> simp [h]
theorem str_eq (a b : ByteArray) : (a.toList == b.toList) = decide (a = b) := by
  rw [ByteArray.toList_eq, ByteArray.toList_eq]
  by_cases h : a = b
  · simp [h]
  · have : a.data.toList ≠ b.data.toList := fun e => h (by
      obtain ⟨⟨x⟩⟩ := a; obtain ⟨⟨y⟩⟩ := b
      simp only at e; rw [e])
    rw [decide_eq_false h]; simpa using this

section
variable {P : Program} {w : World} {own : Nat → Prop} {β : Nat → Nat → Loc} {ok : Nat → Nat → Prop}

theorem eqGuard_int (op : BinOp) (t : TypeId) (x y : Operand) (k k' : IntKind) (a b : Int) : (eqGuard op t x y (.int k a) (.int k' b)).run P w = .ok () w := by
  unfold eqGuard; cases op <;> rfl
theorem eqGuard_str (op : BinOp) (t : TypeId) (x y : Operand) (a b : ByteArray) : (eqGuard op t x y (.string a) (.string b)).run P w = .ok () w := by
  unfold eqGuard; cases op <;> rfl
theorem eqGuard_bool (op : BinOp) (t : TypeId) (x y : Operand) (a b : Bool) : (eqGuard op t x y (.bool a) (.bool b)).run P w = .ok () w := by
  unfold eqGuard; cases op <;> rfl

theorem eqAll_leaf {x y : AV} {r : Bool} (h : leafEq x y = some r) : (∀ v, RepV w own β ok x v → RepC w own x v) := by
  intro v hv
  cases x <;> simp [leafEq] at h <;> (first | (rw [hv.bool_open]; exact .bool _) | (rw [hv.int_open]; exact .int _ _) | (rw [hv.str_open]; exact .str _))
theorem eqAll_leaf' {x y : AV} {r : Bool} (h : leafEq x y = some r) : (∀ v, RepV w own β ok y v → RepC w own y v) := by
  intro v hv
  cases y <;> cases x <;> simp [leafEq] at h <;> (first | (rw [hv.bool_open]; exact .bool _) | (rw [hv.int_open]; exact .int _ _) | (rw [hv.str_open]; exact .str _))
theorem eqAll_closed : ∀ {xs ys : List AV} {r : Bool}, eqAll xs ys = some r → (∀ vs, RepVL w own β ok xs vs → RepCL w own xs vs) ∧ (∀ vs, RepVL w own β ok ys vs → RepCL w own ys vs)
  | [], [], _, _ => ⟨fun _ h => by cases h; exact .nil, fun _ h => by cases h; exact .nil⟩
  | [x], [y], r, h => by
    have h : leafEq x y = some r := h
    refine ⟨fun vs hv => ?_, fun vs hv => ?_⟩
    · cases hv with | cons h1 h2 => cases h2; exact .cons (eqAll_leaf h _ h1) .nil
    · cases hv with | cons h1 h2 => cases h2; exact .cons (eqAll_leaf' h _ h1) .nil
  | [], _ :: _, _, h => by simp [eqAll] at h
  | _ :: _, [], _, h => by simp [eqAll] at h
  | [x], y :: z :: ys, r, h => by
    simp only [eqAll] at h
    split at h <;> simp at h
    rename_i a b ha hb
    simp at hb
  | x :: z :: xs, [y], r, h => by
    simp only [eqAll] at h
    split at h <;> simp at h
    rename_i a b ha hb
    simp at hb
  | x :: x2 :: xs, y :: y2 :: ys, r, h => by
    simp only [eqAll] at h
    split at h
    · rename_i a b ha hb
      have ih := eqAll_closed (xs := x2 :: xs) (ys := y2 :: ys) hb
      refine ⟨fun vs hv => ?_, fun vs hv => ?_⟩
      · cases hv with | cons h1 h2 => exact .cons (eqAll_leaf ha _ h1) (ih.1 _ h2)
      · cases hv with | cons h1 h2 => exact .cons (eqAll_leaf' ha _ h1) (ih.2 _ h2)
    · cases h

theorem binA_sound {t : TypeId} {op : BinOp} {x y : AV} {pre : Prop} {r : AV} {vx vy : Value} {ox oy : Operand} (h : binA P t op x y = some (pre, r)) (hp : pre) (hx : RepV w own β ok x vx) (hy : RepV w own β ok y vy) :
    ∃ v, ((do eqGuard op t ox oy vx vy; binOp op t vx vy : Sem Value)).run P w = .ok v w ∧ RepV w own β ok r v := by
  unfold binA at h
  split at h
  · rename_i k a k' b
    obtain rfl := hx.int_open; obtain rfl := hy.int_open
    simp only [Sem.run_bind, eqGuard_int, Result.andThen_ok]
    have fin : ∀ v r', r = r' → (binOp op t (.int k a) (.int k' b)).run P w = .ok v w → RepC w own r' v → ∃ v, (binOp op t (.int k a) (.int k' b)).run P w = .ok v w ∧ RepV w own β ok r v := fun v r' e h1 h2 => ⟨v, h1, e ▸ .closed h2⟩
    split at h
    · simp only [Option.some.injEq, Prod.mk.injEq] at h; obtain ⟨rfl, rfl⟩ := h
      refine fin _ _ rfl ?_ (.int _ _)
      simp [binOp, Op.shift, Int.not_lt.mpr hp, if_neg (Int.not_lt.mpr hp)]
    · simp only [Option.some.injEq, Prod.mk.injEq] at h; obtain ⟨rfl, rfl⟩ := h
      refine fin _ _ rfl ?_ (.int _ _)
      simp [binOp, Op.shift, if_neg (Int.not_lt.mpr hp)]
    · rename_i hs1 hs2
      split at h
      · cases h
      · rename_i hk
        have hk : k = k' := by simpa using hk
        subst hk
        split at h <;> first | (cases h; done) | skip
        all_goals
          simp only [Option.some.injEq, Prod.mk.injEq] at h; obtain ⟨rfl, rfl⟩ := h
          first
            | (refine fin _ _ rfl ?_ (.int _ _); simp [binOp, Op.intArith, Op.intBits, bitA]; done)
            | (refine fin _ _ rfl ?_ (.int _ _); simp only [binOp, Op.intBits, bitA, ne_eq, not_true, if_false]; rfl)
            | (refine fin _ _ rfl ?_ (.int _ _); simp only [binOp, ne_eq, not_true, if_false]; unfold Op.intDiv; rw [if_neg hp]; rfl)
            | (refine fin _ _ rfl ?_ (.bool _); simp only [binOp, ne_eq, not_true, if_false, Op.intCmp, decide_beq_int, bne]; rfl)
  · rename_i a b
    obtain rfl := hx.str_open; obtain rfl := hy.str_open
    simp only [Sem.run_bind, eqGuard_str, Result.andThen_ok]
    split at h <;> first | (cases h; done) | skip
    all_goals
      simp only [Option.some.injEq, Prod.mk.injEq] at h; obtain ⟨rfl, rfl⟩ := h
    · refine ⟨_, ?_, .closed (.str _)⟩
      have := Int.not_lt.mpr hp
      simp only [binOp, Op.stringOp]
      rw [if_neg (by simpa using this)]; rfl
    · exact ⟨_, by simp only [binOp, Op.stringOp, str_eq]; rfl, .closed (.bool _)⟩
    · exact ⟨_, by simp only [binOp, Op.stringOp, str_eq]; rfl, .closed (.bool _)⟩
    · exact ⟨_, by simp only [binOp, Op.stringOp]; rfl, .closed (.bool _)⟩
    · exact ⟨_, by simp only [binOp, Op.stringOp]; rfl, .closed (.bool _)⟩
  · rename_i a b
    obtain rfl := hx.bool_open; obtain rfl := hy.bool_open
    simp only [Sem.run_bind, eqGuard_bool, Result.andThen_ok]
    split at h
    · rename_i ht
      simp only [Option.some.injEq, Prod.mk.injEq] at h; obtain ⟨rfl, rfl⟩ := h
      exact ⟨_, run_eql_bool w t a b (ti_bool ht), .closed (.bool _)⟩
    · rename_i ht
      simp only [Option.some.injEq, Prod.mk.injEq] at h; obtain ⟨rfl, rfl⟩ := h
      exact ⟨_, run_neq_bool w t a b (ti_bool ht), .closed (.bool _)⟩
    · cases h
  · rename_i xs ys
    split at h
    · rename_i r' he
      simp only [Option.some.injEq, Prod.mk.injEq] at h; obtain ⟨rfl, rfl⟩ := h
      obtain ⟨vs, rfl, hvs⟩ := hx.agg_open; obtain ⟨us, rfl, hus⟩ := hy.agg_open
      obtain ⟨c1, c2⟩ := eqAll_closed (w := w) (own := own) (β := β) (ok := ok) he
      obtain ⟨g1, g2, g3⟩ := hp w own vs us (c1 _ hvs) (c2 _ hus)
      refine ⟨_, ?_, .closed (.bool _)⟩
      simp only [Sem.run_bind, g1, Result.andThen_ok]
      show (do pure (Value.bool (← Op.equal t (.agg vs.toArray) (.agg us.toArray))) : Sem Value).run P w = _
      simp only [Sem.run_bind, g3, Result.andThen_ok]; rfl
    · rename_i r' he
      simp only [Option.some.injEq, Prod.mk.injEq] at h; obtain ⟨rfl, rfl⟩ := h
      obtain ⟨vs, rfl, hvs⟩ := hx.agg_open; obtain ⟨us, rfl, hus⟩ := hy.agg_open
      obtain ⟨c1, c2⟩ := eqAll_closed (w := w) (own := own) (β := β) (ok := ok) he
      obtain ⟨g1, g2, g3⟩ := hp w own vs us (c1 _ hvs) (c2 _ hus)
      refine ⟨_, ?_, .closed (.bool _)⟩
      simp only [Sem.run_bind, g2, Result.andThen_ok]
      show (do pure (Value.bool (!(← Op.equal t (.agg vs.toArray) (.agg us.toArray)))) : Sem Value).run P w = _
      simp only [Sem.run_bind, g3, Result.andThen_ok]; rfl
    · cases h
  · cases h

theorem unA_sound {op : UnOp} {x : AV} {pre : Prop} {r : AV} {vx : Value} (h : unA op x = some (pre, r)) (hx : RepV w own β ok x vx) :
    ∃ v, (Op.unary op vx).run P w = .ok v w ∧ RepV w own β ok r v := by
  unfold unA at h
  split at h
  · obtain rfl := hx.bool_open
    split at h
    · simp only [Option.some.injEq, Prod.mk.injEq] at h; obtain ⟨rfl, rfl⟩ := h
      exact ⟨_, rfl, .closed (.bool _)⟩
    · cases h
  · obtain rfl := hx.int_open
    split at h
    · simp only [Option.some.injEq, Prod.mk.injEq] at h; obtain ⟨rfl, rfl⟩ := h
      exact ⟨_, rfl, .closed (.int _ _)⟩
    · simp only [Option.some.injEq, Prod.mk.injEq] at h; obtain ⟨rfl, rfl⟩ := h
      exact ⟨_, rfl, .closed (.int _ _)⟩
    · cases h
  · cases h
end
end Go.Ab
