/- What an operation asks of its operands, as a function that the kernel computes. A call that is lent regions of the caller's own: shown by its code. A call that shares the caller's memory: shown by its code. -/
import Derived.Test.YtoggbjfjmbjegaaGreatDoorAb19
set_option linter.unusedSimpArgs false
set_option linter.unusedVariables false
section
namespace Go.Ab

def pOk (P : Program) (eqs : TypeId → List AV → List AV → Bool) (ρ : Operand → AV) : Op → Bool
  | .binOp op t x y _ =>
    match ρ x, ρ y with
    | .int _ _, .int _ b =>
      match op with
      | .shl | .shr => decide (0 ≤ b)
      | .quo | .rem => decide (b ≠ 0)
      | _ => true
    | .str a, .str b => match op with | .add => decide (((a.size + b.size : Nat) : Int) ≤ IntKind.i64.max) | _ => true
    | .agg xs, .agg ys => eqs t xs ys
    | _, _ => true
  | .index t x i =>
    match (ti P t).d, ρ x, ρ i with
    | .str, .str s, .int _ n => decide (0 ≤ n ∧ n < s.size)
    | .array len e, .agg cs, .int _ n => decide (0 ≤ n ∧ n < len ∧ n.toNat * (ti P e).size < cs.length)
    | _, _, _ => true
  | .indexAddr t x i =>
    match (ti P t).d, weak (ρ x), ρ i with
    | .slice e, .slice els, .int _ n => decide (0 ≤ n ∧ n < els.length ∧ (els.getD n.toNat []).length = (ti P e).size)
    | .array len _, _, .int _ n => decide (0 ≤ n ∧ n < len)
    | _, _, _ => true
  | .slice t x lo hi none =>
    match (ti P t).d, weak (ρ x) with
    | .str, .str s => match loA (lo.map ρ), hiA s.size (hi.map ρ) with | some l, some h => decide (0 ≤ l ∧ l ≤ h ∧ h ≤ s.size) | _, _ => true
    | .slice e, .slice els => match loA (lo.map ρ), hiA els.length (hi.map ρ) with | some l, some h => decide (0 ≤ l ∧ l ≤ h ∧ h ≤ els.length) && els.all (fun x => decide (x.length = (ti P e).size)) | _, _ => true
    | _, _ => true
  | _ => true
def mOk (P : Program) (ρ : Operand → AV) (σ : Sto) : Op → Bool
  | .store _ a _ => match ρ a with
    | .rptr k g _ i _ => match lookRow σ k g with | some (_, els) => decide (i < els.length) | none => true
    | _ => true
  | .makeSlice t l c =>
    match (ti P t).d, ρ l, ρ c with
    | .slice e, .int _ n, .int _ m => decide (0 ≤ n ∧ n ≤ m ∧ m * (ti P e).bytes ≤ 2 ^ 46 ∧ m ≤ 2 ^ 46)
    | _, _, _ => true
  | .indexAddr _ x i =>
    match weak (ρ x), ρ i with
    | .view k g, .int _ n => match lookRow σ k g with | some (_, els) => decide (0 ≤ n ∧ n < els.length) | none => true
    | _, _ => true
  | .call c =>
    match c.args.toList, c.argTypes.toList with
    | [s, x], ts :: _ =>
      match (ti P ts).d, srcEls σ (ρ x) with
      | .slice e, some (els2, _) =>
        els2.all (fun y => elOk (ti P e).size y) &&
        match ρ s with
        | .view k g => match lookRow σ k g with | some (_, els) => decide ((els.length + els2.length) * (ti P e).bytes ≤ 70368744177664 ∧ els.length + els2.length ≤ 70368744177664) | none => true
        | .sliceF _ => false
        | _ => decide (els2.length * (ti P e).bytes ≤ 70368744177664 ∧ els2.length ≤ 70368744177664)
      | _, _ => true
    | _, _ => true
  | .insert _ m k _ =>
    match ρ m with
    | .mref key g => match lookMap σ key g with
      | some ents => ents.all (fun e => match leafEq (ρ k) e.1 with | some false => true | _ => false) && (isInt (ρ k)).isSome
      | none => true
    | _ => true
  | .lookup _ _ k _ => (isInt (ρ k)).isSome
  | _ => true

section
variable {P : Program} {eqs : TypeId → List AV → List AV → Bool}
theorem pOk_sound (heq : ∀ t xs ys r, eqs t xs ys = true → eqAll xs ys = some r → EqT P t xs ys r) {ρ : Operand → AV} {op : Op} {pre : Prop} {v : AV} (h : pureOp P ρ op = some (pre, v)) (hb : pOk P eqs ρ op = true) : pre := by
  cases op with
  | binOp op t x y z =>
    simp only [pureOp] at h
    simp only [pOk] at hb
    unfold binA at h
    split at h
    · rename_i k a k' b hx hy
      rw [hx, hy] at hb
      simp only at hb
      split at h
      · simp only [Option.some.injEq, Prod.mk.injEq] at h; obtain ⟨rfl, _⟩ := h; simpa using hb
      · simp only [Option.some.injEq, Prod.mk.injEq] at h; obtain ⟨rfl, _⟩ := h; simpa using hb
      · split at h
        · cases h
        · split at h <;> first | (simp only [Option.some.injEq, Prod.mk.injEq] at h; obtain ⟨rfl, _⟩ := h; first | trivial | simpa using hb) | cases h
    · rename_i a b hx hy
      rw [hx, hy] at hb
      simp only at hb
      split at h <;> first | (simp only [Option.some.injEq, Prod.mk.injEq] at h; obtain ⟨rfl, _⟩ := h; first | trivial | simpa using hb) | cases h
    · split at h <;> first | (simp only [Option.some.injEq, Prod.mk.injEq] at h; obtain ⟨rfl, _⟩ := h; trivial) | cases h
    · rename_i xs ys hx hy
      rw [hx, hy] at hb
      simp only at hb
      split at h <;> first | (rename_i r hr; simp only [Option.some.injEq, Prod.mk.injEq] at h; obtain ⟨rfl, _⟩ := h; exact heq _ _ _ _ hb hr) | cases h
    · split at h <;> first | (cases h; done) | (simp only [Option.some.injEq, Prod.mk.injEq] at h; obtain ⟨rfl, _⟩ := h; trivial)
    · cases h
  | index t x i =>
    simp only [pureOp] at h
    simp only [pOk] at hb
    unfold indexA at h
    split at h
    · rename_i hd hx hi
      rw [hd, hx, hi] at hb
      simp only [Option.some.injEq, Prod.mk.injEq] at h; obtain ⟨rfl, _⟩ := h; simpa using hb
    · rename_i hd hx hi
      rw [hd, hx, hi] at hb
      split at h
      · cases h
      · split at h
        · cases h
        · simp only [Option.some.injEq, Prod.mk.injEq] at h; obtain ⟨rfl, _⟩ := h; simpa using hb
    · cases h
  | indexAddr t x i =>
    simp only [pureOp] at h
    simp only [pOk] at hb
    unfold indexAddrA at h
    split at h
    · rename_i hd hx hi
      rw [hd, hx, hi] at hb
      split at h
      · cases h
      · simp only [Option.some.injEq, Prod.mk.injEq] at h; obtain ⟨rfl, _⟩ := h; simpa using hb
    · rename_i hd hx hi
      rw [hd, hx, hi] at hb
      split at h
      · cases h
      · split at h
        · cases h
        · simp only [Option.some.injEq, Prod.mk.injEq] at h; obtain ⟨rfl, _⟩ := h; simpa using hb
    · rename_i hd hx hi
      rw [hd, hx, hi] at hb
      split at h
      · cases h
      · split at h
        · cases h
        · simp only [Option.some.injEq, Prod.mk.injEq] at h; obtain ⟨rfl, _⟩ := h; simpa using hb
    · cases h
  | slice t x lo hi mx =>
    cases mx with
    | some m => simp only [pureOp] at h; cases h
    | none =>
      simp only [pureOp] at h
      simp only [pOk] at hb
      obtain ⟨v', h⟩ := sliceFA_pre h
      unfold sliceA at h
      split at h
      · rename_i s hd hx
        rw [hd, hx] at hb
        simp only at hb
        split at h
        · rename_i l hh hl hh2
          rw [hl, hh2] at hb
          simp only [Option.some.injEq, Prod.mk.injEq] at h; obtain ⟨rfl, _⟩ := h; simpa using hb
        · cases h
      · rename_i e els hd hx
        rw [hd, hx] at hb
        simp only at hb
        split at h
        · cases h
        · rename_i l hh hl hh2 _
          rw [hl, hh2] at hb
          simp only [Option.some.injEq, Prod.mk.injEq] at h; obtain ⟨rfl, _⟩ := h
          simp only [Bool.and_eq_true, decide_eq_true_eq, List.all_eq_true] at hb
          exact ⟨hb.1.1, hb.1.2.1, hb.1.2.2, hb.2⟩
        · cases h
      · cases h
  | call c =>
    simp only [pureOp] at h
    split at h
    · split at h
      · unfold lenA at h
        repeat' split at h
        all_goals first | (simp only [Option.some.injEq, Prod.mk.injEq] at h; obtain ⟨rfl, _⟩ := h; trivial) | cases h
      · cases h
    · split at h
      · obtain ⟨a, _, e⟩ := Option.map_eq_some_iff.1 h
        simp only [Prod.mk.injEq] at e; obtain ⟨rfl, _⟩ := e; trivial
      · cases h
    · split at h
      · obtain ⟨a, _, e⟩ := Option.map_eq_some_iff.1 h
        simp only [Prod.mk.injEq] at e; obtain ⟨rfl, _⟩ := e; trivial
      · cases h
    · cases h
  | build t parts =>
    simp only [pureOp] at h
    repeat' split at h
    all_goals first
      | cases h; done
      | (obtain ⟨a, _, e⟩ := Option.map_eq_some_iff.1 h
         simp only [Prod.mk.injEq] at e; obtain ⟨rfl, _⟩ := e; trivial)
  | unOp op t x =>
    simp only [pureOp] at h
    unfold unA at h
    repeat' split at h
    all_goals first | (simp only [Option.some.injEq, Prod.mk.injEq] at h; obtain ⟨rfl, _⟩ := h; trivial) | cases h
  | convert s d x =>
    simp only [pureOp] at h
    unfold convertA at h
    repeat' split at h
    all_goals first | (simp only [Option.some.injEq, Prod.mk.injEq] at h; obtain ⟨rfl, _⟩ := h; trivial) | cases h
  | field t x f =>
    simp only [pureOp] at h
    unfold fieldA at h
    repeat' split at h
    all_goals first | (simp only [Option.some.injEq, Prod.mk.injEq] at h; obtain ⟨rfl, _⟩ := h; trivial) | cases h
  | fieldAddr t x f =>
    simp only [pureOp] at h
    unfold fieldAddrA at h
    repeat' split at h
    all_goals first | (simp only [Option.some.injEq, Prod.mk.injEq] at h; obtain ⟨rfl, _⟩ := h; trivial) | cases h
  | _ =>
    simp only [pureOp] at h
    repeat' split at h
    all_goals first | (simp only [Option.some.injEq, Prod.mk.injEq] at h; obtain ⟨rfl, _⟩ := h; trivial) | cases h
theorem mOk_sound {ρ : Operand → AV} {σ : Sto} {gen : Nat} {dst : Option Tmp} {op : Op} {pre : Prop} {r : Res} (h : memOp P ρ σ gen dst op = some (pre, r)) (hb : mOk P ρ σ op = true) : pre := by
  unfold memOp at h
  split at h
  · unfold loadM at h
    repeat' split at h
    all_goals first | (simp only [Option.some.injEq, Prod.mk.injEq] at h; obtain ⟨rfl, _⟩ := h; trivial) | cases h
  · rename_i t a x
    simp only [mOk] at hb
    unfold storeM at h
    split at h
    · repeat' split at h
      all_goals first | (simp only [Option.some.injEq, Prod.mk.injEq] at h; obtain ⟨rfl, _⟩ := h; trivial) | cases h
    · rename_i k g es i off ha
      rw [ha] at hb
      simp only at hb
      split at h
      · rename_i es' els xs hl hx
        rw [hl] at hb
        split at h
        · simp only [Option.some.injEq, Prod.mk.injEq] at h; obtain ⟨rfl, _⟩ := h; simpa using hb
        · cases h
      · cases h
    · cases h
  · repeat' split at h
    all_goals first | (simp only [Option.some.injEq, Prod.mk.injEq] at h; obtain ⟨rfl, _⟩ := h; trivial) | cases h
  · repeat' split at h
    all_goals first | (simp only [Option.some.injEq, Prod.mk.injEq] at h; obtain ⟨rfl, _⟩ := h; trivial) | cases h
  · simp only [mOk] at hb
    split at h
    · rename_i hd hl hc
      rw [hd, hl, hc] at hb
      split at h
      · split at h
        · simp only [Option.some.injEq, Prod.mk.injEq] at h; obtain ⟨rfl, _⟩ := h; simpa using hb
        · cases h
      · cases h
    · cases h
  · repeat' split at h
    all_goals first | (simp only [Option.some.injEq, Prod.mk.injEq] at h; obtain ⟨rfl, _⟩ := h; trivial) | cases h
  · simp only [mOk] at hb
    split at h
    · rename_i hd hx hi
      rw [hx, hi] at hb
      simp only at hb
      split at h
      · rename_i hl
        rw [hl] at hb
        split at h
        · simp only [Option.some.injEq, Prod.mk.injEq] at h; obtain ⟨rfl, _⟩ := h; simpa using hb
        · cases h
      · cases h
    · cases h
  · rename_i c d
    simp only [mOk] at hb
    split at h
    · rename_i s x ts tx hcal harg hty
      rw [harg, hty] at hb
      simp only at hb
      split at h
      · rename_i e e' hd hd'
        rw [hd] at hb
        unfold appendM at h
        split at h
        · rename_i els2 ks hs hn
          rw [hs, hn] at hb
          simp only [Bool.and_eq_true, List.all_eq_true, decide_eq_true_eq] at hb
          split at h
          · simp only [Option.some.injEq, Prod.mk.injEq] at h; obtain ⟨rfl, _⟩ := h
            exact ⟨hb.1, hb.2.1, hb.2.2⟩
          · cases h
        · rename_i els2 ks k g hs hv
          rw [hs, hv] at hb
          simp only at hb
          split at h
          · rename_i es els hl
            rw [hl] at hb
            simp only [Bool.and_eq_true, List.all_eq_true, decide_eq_true_eq] at hb
            split at h
            · simp only [Option.some.injEq, Prod.mk.injEq] at h; obtain ⟨rfl, _⟩ := h
              exact ⟨hb.1, hb.2.1, hb.2.2⟩
            · cases h
          · cases h
        · rename_i els2 ks els hs hv
          rw [hs, hv] at hb
          simp at hb
        · cases h
      · cases h
    · repeat' split at h
      all_goals first | (simp only [Option.some.injEq, Prod.mk.injEq] at h; obtain ⟨rfl, _⟩ := h; trivial) | cases h
    · cases h
  · repeat' split at h
    all_goals first | (simp only [Option.some.injEq, Prod.mk.injEq] at h; obtain ⟨rfl, _⟩ := h; trivial) | cases h
  · simp only [mOk] at hb
    split at h
    · rename_i hd hm
      rw [hm] at hb
      simp only at hb
      split at h
      · rename_i hd2 hl
        rw [hl] at hb
        simp only [Bool.and_eq_true, List.all_eq_true] at hb
        split at h
        · simp only [Option.some.injEq, Prod.mk.injEq] at h; obtain ⟨rfl, _⟩ := h
          refine ⟨fun e he => ?_, hb.2⟩
          have := hb.1 e he
          split at this
          · assumption
          · cases this
        · cases h
      · cases h
    · cases h
  · simp only [mOk] at hb
    repeat' split at h
    all_goals first | (simp only [Option.some.injEq, Prod.mk.injEq] at h; obtain ⟨rfl, _⟩ := h; exact hb) | cases h
  · cases h

end
end Go.Ab
end

section
namespace Go.Ab
open Go.RowKit

mutual
def shK (m : Nat) : AV → AV
  | .agg cs => .agg (shKL m cs)
  | .func fn cs => .func fn (shKL m cs)
  | .mfunc fn cs => .mfunc fn (shKL m cs)
  | .tuple cs => .tuple (shKL m cs)
  | .view t g => .view (t + m) g
  | .viewF t g => .viewF (t + m) g
  | .ptr t g off => .ptr (t + m) g off
  | .rptr t g es i off => .rptr (t + m) g es i off
  | .mref t g => .mref (t + m) g
  | .sl t g es off len => .sl (t + m) g es off len
  | x => x
def shKL (m : Nat) : List AV → List AV
  | [] => []
  | x :: xs => shK m x :: shKL m xs
end
def liveB (σ : Sto) (k g : Nat) : Bool := match σ.getD k none with | some r => r.g == g | none => false
mutual
def unK (σ : Sto) (m : Nat) : AV → Option AV
  | .agg cs => match unKL σ m cs with | some ys => some (.agg ys) | none => none
  | .func fn cs => match unKL σ m cs with | some ys => some (.func fn ys) | none => none
  | .mfunc fn cs => match unKL σ m cs with | some ys => some (.mfunc fn ys) | none => none
  | .tuple cs => match unKL σ m cs with | some ys => some (.tuple ys) | none => none
  | .view t g => if m ≤ t ∧ liveB σ (t - m) g = true then some (.view (t - m) g) else none
  | .viewF t g => if m ≤ t ∧ liveB σ (t - m) g = true then some (.viewF (t - m) g) else none
  | .ptr t g off => if m ≤ t ∧ liveB σ (t - m) g = true then some (.ptr (t - m) g off) else none
  | .rptr t g es i off => if m ≤ t ∧ liveB σ (t - m) g = true then some (.rptr (t - m) g es i off) else none
  | .mref t g => if m ≤ t ∧ liveB σ (t - m) g = true then some (.mref (t - m) g) else none
  | .sl t g es off len => if m ≤ t ∧ liveB σ (t - m) g = true then some (.sl (t - m) g es off len) else none
  | x => some x
def unKL (σ : Sto) (m : Nat) : List AV → Option (List AV)
  | [] => some []
  | x :: xs => match unK σ m x, unKL σ m xs with
    | some y, some ys => some (y :: ys)
    | _, _ => none
end
def shR (m : Nat) : Reg → Reg
  | .box g cs => .box g (shKL m cs)
  | r => r
def unR (σ : Sto) (m : Nat) : Reg → Option Reg
  | .box g cs => match unKL σ m cs with | some ys => some (.box g ys) | none => none
  | r => some r
def shS (m : Nat) (σ : Sto) : Sto := List.replicate m none ++ σ.map fun o => o.map (shR m)
def backS (σ : Sto) (m : Nat) (σc : Sto) : Sto :=
  (List.range σ.length).map fun k => match σc.getD (k + m) none with
    | some r => if liveB σ k r.g = true then unR σ m r else none
    | none => none
def retM (P : Program) (σ : Sto) (m : Nat) (rs : List ResultVar) (r : AV) (σ' : Sto) : Exit → St → Prop
  | .ret, st | .normal, st => match resL P st rs with
    | some vs => match closeL (closeV st.σ 4) vs with
      | some (us, ks) => tupA us = r ∧ backS σ m (applyUpd st.σ (killed ks)) = σ'
      | none => False
    | none => False
  | _, _ => False
def stM (m : Nat) (args : List AV) (σ : Sto) (γ : Nat) : St := ⟨shKL m args ++ List.replicate (m - args.length) .any, shS m σ, γ + 1⟩

section
variable {P : Program} {w : World} {own : Nat → Prop} {β β' : Nat → Nat → Loc} {ok ok' : Nat → Nat → Prop} {m : Nat}
mutual
theorem shK_closed : ∀ {x : AV} {v : Value}, RepC w own x v → shK m x = x
  | _, _, .bool _ => rfl
  | _, _, .int _ _ => rfl
  | _, _, .str _ => rfl
  | _, _, .agg h => by simp only [shK, shKL_closed h]
  | _, _, .slice _ _ _ _ => rfl
  | _, _, .slice0 => rfl
  | _, _, .nils => rfl
  | _, _, .cptr _ _ => rfl
  | _, _, .func h => by simp only [shK, shKL_closed h]
  | _, _, .mfunc h => by simp only [shK, shKL_closed h]
  | _, _, .nilFunc => rfl
  | _, _, .tuple h => by simp only [shK, shKL_closed h]
  | _, _, .lit _ => rfl
  | _, _, .any _ => rfl
  | _, _, .sl0 => rfl
  | _, _, .sliceF _ _ _ => rfl
  | _, _, .sliceF0 => rfl
theorem shKL_closed : ∀ {xs : List AV} {vs : List Value}, RepCL w own xs vs → shKL m xs = xs
  | _, _, .nil => rfl
  | _, _, .cons h1 h2 => by simp only [shKL, shK_closed h1, shKL_closed h2]
end
mutual
theorem unK_closed {σ : Sto} : ∀ {x : AV} {v : Value}, RepC w own x v → unK σ m x = some x
  | _, _, .bool _ => rfl
  | _, _, .int _ _ => rfl
  | _, _, .str _ => rfl
  | _, _, .agg h => by simp only [unK, unKL_closed h]
  | _, _, .slice _ _ _ _ => rfl
  | _, _, .slice0 => rfl
  | _, _, .nils => rfl
  | _, _, .cptr _ _ => rfl
  | _, _, .func h => by simp only [unK, unKL_closed h]
  | _, _, .mfunc h => by simp only [unK, unKL_closed h]
  | _, _, .nilFunc => rfl
  | _, _, .tuple h => by simp only [unK, unKL_closed h]
  | _, _, .lit _ => rfl
  | _, _, .any _ => rfl
  | _, _, .sl0 => rfl
  | _, _, .sliceF _ _ _ => rfl
  | _, _, .sliceF0 => rfl
theorem unKL_closed {σ : Sto} : ∀ {xs : List AV} {vs : List Value}, RepCL w own xs vs → unKL σ m xs = some xs
  | _, _, .nil => rfl
  | _, _, .cons h1 h2 => by simp only [unKL, unK_closed h1, unKL_closed h2]
end
mutual
theorem sh_rep (hβ : ∀ t g, ok t g → ok' (t + m) g ∧ β' (t + m) g = β t g) : ∀ {x : AV} {v : Value}, RepV w own β ok x v → RepV w own β' ok' (shK m x) v
  | _, _, .closed h => by rw [shK_closed h]; exact .closed h
  | _, _, .agg h => by simp only [shK]; exact .agg (sh_repL hβ h)
  | _, _, .func h => by simp only [shK]; exact .func (sh_repL hβ h)
  | _, _, .mfunc h => by simp only [shK]; exact .mfunc (sh_repL hβ h)
  | _, _, .tuple h => by simp only [shK]; exact .tuple (sh_repL hβ h)
  | _, _, .view h => by simp only [shK]; rw [← (hβ _ _ h).2]; exact .view (hβ _ _ h).1
  | _, _, .viewF h h1 => by simp only [shK]; rw [← (hβ _ _ h).2] at h1 ⊢; exact .viewF (hβ _ _ h).1 h1
  | _, _, .ptr h => by simp only [shK]; rw [← (hβ _ _ h).2]; exact .ptr (hβ _ _ h).1
  | _, _, .rptr h => by simp only [shK]; rw [← (hβ _ _ h).2]; exact .rptr (hβ _ _ h).1
  | _, _, .mref h => by simp only [shK]; rw [← (hβ _ _ h).2]; exact .mref (hβ _ _ h).1
  | _, _, .sl h h1 h2 => by simp only [shK]; rw [← (hβ _ _ h).2] at h2 ⊢; exact .sl (hβ _ _ h).1 h1 h2
theorem sh_repL (hβ : ∀ t g, ok t g → ok' (t + m) g ∧ β' (t + m) g = β t g) : ∀ {xs : List AV} {vs : List Value}, RepVL w own β ok xs vs → RepVL w own β' ok' (shKL m xs) vs
  | _, _, .nil => by simp only [shKL]; exact .nil
  | _, _, .cons h1 h2 => by simp only [shKL]; exact .cons (sh_rep hβ h1) (sh_repL hβ h2)
end
mutual
theorem un_rep {σ : Sto} (hβ : ∀ t g, liveB σ t g = true → ok t g ∧ β' (t + m) g = β t g) : ∀ {x y : AV} {v : Value}, RepV w own β' ok' x v → unK σ m x = some y → RepV w own β ok y v
  | _, _, _, .closed h, he => by rw [unK_closed h] at he; cases he; exact .closed h
  | _, _, _, .agg h, he => by
    simp only [unK] at he
    split at he
    · rename_i hq; cases he; exact .agg (un_repL hβ h hq)
    · cases he
  | _, _, _, .func h, he => by
    simp only [unK] at he
    split at he
    · rename_i hq; cases he; exact .func (un_repL hβ h hq)
    · cases he
  | _, _, _, .mfunc h, he => by
    simp only [unK] at he
    split at he
    · rename_i hq; cases he; exact .mfunc (un_repL hβ h hq)
    · cases he
  | _, _, _, .tuple h, he => by
    simp only [unK] at he
    split at he
    · rename_i hq; cases he; exact .tuple (un_repL hβ h hq)
    · cases he
  | _, _, _, .view (t := t) (g := g) h, he => by
    simp only [unK] at he
    split at he
    · rename_i hc
      cases he
      obtain ⟨h1, h2⟩ := hβ _ _ hc.2
      rw [Nat.sub_add_cancel hc.1] at h2
      rw [h2]; exact .view h1
    · cases he
  | _, _, _, .viewF (t := t) (g := g) h hF, he => by
    simp only [unK] at he
    split at he
    · rename_i hc
      cases he
      obtain ⟨h1, h2⟩ := hβ _ _ hc.2
      rw [Nat.sub_add_cancel hc.1] at h2
      rw [h2] at hF ⊢; exact .viewF h1 hF
    · cases he
  | _, _, _, .ptr h, he => by
    simp only [unK] at he
    split at he
    · rename_i hc
      cases he
      obtain ⟨h1, h2⟩ := hβ _ _ hc.2
      rw [Nat.sub_add_cancel hc.1] at h2
      rw [h2]; exact .ptr h1
    · cases he
  | _, _, _, .rptr h, he => by
    simp only [unK] at he
    split at he
    · rename_i hc
      cases he
      obtain ⟨h1, h2⟩ := hβ _ _ hc.2
      rw [Nat.sub_add_cancel hc.1] at h2
      rw [h2]; exact .rptr h1
    · cases he
  | _, _, _, .mref h, he => by
    simp only [unK] at he
    split at he
    · rename_i hc
      cases he
      obtain ⟨h1, h2⟩ := hβ _ _ hc.2
      rw [Nat.sub_add_cancel hc.1] at h2
      rw [h2]; exact .mref h1
    · cases he
  | _, _, _, .sl h k1 k2, he => by
    simp only [unK] at he
    split at he
    · rename_i hc
      cases he
      obtain ⟨h1, h2⟩ := hβ _ _ hc.2
      rw [Nat.sub_add_cancel hc.1] at h2
      rw [h2] at k2 ⊢; exact .sl h1 k1 k2
    · cases he
theorem un_repL {σ : Sto} (hβ : ∀ t g, liveB σ t g = true → ok t g ∧ β' (t + m) g = β t g) : ∀ {xs ys : List AV} {vs : List Value}, RepVL w own β' ok' xs vs → unKL σ m xs = some ys → RepVL w own β ok ys vs
  | _, _, _, .nil, he => by simp only [unKL, Option.some.injEq] at he; subst he; exact .nil
  | _, _, _, .cons h1 h2, he => by
    simp only [unKL] at he
    split at he
    · rename_i y ys hy hys
      cases he
      exact .cons (un_rep hβ h1 hy) (un_repL hβ h2 hys)
    · cases he
end
theorem both_mono {w' : World} {own' : Nat → Prop} (g : Grows w w' own own') {ents : List (AV × AV)} {es : List MapEntry} (h : Both (fun (a : AV × AV) (b : MapEntry) => RepC w own a.1 b.key ∧ RepC w own a.2 b.val) ents es) :
    Both (fun (a : AV × AV) (b : MapEntry) => RepC w' own' a.1 b.key ∧ RepC w' own' a.2 b.val) ents es := by
  induction h with
  | nil => exact .nil
  | cons h _ ih => exact .cons ⟨h.1.mono g, h.2.mono g⟩ ih
theorem shR_g (r : Reg) : (shR m r).g = r.g := by cases r <;> rfl
theorem unR_g {σ : Sto} {r r' : Reg} (h : unR σ m r = some r') : r'.g = r.g := by
  cases r with
  | box g cs =>
    simp only [unR] at h
    split at h
    · cases h; rfl
    · cases h
  | row g es els => cases h; rfl
  | mapr g ents => cases h; rfl
theorem shS_some {σ : Sto} {t : Nat} {r : Reg} (h : (shS m σ)[t]? = some (some r)) : ∃ k r0, t = k + m ∧ σ[k]? = some (some r0) ∧ r = shR m r0 := by
  unfold shS at h
  by_cases ht : t < m
  · rw [List.getElem?_append_left (by simpa using ht), List.getElem?_replicate] at h
    split at h <;> cases h
  · rw [List.getElem?_append_right (by simpa using Nat.le_of_not_lt ht)] at h
    simp only [List.length_replicate, List.getElem?_map] at h
    cases hs : σ[t - m]? with
    | none => rw [hs] at h; cases h
    | some o =>
      rw [hs] at h
      cases o with
      | none => cases h
      | some r0 =>
        simp only [Option.map_some, Option.some.injEq] at h
        exact ⟨t - m, r0, by omega, hs, h.symm⟩
theorem backS_some {σ σc : Sto} {k : Nat} {r' : Reg} (h : (backS σ m σc)[k]? = some (some r')) : ∃ r, σc[k + m]? = some (some r) ∧ liveB σ k r.g = true ∧ unR σ m r = some r' := by
  unfold backS at h
  rw [List.getElem?_map] at h
  cases hr : (List.range σ.length)[k]? with
  | none => rw [hr] at h; cases h
  | some j =>
    have : j = k := by
      obtain ⟨h2, h3⟩ := List.getElem?_eq_some_iff.mp hr
      simpa using h3.symm
    subst this
    rw [hr] at h
    simp only [Option.map_some, Option.some.injEq] at h
    split at h
    · rename_i r hs
      split at h
      · rename_i hl
        refine ⟨r, ?_, hl, h⟩
        rw [List.getD_eq_getElem?_getD] at hs
        cases hs2 : σc[j + m]? with
        | none => rw [hs2] at hs; cases hs
        | some o => rw [hs2] at hs; simp at hs; rw [hs]
      · cases h
    · cases h
theorem live_some {σ : Sto} {k g : Nat} (h : liveB σ k g = true) : ∃ r : Reg, σ[k]? = some (some r) ∧ r.g = g := by
  unfold liveB at h
  split at h
  · rename_i r hs
    refine ⟨r, ?_, by simpa using h⟩
    rw [List.getD_eq_getElem?_getD] at hs
    cases hs2 : σ[k]? with
    | none => rw [hs2] at hs; cases hs
    | some o => rw [hs2] at hs; simp at hs; rw [hs]
  · cases h

theorem mcalls_of {f : FuncId} {fn : Func} {c : Code} {γ : Nat} {args : List AV} {σ : Sto} {r : AV} {σ' : Sto} (hf : P.funcs[f]? = some fn) (hb : fn.body = some c) (hname : (fn.name == "runtime.NumGoroutine") = false) {rs : List ResultVar} (hrs : fn.results.toList = rs) (hn : fn.ntmps = m)
    (hG : SameG σ σ') (h : ASpec P c (retM P σ m rs r σ') (stM m args σ γ)) : MCalls P f γ args σ r σ' := by
  subst hn; subst hrs
  refine ⟨by simp [callable, hf, hb, hname], hG, fun N ext β ok vs w hst hgen => ?_⟩
  refine calls_of_wp hf hb ?_
  have hlen : args.length = vs.length := by have := hst.temps.length; simpa using this
  let βc : Nat → Nat → Loc := fun t g => if t < fn.ntmps then default else β (t - fn.ntmps) g
  let okc : Nat → Nat → Prop := fun t g => fn.ntmps ≤ t ∧ ok (t - fn.ntmps) g
  have hβ : ∀ t g, ok t g → okc (t + fn.ntmps) g ∧ βc (t + fn.ntmps) g = β t g := fun t g hk => by
    refine ⟨⟨Nat.le_add_left _ _, by rw [Nat.add_sub_cancel]; exact hk⟩, ?_⟩
    show (if t + fn.ntmps < fn.ntmps then default else β (t + fn.ntmps - fn.ntmps) g) = _
    rw [if_neg (by omega), Nat.add_sub_cancel]
  have hfr : FR N ext ⟨βc, okc⟩ (stM fn.ntmps args σ γ) { tmps := vs.toArray ++ Array.replicate (fn.ntmps - vs.toArray.size) undef, defers := [] } w := by
    have hownc : ∀ b, ownOf ext βc (shS fn.ntmps σ) b → ownOf ext β σ b := by
      rintro b (h1 | ⟨t, r', h1, h2, h3⟩)
      · exact .inl h1
      · obtain ⟨k, r0, rfl, h4, rfl⟩ := shS_some h1
        obtain ⟨h5, _⟩ := hst.regs _ _ h4
        rw [shR_g] at h2 h3
        rw [(hβ _ _ h5).2] at h2 h3
        exact .inr ⟨k, r0, h4, h2, h3⟩
    have hgr : Grows w w (ownOf ext β σ) (ownOf ext βc (shS fn.ntmps σ)) := Grows.less hownc
    refine ⟨βc, okc, ⟨?_, fun t r' hr => ?_, fun t t' r1 r2 h1 h2 hne n1 n2 => ?_, hst.extlt, hst.n0le, rfl, hst.glob.mono hgr⟩, fun t g hk => Nat.lt_succ_of_le (hgen _ _ hk.2), .refl _ _⟩
    · simp only [stM, Array.toList_append, Array.toList_replicate, List.size_toArray, hlen]
      refine RepVL.append ((sh_repL hβ (by simpa using hst.temps)).mono hgr (fun _ _ x => x) (fun _ _ _ => rfl)) ?_
      generalize fn.ntmps - vs.length = q
      induction q with
      | zero => exact .nil
      | succ q ih => exact .cons (.closed (.any _)) ih
    · obtain ⟨k, r0, rfl, h4, rfl⟩ := shS_some hr
      obtain ⟨h5, h6⟩ := hst.regs _ _ h4
      obtain ⟨q1, q2⟩ := hβ _ _ h5
      rw [shR_g]
      refine ⟨q1, ?_⟩
      cases r0 with
      | box g cs =>
        simp only [Reg.g] at q2
        obtain ⟨a1, a2, cc, ty, us, rest, a3, a3c, a4, a5⟩ := h6
        simp only [shR, RegOk, q2]
        exact ⟨a1, a2, cc, ty, us, rest, a3, a3c, (sh_repL hβ a4).mono hgr (fun _ _ x => x) (fun _ _ _ => rfl), a5⟩
      | row g es els =>
        simp only [Reg.g] at q2
        obtain ⟨a1, a2, a3, a4⟩ := h6
        simp only [shR, RegOk, q2]
        refine ⟨a1, a2, a3, a4.imp id ?_⟩
        rintro ⟨b1, b2, cc, ty, us, rest, b3, b4, b5, b6⟩
        exact ⟨b1, b2, cc, ty, us, rest, b3, b4, b5.mono hgr, b6⟩
      | mapr g ents =>
        simp only [Reg.g] at q2
        obtain ⟨a1, a2, es, clock, a3, a4⟩ := h6
        simp only [shR, RegOk, q2]
        exact ⟨a1, a2, es, clock, a3, both_mono hgr a4⟩
    · obtain ⟨k, r0, rfl, h4, rfl⟩ := shS_some h1
      obtain ⟨k', r0', rfl, h4', rfl⟩ := shS_some h2
      rw [shR_g] at n1 ⊢
      rw [shR_g] at n2 ⊢
      rw [(hβ _ _ (hst.regs _ _ h4).1).2] at n1 ⊢
      rw [(hβ _ _ (hst.regs _ _ h4').1).2] at n2 ⊢
      exact hst.dist _ _ _ _ h4 h4' (fun e => hne (by rw [e])) n1 n2
  refine wp_mono (h _ _ _ w _ w hfr (Bel.refl _ _)) fun e a' w' ⟨st', h1, ⟨βf, okf, h2, _, hx⟩, h3⟩ => ?_
  have fin : (match resL P st' fn.results.toList with
    | some vs => match closeL (closeV st'.σ 4) vs with
      | some (us, ks) => tupA us = r ∧ backS σ fn.ntmps (applyUpd st'.σ (killed ks)) = σ'
      | none => False
    | none => False) → a'.defers = [] ∧ ∃ v, (results fn a'.tmps).run P w' = .ok v w' ∧ (∃ v', Ending.returned v = .returned v' ∧ StRel N ext β ok ⟨[r], σ', γ⟩ { tmps := #[v'], defers := [] } w' ∧ Bel N w w') := by
    intro hq
    refine ⟨h2.defers, ?_⟩
    split at hq
    · rename_i ys hy
      split at hq
      · rename_i us ks hcl
        obtain ⟨hr0, hs0⟩ := hq
        obtain ⟨qs, hrun, hrep⟩ := results_run h2 hy
        have hrc : RepCL w' (ownLess ext βf st'.σ ks) us qs := closeL_sound (own' := fun ks => ownLess ext βf st'.σ ks) (fun x v y ks ks' => closeV_sound h2 4 x v y ks ks') hrep hcl (fun _ hk => hk)
        -- the regions, back
        have hlive : ∀ t g, liveB σ t g = true → ok t g ∧ βf (t + fn.ntmps) g = β t g := by
          intro t g hl
          obtain ⟨r0, k1, rfl⟩ := live_some hl
          obtain ⟨k2, _⟩ := hst.regs _ _ k1
          obtain ⟨k3, k4⟩ := hβ _ _ k2
          exact ⟨k2, ((hx _ _ k3).2).trans k4⟩
        have hsome : ∀ {t : Nat} {r' : Reg}, σ'[t]? = some (some r') → ∃ rc : Reg, st'.σ[t + fn.ntmps]? = some (some rc) ∧ t + fn.ntmps ∉ ks ∧ unR σ fn.ntmps rc = some r' ∧ r'.g = rc.g ∧ ok t r'.g ∧ βf (t + fn.ntmps) r'.g = β t r'.g := by
          intro t r' ht
          rw [← hs0] at ht
          obtain ⟨rc, k1, k2, k3⟩ := backS_some ht
          obtain ⟨k4, k5⟩ := killed_sto k1
          have k6 := unR_g k3
          rw [← k6] at k2
          obtain ⟨k7, k8⟩ := hlive _ _ k2
          exact ⟨rc, k4, k5, k3, k6, k7, k8⟩
        have hown : ∀ b, ownOf ext β σ' b → ownLess ext βf st'.σ ks b := by
          rintro b (k1 | ⟨t, r', k1, k2, k3⟩)
          · exact .inl k1
          · obtain ⟨rc, k4, k5, _, k6, _, k7⟩ := hsome k1
            refine .inr ⟨t + fn.ntmps, rc, k4, k5, ?_, ?_⟩
            · rw [← k6, k7]; exact k2
            · rw [← k6, k7]; exact k3
        have hgr : Grows w' w' (ownOf ext βf st'.σ) (ownOf ext β σ') := Grows.less fun b hb => ownLess_sub _ _ _ (hown b hb)
        have hrv : ∃ v, (if h : qs.toArray.size = 1 then qs.toArray[0] else Value.tuple qs.toArray) = v ∧ RepC w' (ownLess ext βf st'.σ ks) r v := by
          refine ⟨_, rfl, ?_⟩
          subst hr0
          cases hrc with
          | nil => exact .tuple .nil
          | cons h4 h5 =>
            cases h5 with
            | nil => simpa [tupA] using h4
            | cons h6 h7 => simpa [tupA] using RepC.tuple (.cons h4 (.cons h6 h7))
        obtain ⟨v, hv, hrv⟩ := hrv
        refine ⟨v, by rw [hrun, hv], v, rfl, ⟨?_, fun t r' ht => ?_, fun t t' r1 r2 k1 k2 hne n1 n2 => ?_, h2.extlt, h2.n0le, rfl, h2.glob.mono hgr⟩, h3⟩
        · exact .cons (.closed (hrv.mono (Grows.less hown))) .nil
        · obtain ⟨rc, k4, _, k3, k6, k7, k8⟩ := hsome ht
          refine ⟨k7, ?_⟩
          obtain ⟨_, k9⟩ := h2.regs _ _ k4
          cases rc with
          | box g cs =>
            simp only [unR] at k3
            split at k3
            · rename_i zs hz
              cases k3
              simp only [Reg.g] at k8
              obtain ⟨a1, a2, cc, ty, us, rest, a3, a3c, a4, a5⟩ := k9
              simp only [RegOk]
              rw [k8] at a1 a2 a3 a5
              exact ⟨a1, a2, cc, ty, us, rest, a3, a3c, (un_repL hlive a4 hz).mono hgr (fun _ _ x => x) (fun _ _ _ => rfl), a5⟩
            · cases k3
          | row g es els =>
            cases k3
            simp only [Reg.g] at k8
            obtain ⟨a1, a2, a3, a4⟩ := k9
            rw [k8] at a1 a3 a4
            simp only [RegOk]
            refine ⟨a1, a2, a3, a4.imp id ?_⟩
            rintro ⟨b1, b2, cc, ty, us, rest, b3, b4, b5, b6⟩
            exact ⟨b1, b2, cc, ty, us, rest, b3, b4, b5.mono hgr, b6⟩
          | mapr g ents =>
            cases k3
            simp only [Reg.g] at k8
            obtain ⟨a1, a2, es, clock, a3, a4⟩ := k9
            rw [k8] at a1 a2 a3
            simp only [RegOk]
            exact ⟨a1, a2, es, clock, a3, both_mono hgr a4⟩
        · obtain ⟨rc, k4, _, _, k6, _, k8⟩ := hsome k1
          obtain ⟨rc', k4', _, _, k6', _, k8'⟩ := hsome k2
          have := h2.dist _ _ _ _ k4 k4' (by omega) (by rw [← k6, k8]; exact n1) (by rw [← k6', k8']; exact n2)
          rw [← k6, ← k6', k8, k8'] at this
          exact this
      · exact hq.elim
    · exact hq.elim
  cases e <;> first | exact fin h1 | exact h1.elim
def retF (P : Program) (rs : List ResultVar) (es : Nat) (els : List (List AV)) : Exit → St → Prop
  | .ret, st | .normal, st => match resL P st rs with
    | some [.view k g] => lookRow st.σ k g = some (es, els)
    | _ => False
  | _, _ => False
theorem fcalls_of {f : FuncId} {fn : Func} {c : Code} {args : List AV} {es : Nat} {els : List (List AV)} (hf : P.funcs[f]? = some fn) (hb : fn.body = some c) (hname : (fn.name == "runtime.NumGoroutine") = false) {rs : List ResultVar} (hrs : fn.results.toList = rs) {n : Nat} (hn : fn.ntmps = n)
    (h : ASpec P c (retF P rs es els) (st0 n args)) : FCalls P f args es els := by
  subst hn; subst hrs
  refine ⟨by simp [callable, hf, hb, hname], fun w own vs hown hglob hargs => ?_⟩
  refine calls_of_wp hf hb ?_
  have hlen := hargs.length
  have hown2 : ∀ b, ownOf own (fun _ _ => default) (List.replicate fn.ntmps none) b → own b := by
    rintro b (h1 | ⟨t, r', h1, _⟩)
    · exact h1
    · rw [List.getElem?_replicate] at h1; split at h1 <;> simp at h1
  have hfr : FR (fun b => w.heap.size ≤ b) own ⟨fun _ _ => default, fun _ _ => False⟩ (st0 fn.ntmps args) { tmps := vs.toArray ++ Array.replicate (fn.ntmps - vs.toArray.size) undef, defers := [] } w := by
    refine ⟨fun _ _ => default, fun _ _ => False, ⟨?_, ?_, ?_, fun b hb => Nat.not_le.mpr (hown b hb), fun _ h => h, rfl, hglob.mono (Grows.less hown2)⟩, fun _ _ h => h.elim, fun _ _ h => h.elim⟩
    · simp only [st0, Array.toList_append, Array.toList_replicate, List.size_toArray, hlen]
      refine RepVL.append (hargs.mono (Grows.less hown2)).toV ?_
      generalize fn.ntmps - vs.length = m
      induction m with
      | zero => exact .nil
      | succ m ih => exact .cons (.closed (.any _)) ih
    · intro t r' h1
      simp only [st0, List.getElem?_replicate] at h1; split at h1 <;> simp at h1
    · intro t t' r1 r2 h1
      simp only [st0, List.getElem?_replicate] at h1; split at h1 <;> simp at h1
  refine wp_mono (h _ _ _ w _ w hfr (Bel.refl _ _)) fun e a' w' ⟨st', h1, ⟨β, ok, h2, _⟩, h3'⟩ => ?_
  have h3 := h3'.below
  have fin : (match resL P st' fn.results.toList with
    | some [.view k g] => lookRow st'.σ k g = some (es, els)
    | _ => False) → a'.defers = [] ∧ ∃ v, (results fn a'.tmps).run P w' = .ok v w' ∧ (∃ loc : Loc, Ending.returned v = .returned (.slice (if loc.isNil then none else some ⟨loc.block, 0, none⟩) loc.len loc.cap) ∧
      RegOk (fun b => w.heap.size ≤ b) w' (fun b => own b ∨ (loc.isNil = false ∧ b = loc.block)) (fun _ _ => loc) (fun _ _ => True) 0 (.row 0 es els) ∧ Below w.heap.size w w') := by
    intro hq
    refine ⟨h2.defers, ?_⟩
    split at hq
    · rename_i k g hy
      obtain ⟨qs, hrun, hrep⟩ := results_run h2 hy
      have hrow := lookRow_some hq
      obtain ⟨_, a1, a2, a3, a4⟩ := h2.regs _ _ hrow
      cases hrep with
      | cons r1 r2 =>
        cases r2
        rename_i v
        have hv := r1.view_open.2
        refine ⟨v, by rw [hrun]; rfl, β k g, by rw [hv], ⟨a1, a2, a3, a4.imp id ?_⟩, h3⟩
        rintro ⟨b1, b2, cc, ty, us, rest, b3, b4, b5, b6⟩
        refine ⟨b1, b2, cc, ty, us, rest, b3, b4, b5.mono (Grows.less ?_), b6⟩
        rintro b (k1 | ⟨k1, rfl⟩)
        · exact .inl k1
        · exact .inr ⟨k, _, hrow, k1, rfl⟩
    · exact hq.elim
  cases e <;> first | exact fin h1 | exact h1.elim
structure RetF (P : Program) (rs : List ResultVar) (es : Nat) (els : List (List AV)) (e : Exit) (st : St) : Prop where
  ret : retF P rs es els e st
theorem fcalls_k {f : FuncId} {fn : Func} {c : Code} {args : List AV} {es : Nat} {els : List (List AV)} (hf : P.funcs[f]? = some fn) (hb : fn.body = some c) (hname : (fn.name == "runtime.NumGoroutine") = false) {rs : List ResultVar} (hrs : fn.results.toList = rs) {n : Nat} (hn : fn.ntmps = n)
    (h : ∀ R : Exit → St → Prop, (∀ e st, RetF P rs es els e st → R e st) → ASpec P c R (st0 n args)) : FCalls P f args es els := fcalls_of hf hb hname hrs hn (h _ fun _ _ h => h.ret)
structure RetM (P : Program) (σ : Sto) (m : Nat) (rs : List ResultVar) (r : AV) (σ' : Sto) (e : Exit) (st : St) : Prop where
  ret : retM P σ m rs r σ' e st
theorem mcalls_k {f : FuncId} {fn : Func} {c : Code} {γ : Nat} {args : List AV} {σ : Sto} {r : AV} {σ' : Sto} (hf : P.funcs[f]? = some fn) (hb : fn.body = some c) (hname : (fn.name == "runtime.NumGoroutine") = false) {rs : List ResultVar} (hrs : fn.results.toList = rs) (hn : fn.ntmps = m)
    (hG : SameG σ σ') (h : ∀ R : Exit → St → Prop, (∀ e st, RetM P σ m rs r σ' e st → R e st) → ASpec P c R (stM m args σ γ)) : MCalls P f γ args σ r σ' := mcalls_of hf hb hname hrs hn hG (h _ fun _ _ h => h.ret)
end
end Go.Ab
end

section
namespace Go.Ab
open Go.RowKit

abbrev Moves := List (Nat × Nat × Nat)
def moveOf (π : Moves) (t g : Nat) : Option Nat := match π.find? (fun p => p.1 == t && p.2.1 == g) with | some p => some p.2.2 | none => none
def refG (σ0 : Sto) (γ : Nat) (π : Moves) (t g : Nat) : Option (Nat × Nat) := if liveB σ0 t g = true then some (t, g) else match moveOf π t g with | some k => some (k, γ) | none => none
mutual
def renV (σ0 : Sto) (γ : Nat) (π : Moves) : AV → Option AV
  | .agg cs => match renL σ0 γ π cs with | some ys => some (.agg ys) | none => none
  | .func fn cs => match renL σ0 γ π cs with | some ys => some (.func fn ys) | none => none
  | .mfunc fn cs => match renL σ0 γ π cs with | some ys => some (.mfunc fn ys) | none => none
  | .tuple cs => match renL σ0 γ π cs with | some ys => some (.tuple ys) | none => none
  | .view t g => match refG σ0 γ π t g with | some (k, h) => some (.view k h) | none => none
  | .viewF t g => match refG σ0 γ π t g with | some (k, h) => some (.viewF k h) | none => none
  | .ptr t g off => match refG σ0 γ π t g with | some (k, h) => some (.ptr k h off) | none => none
  | .rptr t g es i off => match refG σ0 γ π t g with | some (k, h) => some (.rptr k h es i off) | none => none
  | .mref t g => match refG σ0 γ π t g with | some (k, h) => some (.mref k h) | none => none
  | .sl t g es off len => match refG σ0 γ π t g with | some (k, h) => some (.sl k h es off len) | none => none
  | x => some x
def renL (σ0 : Sto) (γ : Nat) (π : Moves) : List AV → Option (List AV)
  | [] => some []
  | x :: xs => match renV σ0 γ π x, renL σ0 γ π xs with
    | some y, some ys => some (y :: ys)
    | _, _ => none
end
def renR (σ0 : Sto) (γ : Nat) (π : Moves) (h : Nat) : Reg → Option Reg
  | .box _ cs => match renL σ0 γ π cs with | some ys => some (.box h ys) | none => none
  | .row _ es els => some (.row h es els)
  | .mapr _ ents => some (.mapr h ents)
def backAt (σ0 : Sto) (γ : Nat) (π : Moves) (σc : Sto) (k : Nat) : Option Reg :=
  match π.find? (fun p => p.2.2 == k) with
  | some p => match σc.getD p.1 none with
    | some r => if r.g = p.2.1 then renR σ0 γ π γ r else none
    | none => none
  | none => match σc.getD k none with
    | some r => if liveB σ0 k r.g = true then renR σ0 γ π r.g r else none
    | none => none
def backG (L : Nat) (σ0 : Sto) (γ : Nat) (π : Moves) (σc : Sto) : Sto := (List.range L).map (backAt σ0 γ π σc)
def okMoves (σ0 : Sto) (κ : List Nat) (π : Moves) : Bool := π.all (fun p => κ.contains p.2.2 && !liveB σ0 p.1 p.2.1) && decide (π.map fun p => p.2.2).Nodup && decide (π.map fun p => p.1).Nodup
def retG (P : Program) (σ0 : Sto) (γ : Nat) (κ : List Nat) (rs : List ResultVar) (r : AV) (σ' : Sto) : Exit → St → Prop
  | .ret, st | .normal, st => ∃ L π vs us, resL P st rs = some vs ∧ renL σ0 γ π vs = some us ∧ tupA us = r ∧ backG L σ0 γ π st.σ = σ' ∧ okMoves σ0 κ π = true
  | _, _ => False
def stG (m : Nat) (args : List AV) (σ : Sto) (γ : Nat) : St := ⟨args ++ List.replicate (m - args.length) .any, σ, γ + 1⟩

section
variable {P : Program} {w : World} {own : Nat → Prop} {β β' : Nat → Nat → Loc} {ok ok' : Nat → Nat → Prop} {σ0 : Sto} {γ : Nat} {π : Moves}
mutual
theorem renV_closed : ∀ {x : AV} {v : Value}, RepC w own x v → renV σ0 γ π x = some x
  | _, _, .bool _ => rfl
  | _, _, .int _ _ => rfl
  | _, _, .str _ => rfl
  | _, _, .agg h => by simp only [renV, renL_closed h]
  | _, _, .slice _ _ _ _ => rfl
  | _, _, .slice0 => rfl
  | _, _, .nils => rfl
  | _, _, .cptr _ _ => rfl
  | _, _, .func h => by simp only [renV, renL_closed h]
  | _, _, .mfunc h => by simp only [renV, renL_closed h]
  | _, _, .nilFunc => rfl
  | _, _, .tuple h => by simp only [renV, renL_closed h]
  | _, _, .lit _ => rfl
  | _, _, .any _ => rfl
  | _, _, .sl0 => rfl
  | _, _, .sliceF _ _ _ => rfl
  | _, _, .sliceF0 => rfl
theorem renL_closed : ∀ {xs : List AV} {vs : List Value}, RepCL w own xs vs → renL σ0 γ π xs = some xs
  | _, _, .nil => rfl
  | _, _, .cons h1 h2 => by simp only [renL, renV_closed h1, renL_closed h2]
end
mutual
theorem ren_rep (hβ : ∀ t g k h, ok' t g → refG σ0 γ π t g = some (k, h) → ok k h ∧ β' t g = β k h) : ∀ {x y : AV} {v : Value}, RepV w own β' ok' x v → renV σ0 γ π x = some y → RepV w own β ok y v
  | _, _, _, .closed h, he => by rw [renV_closed h] at he; cases he; exact .closed h
  | _, _, _, .agg h, he => by
    simp only [renV] at he
    split at he
    · rename_i hq; cases he; exact .agg (ren_repL hβ h hq)
    · cases he
  | _, _, _, .func h, he => by
    simp only [renV] at he
    split at he
    · rename_i hq; cases he; exact .func (ren_repL hβ h hq)
    · cases he
  | _, _, _, .mfunc h, he => by
    simp only [renV] at he
    split at he
    · rename_i hq; cases he; exact .mfunc (ren_repL hβ h hq)
    · cases he
  | _, _, _, .tuple h, he => by
    simp only [renV] at he
    split at he
    · rename_i hq; cases he; exact .tuple (ren_repL hβ h hq)
    · cases he
  | _, _, _, .view h, he => by
    simp only [renV] at he
    split at he
    · rename_i hq; cases he
      obtain ⟨h1, h2⟩ := hβ _ _ _ _ h hq
      rw [h2]; exact .view h1
    · cases he
  | _, _, _, .viewF h hF, he => by
    simp only [renV] at he
    split at he
    · rename_i hq; cases he
      obtain ⟨h1, h2⟩ := hβ _ _ _ _ h hq
      rw [h2] at hF ⊢; exact .viewF h1 hF
    · cases he
  | _, _, _, .ptr h, he => by
    simp only [renV] at he
    split at he
    · rename_i hq; cases he
      obtain ⟨h1, h2⟩ := hβ _ _ _ _ h hq
      rw [h2]; exact .ptr h1
    · cases he
  | _, _, _, .rptr h, he => by
    simp only [renV] at he
    split at he
    · rename_i hq; cases he
      obtain ⟨h1, h2⟩ := hβ _ _ _ _ h hq
      rw [h2]; exact .rptr h1
    · cases he
  | _, _, _, .mref h, he => by
    simp only [renV] at he
    split at he
    · rename_i hq; cases he
      obtain ⟨h1, h2⟩ := hβ _ _ _ _ h hq
      rw [h2]; exact .mref h1
    · cases he
  | _, _, _, .sl h k1 k2, he => by
    simp only [renV] at he
    split at he
    · rename_i hq; cases he
      obtain ⟨h1, h2⟩ := hβ _ _ _ _ h hq
      rw [h2] at k2 ⊢; exact .sl h1 k1 k2
    · cases he
theorem ren_repL (hβ : ∀ t g k h, ok' t g → refG σ0 γ π t g = some (k, h) → ok k h ∧ β' t g = β k h) : ∀ {xs ys : List AV} {vs : List Value}, RepVL w own β' ok' xs vs → renL σ0 γ π xs = some ys → RepVL w own β ok ys vs
  | _, _, _, .nil, he => by simp only [renL, Option.some.injEq] at he; subst he; exact .nil
  | _, _, _, .cons h1 h2, he => by
    simp only [renL] at he
    split at he
    · rename_i y ys hy hys
      cases he
      exact .cons (ren_rep hβ h1 hy) (ren_repL hβ h2 hys)
    · cases he
end
theorem renR_g {h : Nat} {r r' : Reg} (he : renR σ0 γ π h r = some r') : r'.g = h := by
  cases r with
  | box g cs =>
    simp only [renR] at he
    split at he
    · cases he; rfl
    · cases he
  | row g es els => cases he; rfl
  | mapr g ents => cases he; rfl
theorem backG_some {L : Nat} {σc : Sto} {k : Nat} {r' : Reg} (h : (backG L σ0 γ π σc)[k]? = some (some r')) : backAt σ0 γ π σc k = some r' := by
  unfold backG at h
  rw [List.getElem?_map] at h
  cases hr : (List.range L)[k]? with
  | none => rw [hr] at h; cases h
  | some j =>
    have : j = k := by
      obtain ⟨h2, h3⟩ := List.getElem?_eq_some_iff.mp hr
      simpa using h3.symm
    subst this
    rw [hr] at h
    simpa using h
theorem getD_some {σ : Sto} {k : Nat} {r : Reg} (h : σ.getD k none = some r) : σ[k]? = some (some r) := by
  rw [List.getD_eq_getElem?_getD] at h
  cases hs : σ[k]? with
  | none => rw [hs] at h; cases h
  | some o => rw [hs] at h; simp at h; rw [h]
theorem backAt_some {σc : Sto} {k : Nat} {r' : Reg} (h : backAt σ0 γ π σc k = some r') :
    (∃ p ∈ π, p.2.2 = k ∧ ∃ r, σc[p.1]? = some (some r) ∧ r.g = p.2.1 ∧ renR σ0 γ π γ r = some r') ∨
    (∃ r, σc[k]? = some (some r) ∧ liveB σ0 k r.g = true ∧ renR σ0 γ π r.g r = some r') := by
  unfold backAt at h
  split at h
  · rename_i p hp
    left
    have h1 := List.find?_some hp
    refine ⟨p, List.mem_of_find?_eq_some hp, by simpa using h1, ?_⟩
    split at h
    · rename_i r hr
      split at h
      · rename_i hg; exact ⟨r, getD_some hr, hg, h⟩
      · cases h
    · cases h
  · right
    split at h
    · rename_i r hr
      split at h
      · rename_i hg; exact ⟨r, getD_some hr, hg, h⟩
      · cases h
    · cases h
theorem nodup_key {α β : Type} {f : α → β} : ∀ {l : List α}, (l.map f).Nodup → ∀ {x y : α}, x ∈ l → y ∈ l → f x = f y → x = y
  | [], _, _, _, h, _, _ => by cases h
  | a :: l, hn, x, y, hx, hy, he => by
    simp only [List.map_cons, List.nodup_cons, List.mem_map, not_exists, not_and] at hn
    rcases List.mem_cons.mp hx with h1 | h1 <;> rcases List.mem_cons.mp hy with h2 | h2
    · rw [h1, h2]
    · subst h1; exact absurd he.symm (hn.1 y h2)
    · subst h2; exact absurd he (hn.1 x h1)
    · exact nodup_key hn.2 h1 h2 he

theorem gcalls_of {f : FuncId} {fn : Func} {c : Code} {args : List AV} {κ : List Nat} {r : AV} {σ' : Sto} (hf : P.funcs[f]? = some fn) (hb : fn.body = some c) (hname : (fn.name == "runtime.NumGoroutine") = false)
    (h : ASpec P c (retG P σ0 γ κ fn.results.toList r σ') (stG fn.ntmps args σ0 γ)) : GCalls P f γ κ args σ0 r σ' := by
  refine ⟨by simp [callable, hf, hb, hname], fun N ext β ok vs w hst hgen hfresh => ?_⟩
  refine calls_of_wp hf hb ?_
  have hlen : args.length = vs.length := by have := hst.temps.length; simpa using this
  have hfr : FR N ext ⟨β, ok⟩ (stG fn.ntmps args σ0 γ) { tmps := vs.toArray ++ Array.replicate (fn.ntmps - vs.toArray.size) undef, defers := [] } w := by
    refine ⟨β, ok, ⟨?_, hst.regs, hst.dist, hst.extlt, hst.n0le, rfl, hst.glob⟩, fun t g hk => Nat.lt_succ_of_le (hgen _ _ hk), .refl _ _⟩
    simp only [stG, Array.toList_append, Array.toList_replicate, List.size_toArray, hlen]
    refine RepVL.append (by simpa using hst.temps) ?_
    generalize fn.ntmps - vs.length = q
    induction q with
    | zero => exact .nil
    | succ q ih => exact .cons (.closed (.any _)) ih
  refine wp_mono (h _ _ _ w _ w hfr (Bel.refl _ _)) fun e a' w' ⟨st', h1, ⟨βf, okf, h2, _, hx⟩, h3⟩ => ?_
  have fin : (∃ L π vs us, resL P st' fn.results.toList = some vs ∧ renL σ0 γ π vs = some us ∧ tupA us = r ∧ backG L σ0 γ π st'.σ = σ' ∧ okMoves σ0 κ π = true) →
      a'.defers = [] ∧ ∃ v, (results fn a'.tmps).run P w' = .ok v w' ∧ (∃ v' β' ok', Ending.returned v = .returned v' ∧ StRel N ext β' ok' ⟨[r], σ', γ⟩ { tmps := #[v'], defers := [] } w' ∧ (∀ t g, ok' t g → ok t g ∨ (t ∈ κ ∧ g = γ)) ∧ (∀ t g, ok t g → ok' t g ∧ β' t g = β t g) ∧ Bel N w w') := by
    rintro ⟨L, π, ys, us, hy, hren, hr0, hs0, hok⟩
    refine ⟨h2.defers, ?_⟩
    simp only [okMoves, Bool.and_eq_true, List.all_eq_true, decide_eq_true_eq, Bool.not_eq_true'] at hok
    obtain ⟨⟨hκ, hnk⟩, hnt⟩ := hok
    have hκ1 : ∀ p ∈ π, p.2.2 ∈ κ := fun p hp => List.contains_iff_mem.mp (hκ p hp).1
    obtain ⟨qs, hrun, hrep⟩ := results_run h2 hy
    -- places of the new regions
    let β2 : Nat → Nat → Loc := fun t g => match π.find? (fun p => p.2.2 == t) with | some p => if g = γ then βf p.1 p.2.1 else β t g | none => β t g
    let ok2 : Nat → Nat → Prop := fun t g => ok t g ∨ (g = γ ∧ ∃ p ∈ π, p.2.2 = t ∧ okf p.1 p.2.1)
    have hold : ∀ t g, ok t g → β2 t g = β t g := by
      intro t g hk
      show (match π.find? (fun p => p.2.2 == t) with | some p => if g = γ then βf p.1 p.2.1 else β t g | none => β t g) = β t g
      split
      · rename_i p hp
        rw [if_neg]
        rintro rfl
        have h4 : p.2.2 = t := by simpa using List.find?_some hp
        exact hfresh t (h4 ▸ hκ1 p (List.mem_of_find?_eq_some hp)) hk
      · rfl
    have hnew : ∀ p ∈ π, β2 p.2.2 γ = βf p.1 p.2.1 := by
      intro p hp
      show (match π.find? (fun q => q.2.2 == p.2.2) with | some q => if γ = γ then βf q.1 q.2.1 else β p.2.2 γ | none => β p.2.2 γ) = βf p.1 p.2.1
      split
      · rename_i q hq
        have h4 : q.2.2 = p.2.2 := by simpa using List.find?_some hq
        have := nodup_key hnk (List.mem_of_find?_eq_some hq) hp h4
        rw [this, if_pos rfl]
      · rename_i hq
        have := List.find?_eq_none.mp hq p hp
        simp at this
    have hlive : ∀ t g, liveB σ0 t g = true → ok t g ∧ βf t g = β t g := by
      intro t g hl
      obtain ⟨r0, k1, rfl⟩ := live_some hl
      obtain ⟨k2, _⟩ := hst.regs _ _ k1
      exact ⟨k2, (hx _ _ k2).2⟩
    have href : ∀ t g k h, okf t g → refG σ0 γ π t g = some (k, h) → ok2 k h ∧ βf t g = β2 k h := by
      intro t g k h hk he
      unfold refG at he
      split at he
      · rename_i hl
        cases he
        obtain ⟨k1, k2⟩ := hlive _ _ hl
        exact ⟨.inl k1, k2.trans (hold _ _ k1).symm⟩
      · split at he
        · rename_i k' hm
          cases he
          unfold moveOf at hm
          split at hm
          · rename_i p hp
            cases hm
            have h4 : p.1 = t ∧ p.2.1 = g := by simpa using List.find?_some hp
            have hmem := List.mem_of_find?_eq_some hp
            refine ⟨.inr ⟨rfl, p, hmem, rfl, by rw [h4.1, h4.2]; exact hk⟩, ?_⟩
            rw [hnew p hmem, h4.1, h4.2]
          · cases hm
        · cases he
    -- what lies where
    have hsome : ∀ {k : Nat} {r' : Reg}, σ'[k]? = some (some r') → ∃ (t : Nat) (rc : Reg), st'.σ[t]? = some (some rc) ∧ renR σ0 γ π r'.g rc = some r' ∧ ok2 k r'.g ∧ β2 k r'.g = βf t rc.g ∧ ((t = k ∧ liveB σ0 k rc.g = true) ∨ ∃ p ∈ π, p.2.2 = k ∧ p.1 = t ∧ p.2.1 = rc.g) := by
      intro k r' hk
      rw [← hs0] at hk
      rcases backAt_some (backG_some hk) with ⟨p, hp, hpk, rc, k1, k2, k3⟩ | ⟨rc, k1, k2, k3⟩
      · have k4 := renR_g k3
        obtain ⟨k5, _⟩ := h2.regs _ _ k1
        refine ⟨p.1, rc, k1, by rw [k4]; exact k3, .inr ⟨k4, p, hp, hpk, by rw [← k2]; exact k5⟩, ?_, .inr ⟨p, hp, hpk, rfl, k2.symm⟩⟩
        rw [k4, ← hpk, hnew p hp, k2]
      · have k4 := renR_g k3
        obtain ⟨k5, k6⟩ := hlive _ _ k2
        refine ⟨k, rc, k1, by rw [k4]; exact k3, .inl (by rw [k4]; exact k5), ?_, .inl ⟨rfl, k2⟩⟩
        rw [k4, hold _ _ k5, k6]
    have hown : ∀ b, ownOf ext β2 σ' b → ownOf ext βf st'.σ b := by
      rintro b (k1 | ⟨k, r', k1, k2, k3⟩)
      · exact .inl k1
      · obtain ⟨t, rc, k4, _, _, k5, _⟩ := hsome k1
        rw [k5] at k2 k3
        exact .inr ⟨t, rc, k4, k2, k3⟩
    have hgr : Grows w' w' (ownOf ext βf st'.σ) (ownOf ext β2 σ') := Grows.less hown
    have hus : RepVL w' (ownOf ext β2 σ') β2 ok2 us qs := (ren_repL href hrep hren).mono hgr (fun _ _ x => x) (fun _ _ _ => rfl)
    have hrv : ∃ v, (if h : qs.toArray.size = 1 then qs.toArray[0] else Value.tuple qs.toArray) = v ∧ RepV w' (ownOf ext β2 σ') β2 ok2 r v := by
      refine ⟨_, rfl, ?_⟩
      subst hr0
      cases hus with
      | nil => exact .tuple .nil
      | cons h4 h5 =>
        cases h5 with
        | nil => simpa [tupA] using h4
        | cons h6 h7 => simpa [tupA] using RepV.tuple (.cons h4 (.cons h6 h7))
    obtain ⟨v, hv, hrv⟩ := hrv
    refine ⟨v, by rw [hrun, hv], v, β2, ok2, rfl, ⟨.cons hrv .nil, fun k r' hk => ?_, fun k k' r1 r2 k1 k2 hne n1 n2 => ?_, h2.extlt, h2.n0le, rfl, h2.glob.mono hgr⟩, ?_, fun t g hk => ⟨.inl hk, hold t g hk⟩, h3⟩
    · obtain ⟨t, rc, k1, k2, k3, k4, _⟩ := hsome hk
      refine ⟨k3, ?_⟩
      obtain ⟨_, k5⟩ := h2.regs _ _ k1
      cases rc with
      | box g cs =>
        simp only [renR] at k2
        split at k2
        · rename_i zs hz
          have e := (Option.some.inj k2).symm
          obtain ⟨a1, a2, cc, ty, us2, rest, a3, a3c, a4, a5⟩ := k5
          simp only [Reg.g] at k4 a1 a2 a3 a5
          rw [← k4] at a1 a2 a3 a5
          generalize r'.g = gg at *
          subst e
          simp only [RegOk]
          exact ⟨a1, a2, cc, ty, us2, rest, a3, a3c, (ren_repL href a4 hz).mono hgr (fun _ _ x => x) (fun _ _ _ => rfl), a5⟩
        · cases k2
      | row g es els =>
        simp only [renR] at k2
        have e := (Option.some.inj k2).symm
        obtain ⟨a1, a2, a3, a4⟩ := k5
        simp only [Reg.g] at k4 a1 a3 a4
        rw [← k4] at a1 a3 a4
        generalize r'.g = gg at *
        subst e
        simp only [RegOk]
        refine ⟨a1, a2, a3, a4.imp id ?_⟩
        rintro ⟨b1, b2, cc, ty, us2, rest, b3, b4, b5, b6⟩
        exact ⟨b1, b2, cc, ty, us2, rest, b3, b4, b5.mono hgr, b6⟩
      | mapr g ents =>
        simp only [renR] at k2
        have e := (Option.some.inj k2).symm
        obtain ⟨a1, a2, es, clock, a3, a4⟩ := k5
        simp only [Reg.g] at k4 a1 a2 a3
        rw [← k4] at a1 a2 a3
        generalize r'.g = gg at *
        subst e
        simp only [RegOk]
        exact ⟨a1, a2, es, clock, a3, both_mono hgr a4⟩
    · obtain ⟨t, rc, c1, _, _, c2, c3⟩ := hsome k1
      obtain ⟨t', rc', d1, _, _, d2, d3⟩ := hsome k2
      rw [c2] at n1 ⊢
      rw [d2] at n2 ⊢
      refine h2.dist t t' rc rc' c1 d1 ?_ n1 n2
      rintro rfl
      have hrr : rc = rc' := by rw [c1] at d1; exact Option.some.inj (Option.some.inj d1)
      subst hrr
      rcases c3 with ⟨rfl, l1⟩ | ⟨p, hp, p1, p2, p3⟩ <;> rcases d3 with ⟨e, l2⟩ | ⟨q, hq, q1, q2, q3⟩
      · exact hne e
      · have := (hκ q hq).2
        rw [q2, q3, l1] at this
        cases this
      · have := (hκ p hp).2
        rw [p2, p3] at this
        rw [← e] at l2
        rw [l2] at this
        cases this
      · have := nodup_key hnt hp hq (p2.trans q2.symm)
        rw [this] at p1
        exact hne (p1.symm.trans q1)
    · rintro t g (hk | ⟨rfl, p, hp, rfl, _⟩)
      · exact .inl hk
      · exact .inr ⟨hκ1 p hp, rfl⟩
  cases e <;> first | exact fin h1 | exact h1.elim
end
end Go.Ab
end
