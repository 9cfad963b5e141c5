/- What a loop's head knows of a state: some slots, some regions. -/
import Derived.Test.YtmlaogjndaeihaaGreatDoorAb17
namespace Go.Ab

def lookT : List (Nat × AV) → Nat → AV → AV
  | [], _, d => d
  | (j, x) :: r, i, d => if i = j then x else lookT r i d
def lookR : List (Nat × Reg) → Nat → Option Reg → Option Reg
  | [], _, d => d
  | (j, x) :: r, i, d => if i = j then some x else lookR r i d
def tabT (ts : List (Nat × AV)) (τ : List AV) : Nat → Nat → List AV
  | 0, _ => []
  | n + 1, i => lookT ts i (τ.getD i .any) :: tabT ts τ n (i + 1)
def tabR (rs : List (Nat × Reg)) (σ : Sto) : Nat → Nat → Sto
  | 0, _ => []
  | n + 1, i => lookR rs i (σ.getD i none) :: tabR rs σ n (i + 1)
structure Has (st : St) (n : Nat) (ts : List (Nat × AV)) (rs : List (Nat × Reg)) : Prop where
  len : st.τ.length = n
  len' : st.σ.length = n
  slots : ∀ p ∈ ts, st.τ.getD p.1 .any = p.2
  regs : ∀ p ∈ rs, st.σ.getD p.1 none = some p.2
theorem lookT_of {ts : List (Nat × AV)} {τ : List AV} (h : ∀ p ∈ ts, τ.getD p.1 .any = p.2) (i : Nat) : lookT ts i (τ.getD i .any) = τ.getD i .any := by
  induction ts with
  | nil => rfl
  | cons p r ih =>
    obtain ⟨j, x⟩ := p
    simp only [lookT]
    split
    · rename_i e; subst e; exact (h (i, x) (by simp)).symm
    · exact ih fun q hq => h q (by simp [hq])
theorem lookR_of {ts : List (Nat × Reg)} {σ : Sto} (h : ∀ p ∈ ts, σ.getD p.1 none = some p.2) (i : Nat) : lookR ts i (σ.getD i none) = σ.getD i none := by
  induction ts with
  | nil => rfl
  | cons p r ih =>
    obtain ⟨j, x⟩ := p
    simp only [lookR]
    split
    · rename_i e; subst e; exact (h (i, x) (by simp)).symm
    · exact ih fun q hq => h q (by simp [hq])
theorem tabT_of {ts : List (Nat × AV)} {τ : List AV} (h : ∀ p ∈ ts, τ.getD p.1 .any = p.2) : ∀ (n i : Nat), τ.length = i + n → tabT ts τ n i = τ.drop i
  | 0, i, hl => by simp only [tabT]; rw [List.drop_eq_nil_of_le (by omega)]
  | n + 1, i, hl => by
    simp only [tabT, lookT_of h]
    rw [tabT_of h n (i + 1) (by omega), List.getD_eq_getElem?_getD, List.getElem?_eq_getElem (by omega), Option.getD_some, ← List.drop_eq_getElem_cons]
theorem tabR_of {ts : List (Nat × Reg)} {σ : Sto} (h : ∀ p ∈ ts, σ.getD p.1 none = some p.2) : ∀ (n i : Nat), σ.length = i + n → tabR ts σ n i = σ.drop i
  | 0, i, hl => by simp only [tabR]; rw [List.drop_eq_nil_of_le (by omega)]
  | n + 1, i, hl => by
    simp only [tabR, lookR_of h]
    rw [tabR_of h n (i + 1) (by omega), List.getD_eq_getElem?_getD, List.getElem?_eq_getElem (by omega), Option.getD_some, ← List.drop_eq_getElem_cons]
theorem Has.eta {st : St} {n : Nat} {ts : List (Nat × AV)} {rs : List (Nat × Reg)} (h : Has st n ts rs) : st = ⟨tabT ts st.τ n 0, tabR rs st.σ n 0, st.gen⟩ := by
  rw [tabT_of h.slots n 0 (by simp [h.len]), tabR_of h.regs n 0 (by simp [h.len'])]
  rfl
theorem a_has {P : Program} {c : Code} {Q : Exit → St → Prop} {st : St} {n : Nat} {ts : List (Nat × AV)} {rs : List (Nat × Reg)} (h : Has st n ts rs) (hc : ∀ τ σ g, ASpec P c Q ⟨tabT ts τ n 0, tabR rs σ n 0, g⟩) : ASpec P c Q st := by
  rw [h.eta]; exact hc _ _ _
/-- The round of a loop has come to its head again, with a lower number. -/
structure Again (I : Nat → St → Prop) (n : Nat) (st : St) : Prop where
  again : ∃ m, m < n ∧ I m st
theorem a_loop_k {P : Program} {c : Code} {Q : Exit → St → Prop} {st : St} (I : Nat → St → Prop) (n : Nat) (h0 : I n st)
    (round : ∀ n st, I n st → ∀ K : St → Prop, (∀ st', Again I n st' → K st') → ASpec P c (thenA K Q) st) : ASpec P (.loop c) Q st :=
  a_loop I (fun n st h => a_mono (round n st h _ fun _ h => h.again) fun e st' => by cases e <;> exact id) h0
theorem wrap_nat (n : Nat) (h : n < 2 ^ 62) : IntKind.wrap .i64 ((n : Int) + 1) = ((n + 1 : Nat) : Int) := by
  simp [IntKind.wrap, IntKind.bits, IntKind.signed]
  omega

/-- A sequence cut in two by what holds between. -/
structure Meets (M : St → Prop) (st : St) : Prop where
  meets : M st
theorem a_cut {P : Program} {x y : Code} {Q : Exit → St → Prop} {st : St} (M : St → Prop) (h1 : ∀ K : St → Prop, (∀ st', Meets M st' → K st') → ASpec P x (thenA K Q) st) (h2 : ∀ st', M st' → ASpec P y Q st') : ASpec P (.seq x y) Q st :=
  a_seq (a_mono (h1 M fun _ h => h.meets) fun e st' h => by cases e <;> first | exact h2 _ h | exact h)
theorem a_seq_reg {P : Program} {id : Nat} {ops : Array Oper} {b : Bool} {y : Code} {Q : Exit → St → Prop} {st : St} (h : ∀ K : St → Prop, (∀ st, ASpec P y Q st → K st) → ASpec P (.region id ops b) (thenA K Q) st) : ASpec P (.seq (.region id ops b) y) Q st := a_seq_k h

theorem tmod2 (n : Nat) : (n : Int).tmod 2 = ((n % 2 : Nat) : Int) := rfl
theorem castn0 : ((0 : Nat) : Int) = 0 := rfl
theorem castn1 : ((1 : Nat) : Int) = 1 := rfl
theorem castn2 : ((2 : Nat) : Int) = 2 := rfl
theorem castn3 : ((3 : Nat) : Int) = 3 := rfl
theorem wrap_pred (a b : Nat) (h : a + b < 2 ^ 62) : IntKind.wrap .i64 (((a + (b + 1) : Nat) : Int) - 1) = ((a + b : Nat) : Int) := by
  simp [IntKind.wrap, IntKind.bits, IntKind.signed]
  omega
theorem ne_nil_of_lt {α : Type} {n : Nat} {rest : List α} (h : (n : Int) < ((n + rest.length : Nat) : Int)) : rest ≠ [] := by rintro rfl; simp at h
theorem elOk1 (x : AV) : elOk 1 [x] = leafB x := by simp [elOk]
theorem elOk3 (x y z : AV) : elOk 3 [x, y, z] = (leafB x && (leafB y && leafB z)) := by simp [elOk]
theorem elOk4 (x y z u : AV) : elOk 4 [x, y, z, u] = (leafB x && (leafB y && (leafB z && leafB u))) := by simp [elOk]
/-! Lists cut in two. -/
theorem getD_mid {α : Type} (pre : List α) (x : α) (r : List α) (d : α) : (pre ++ x :: r).getD pre.length d = x := by simp [List.getD_eq_getElem?_getD]
theorem getD_mid_map {α β : Type} (f : β → α) (pre : List β) (x : α) (r : List α) (d : α) : (pre.map f ++ x :: r).getD pre.length d = x := by simp [List.getD_eq_getElem?_getD]
theorem at_lt (a b : Nat) : decide ((a : Int) < ((a + (b + 1) : Nat) : Int)) = true := by simp; omega
theorem at_end (a : Nat) : decide ((a : Int) < (a : Int)) = false := by simp
theorem mid_lt (a b : Nat) : ((a : Int) < ((a + (b + 1) : Nat) : Int)) = True := by simp; omega
theorem mid_lt' (a b : Nat) : (a < a + (b + 1)) = True := by simp
theorem nat_ge (a : Nat) : ((0 : Int) ≤ (a : Int)) = True := by simp
end Go.Ab
