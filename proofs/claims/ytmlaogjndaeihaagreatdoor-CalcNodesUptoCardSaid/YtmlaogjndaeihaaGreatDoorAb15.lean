/- A region whose order is drawn: whatever the order, it comes to what the text's order comes to. -/
import Derived.Test.YtmlaogjndaeihaaGreatDoorAb14
namespace Go.Ab
open Go.RowKit

/-- The regions that an operation looked at, and those that it laid. -/
abbrev Foot := List Nat × List Nat
def Res.foot (r : Res) : Foot := (r.reads, r.upd.map (·.1))
def footB (x y : Foot) : Bool := x.2.any (fun k => y.1.contains k || y.2.contains k) || x.1.any fun k => y.2.contains k

def aopsD (P : Program) (ops : Array Oper) (Q : List Foot → St → Prop) : List Oper → List Foot → St → Prop
  | [], acc, st => Q acc.reverse ⟨st.τ, st.σ, st.gen + 1⟩
  | o :: rest, acc, st => gateA ops st o (fun st => stepA P st o fun r => aopsD P ops Q rest (r.foot :: acc) (st.after o.dst r)) (fun st => aopsD P ops Q rest (([], []) :: acc) (st.after o.dst skipR))

/-- Behind which operations each one must come. -/
def befs (ops : List Oper) : List (List Nat) :=
  ops.foldl (fun acc o => acc ++ [((o.after.toList.filter (Region.binds .any)).flatMap fun e => e.on :: acc.getD e.on []).eraseDups]) []
def backB (ops : List Oper) : Bool := ops.zipIdx.all fun p => (p.1.after.toList.filter (Region.binds .any)).all fun e => e.on < p.2
def confB (ops : List Oper) (acc : List Foot) : Bool :=
  let bs := befs ops
  (List.range ops.length).all fun j => (List.range j).all fun i =>
    (match ops[i]?, ops[j]? with
     | some x, some y => x.apart ops.toArray y && !footB (acc.getD i ([], [])) (acc.getD j ([], []))
     | _, _ => true) || (bs.getD j []).contains i
def drawOk (ops : List Oper) : Bool := allocsOk ops && backB ops && Region.noSelect ops.toArray

/-- i comes before j, by the edges. -/
inductive Prec (ops : List Oper) : Nat → Nat → Prop where
  | edge {i j : Nat} {o : Oper} {e : Edge} : ops[j]? = some o → e ∈ o.after.toList → Region.binds .any e = true → e.on = i → Prec ops i j
  | step {i k j : Nat} : Prec ops i k → Prec ops k j → Prec ops i j

theorem befs_prec_aux (all : List Oper) : ∀ (l : List Oper) (pre : List Oper) (acc : List (List Nat)), all = pre ++ l → acc.length = pre.length → (∀ j a, a ∈ acc.getD j [] → Prec all a j) →
    ∀ j a, a ∈ (l.foldl (fun acc o => acc ++ [((o.after.toList.filter (Region.binds .any)).flatMap fun e => e.on :: acc.getD e.on []).eraseDups]) acc).getD j [] → Prec all a j
  | [], _, _, _, _, h, j, a, ha => h j a ha
  | o :: l, pre, acc, he, hl, h, j, a, ha => by
    refine befs_prec_aux all l (pre ++ [o]) (acc ++ [((o.after.toList.filter (Region.binds .any)).flatMap fun e => e.on :: acc.getD e.on []).eraseDups]) (by simp [he]) (by simp [hl]) ?_ j a (by simpa using ha)
    intro j a ha
    by_cases hj : j < acc.length
    · rw [List.getD_eq_getElem?_getD, List.getElem?_append_left hj, ← List.getD_eq_getElem?_getD] at ha
      exact h j a ha
    · by_cases hj2 : j = acc.length
      · subst hj2
        rw [List.getD_eq_getElem?_getD, List.getElem?_append_right (Nat.le_refl _)] at ha
        simp only [Nat.sub_self, List.getElem?_cons_zero, Option.getD_some, List.mem_eraseDups, List.mem_flatMap, List.mem_filter, List.mem_cons] at ha
        obtain ⟨e, ⟨he1, he2⟩, ha⟩ := ha
        have hget : all[acc.length]? = some o := by rw [he, hl]; simp
        have hedge : Prec all e.on acc.length := .edge hget he1 he2 rfl
        rcases ha with rfl | ha
        · exact hedge
        · exact .step (h _ _ ha) hedge
      · rw [List.getD_eq_getElem?_getD, List.getElem?_eq_none (by simp; omega)] at ha
        simp at ha
theorem befs_prec {ops : List Oper} {i j : Nat} (h : i ∈ (befs ops).getD j []) : Prec ops i j :=
  befs_prec_aux ops ops [] [] rfl rfl (fun j a ha => by simp at ha) j i h

section
variable {P : Program} {n0 : Nat} {ext : Nat → Prop} {β : Nat → Nat → Loc} {ok : Nat → Nat → Prop} {st : St} {a : Act} {w w0 w' : World} {own : Nat → Prop}

/-- The operations with these numbers, one behind the other, each with its result. -/
inductive Chain (P : Program) (ops : Array Oper) (ρ : Nat → Res) : List Nat → St → St → Prop where
  | nil {st : St} : Chain P ops ρ [] st st
  | run {i : Nat} {l : List Nat} {o : Oper} {st st' : St} : ops[i]? = some o → (o.guard = none ∨ ∃ j want b, o.guard = some (j, want) ∧ gval ops st.τ j = some b ∧ b = some want) → Exec P st o (ρ i) → Chain P ops ρ l (st.after o.dst (ρ i)) st' → Chain P ops ρ (i :: l) st st'
  | skip {i : Nat} {l : List Nat} {o : Oper} {st st' : St} : ops[i]? = some o → (∃ j want b, o.guard = some (j, want) ∧ gval ops st.τ j = some b ∧ b ≠ some want) → ρ i = skipR → Chain P ops ρ l (st.after o.dst skipR) st' → Chain P ops ρ (i :: l) st st'

theorem chain_congr {ops : Array Oper} {ρ ρ' : Nat → Res} : ∀ {l : List Nat} {st st' : St}, Chain P ops ρ l st st' → (∀ i ∈ l, ρ' i = ρ i) → Chain P ops ρ' l st st'
  | _, _, _, .nil, _ => .nil
  | _, _, _, .run (i := i) h1 h2 h3 h4, he => .run h1 h2 (by rw [he i (by simp)]; exact h3) (by rw [he i (by simp)]; exact chain_congr h4 (fun j hj => he j (by simp [hj])))
  | _, _, _, .skip (i := i) h1 h2 h3 h4, he => .skip h1 h2 (by rw [he i (by simp)]; exact h3) (chain_congr h4 (fun j hj => he j (by simp [hj])))

theorem gateA_cases {ops : Array Oper} {o : Oper} {run skip : St → Prop} (hg : gateA ops st o run skip) :
    ((o.guard = none ∨ ∃ j want b, o.guard = some (j, want) ∧ gval ops st.τ j = some b ∧ b = some want) ∧ run st) ∨ ((∃ j want b, o.guard = some (j, want) ∧ gval ops st.τ j = some b ∧ b ≠ some want) ∧ skip st) := by
  unfold gateA at hg
  cases hgd : o.guard with
  | none => rw [hgd] at hg; exact .inl ⟨.inl rfl, hg⟩
  | some p =>
    obtain ⟨j, want⟩ := p
    rw [hgd] at hg
    simp only at hg
    split at hg
    · rename_i b hb
      by_cases hbw : b = want
      · subst hbw
        have := hg.1 rfl
        rw [learn_same hb] at this
        exact .inl ⟨.inr ⟨j, b, some b, rfl, hb, rfl⟩, this⟩
      · have hbw' : b = !want := by cases b <;> cases want <;> simp at hbw ⊢
        have := hg.2 hbw'
        rw [← hbw', learn_same hb] at this
        exact .inr ⟨⟨j, want, some b, rfl, hb, by simpa using hbw⟩, this⟩
    · rename_i hb
      exact .inr ⟨⟨j, want, none, rfl, hb, by simp⟩, hg⟩
    · exact hg.elim

theorem aopsD_chain {ops : Array Oper} {Q : List Foot → St → Prop} : ∀ {l : List Oper} {k : Nat} {acc : List Foot} {st : St}, aopsD P ops Q l acc st → (∀ j, l[j]? = ops[k + j]?) → acc.length = k →
    ∃ ρ st' fs, Chain P ops ρ (List.range' k l.length) st st' ∧ Q (acc.reverse ++ fs) ⟨st'.τ, st'.σ, st'.gen + 1⟩ ∧ fs.length = l.length ∧ (∀ j, j < l.length → fs[j]? = some (ρ (k + j)).foot)
  | [], k, acc, st, h, _, _ => ⟨fun _ => skipR, st, [], .nil, by simpa [aopsD] using h, rfl, fun j hj => by simp at hj⟩
  | o :: l, k, acc, st, h, ho, hk => by
    have ho0 : ops[k]? = some o := by simpa using (ho 0).symm
    have ho' : ∀ j, l[j]? = ops[k + 1 + j]? := fun j => by have := ho (j + 1); simpa [Nat.add_assoc, Nat.add_comm 1 j] using this
    simp only [aopsD] at h
    rcases gateA_cases h with ⟨hg, hrun⟩ | ⟨hg, hskip⟩
    · obtain ⟨r, hex, hrest⟩ := stepA_exec hrun
      obtain ⟨ρ, st', fs, hch, hQ, hl, hfs⟩ := aopsD_chain hrest ho' (by simp [hk])
      refine ⟨fun i => if i = k then r else ρ i, st', r.foot :: fs, ?_, by simpa using hQ, by simp [hl], ?_⟩
      · simp only [List.length_cons, List.range'_succ]
        refine .run ho0 hg (by simpa using hex) ?_
        simp only [if_true]
        refine chain_congr hch (fun i hi => ?_)
        have := List.mem_range'.mp hi
        obtain ⟨q, _, rfl⟩ := this
        rw [if_neg (by omega)]
      · intro j hj
        cases j with
        | zero => simp
        | succ j =>
          have := hfs j (by simpa using hj)
          simp only [List.getElem?_cons_succ, this]
          rw [if_neg (by omega)]
          simp [Nat.add_assoc, Nat.add_comm 1 j]
    · obtain ⟨ρ, st', fs, hch, hQ, hl, hfs⟩ := aopsD_chain hskip ho' (by simp [hk])
      refine ⟨fun i => if i = k then skipR else ρ i, st', ([], []) :: fs, ?_, by simpa using hQ, by simp [hl], ?_⟩
      · simp only [List.length_cons, List.range'_succ]
        refine .skip ho0 hg (by simp) ?_
        refine chain_congr hch (fun i hi => ?_)
        have := List.mem_range'.mp hi
        obtain ⟨q, _, rfl⟩ := this
        rw [if_neg (by omega)]
      · intro j hj
        cases j with
        | zero => simp [skipR, Res.foot]
        | succ j =>
          have := hfs j (by simpa using hj)
          simp only [List.getElem?_cons_succ, this]
          rw [if_neg (by omega)]
          simp [Nat.add_assoc, Nat.add_comm 1 j]

/-! Two neighbours that do not meet may change places. -/
theorem getD_set_ne' {xs : List AV} {i j : Nat} {v : AV} (h : i ≠ j) : (xs.set i v).getD j .any = xs.getD j .any := by
  simp only [List.getD_eq_getElem?_getD, List.getElem?_set_ne h]
theorem putτ_other {τ : List AV} {dst : Option Tmp} {v : AV} {t : Tmp} (h : ∀ d, dst = some d → d ≠ t) : (putτ τ dst v).getD t .any = τ.getD t .any := by
  cases dst with
  | none => rfl
  | some d => exact getD_set_ne' (h d rfl)
theorem applyUpd_other : ∀ {u : List (Nat × Option Reg)} {σ : Sto} {k : Nat}, k ∉ u.map (·.1) → (applyUpd σ u)[k]? = σ[k]?
  | [], _, _, _ => rfl
  | p :: u, σ, k, h => by
    simp only [List.map_cons, List.mem_cons, not_or] at h
    have : applyUpd σ (p :: u) = applyUpd (σ.set p.1 p.2) u := rfl
    rw [this, applyUpd_other h.2, List.getElem?_set_ne (fun e => h.1 e.symm)]
theorem applyUpd_set {u : List (Nat × Option Reg)} : ∀ {σ : Sto} {k : Nat} {r : Option Reg}, k ∉ u.map (·.1) → applyUpd (σ.set k r) u = (applyUpd σ u).set k r := by
  induction u with
  | nil => intro _ _ _ _; rfl
  | cons p u ih =>
    intro σ k r h
    simp only [List.map_cons, List.mem_cons, not_or] at h
    show applyUpd ((σ.set k r).set p.1 p.2) u = (applyUpd (σ.set p.1 p.2) u).set k r
    rw [List.set_comm _ _ h.1, ih h.2]
theorem applyUpd_comm {v : List (Nat × Option Reg)} : ∀ {u : List (Nat × Option Reg)} {σ : Sto}, (∀ k ∈ u.map (·.1), k ∉ v.map (·.1)) → applyUpd (applyUpd σ u) v = applyUpd (applyUpd σ v) u := by
  intro u
  induction u with
  | nil => intro _ _; rfl
  | cons p u ih =>
    intro σ h
    show applyUpd (applyUpd (σ.set p.1 p.2) u) v = applyUpd ((applyUpd σ v).set p.1 p.2) u
    rw [ih (fun k hk => h k (by simp at hk ⊢; exact .inr hk)), applyUpd_set (h p.1 (by simp))]

theorem footB_false {x y : Foot} (h : footB x y = false) : (∀ k ∈ x.2, k ∉ y.1 ∧ k ∉ y.2) ∧ (∀ k ∈ x.1, k ∉ y.2) := by
  unfold footB at h
  simp only [Bool.or_eq_false_iff, List.any_eq_false, Bool.or_eq_true, List.contains_iff_mem, not_or] at h
  exact h

theorem after_comm {x y : Oper} {rx ry : Res} {ops : Array Oper} (hap : x.apart ops y = true) (hf : footB rx.foot ry.foot = false) : (st.after x.dst rx).after y.dst ry = (st.after y.dst ry).after x.dst rx := by
  obtain ⟨h1, h2, h3⟩ := Oper.apart_spec hap
  obtain ⟨f1, f2⟩ := footB_false hf
  unfold St.after
  simp only [St.mk.injEq, and_true]
  refine ⟨?_, applyUpd_comm (fun k hk => (f1 k hk).2)⟩
  unfold putτ
  cases hx : x.dst with
  | none => cases y.dst <;> rfl
  | some d =>
    cases hy : y.dst with
    | none => rfl
    | some e => exact List.set_comm _ _ (fun e' => h2 d hx (by rw [hy, e']))

theorem looks_opnd {ops : Array Oper} {o : Oper} {dst : Option Tmp} {v : AV} {τ : List AV} (h : ∀ d, dst = some d → d ∉ o.looksAt ops) : ∀ x ∈ o.op.operands, opnd (putτ τ dst v) x = opnd τ x := by
  intro x hx
  cases x with
  | tmp t =>
    refine putτ_other (fun d hd e => h d hd ?_)
    subst e
    unfold Oper.looksAt
    refine List.mem_append_left _ ?_
    simp only [List.mem_filterMap]
    exact ⟨.tmp d, by simpa using hx, rfl⟩
  | const => rfl
  | global => rfl
  | func => rfl
theorem looks_gval {ops : Array Oper} {o : Oper} {dst : Option Tmp} {v : AV} {τ : List AV} (h : ∀ d, dst = some d → d ∉ o.looksAt ops) {j : Nat} {want : Bool} (hg : o.guard = some (j, want)) : gval ops (putτ τ dst v) j = gval ops τ j := by
  unfold gval
  cases hj : (ops[j]?).bind (·.dst) with
  | none => rfl
  | some d =>
    simp only
    rw [putτ_other (fun d' hd' e => h d' hd' ?_)]
    unfold Oper.looksAt
    refine List.mem_append_right _ ?_
    rw [hg]; simp [hj, e]

/-- What one link of the chain asks. -/
def Link (P : Program) (ops : Array Oper) (ρ : Nat → Res) (i : Nat) (o : Oper) (st : St) : Prop :=
  ops[i]? = some o ∧ (((o.guard = none ∨ ∃ j want b, o.guard = some (j, want) ∧ gval ops st.τ j = some b ∧ b = some want) ∧ Exec P st o (ρ i)) ∨ ((∃ j want b, o.guard = some (j, want) ∧ gval ops st.τ j = some b ∧ b ≠ some want) ∧ ρ i = skipR))
theorem chain_cons {ops : Array Oper} {ρ : Nat → Res} {i : Nat} {l : List Nat} {st st' : St} : Chain P ops ρ (i :: l) st st' ↔ ∃ o, Link P ops ρ i o st ∧ Chain P ops ρ l (st.after o.dst (ρ i)) st' := by
  constructor
  · intro h
    cases h with
    | run h1 h2 h3 h4 => exact ⟨_, ⟨h1, .inl ⟨h2, h3⟩⟩, h4⟩
    | skip h1 h2 h3 h4 => exact ⟨_, ⟨h1, .inr ⟨h2, h3⟩⟩, by rw [h3]; exact h4⟩
  · rintro ⟨o, ⟨h1, h2 | h2⟩, h3⟩
    · exact .run h1 h2.1 h2.2 h3
    · exact .skip h1 h2.1 h2.2 (by rw [← h2.2]; exact h3)
theorem Link.move {ops : Array Oper} {ρ : Nat → Res} {i : Nat} {o : Oper} {st : St} {dst : Option Tmp} {r : Res} (hl : ∀ d, dst = some d → d ∉ o.looksAt ops) (hm : ∀ k ∈ r.upd.map (·.1), k ∉ (ρ i).reads) : Link P ops ρ i o (st.after dst r) ↔ Link P ops ρ i o st := by
  have hg : ∀ j want, o.guard = some (j, want) → gval ops (st.after dst r).τ j = gval ops st.τ j := fun j want h => looks_gval hl h
  have ho := looks_opnd (τ := st.τ) (v := r.v) hl
  have hag : Agree st.σ (st.after dst r).σ (ρ i).reads := fun k hk => by
    simp only [St.after, List.getD_eq_getElem?_getD]
    rw [applyUpd_other (fun e => hm k e hk)]
  have hag' : Agree (st.after dst r).σ st.σ (ρ i).reads := fun k hk => (hag k hk).symm
  unfold Link
  refine and_congr_right fun _ => or_congr (and_congr (or_congr Iff.rfl ?_) ⟨fun h => h.local (fun x hx => (ho x hx).symm) hag' rfl, fun h => h.local ho hag rfl⟩) (and_congr ?_ Iff.rfl)
  · constructor <;> rintro ⟨j, want, b, h1, h2, h3⟩
    · exact ⟨j, want, b, h1, by rw [← hg j want h1]; exact h2, h3⟩
    · exact ⟨j, want, b, h1, by rw [hg j want h1]; exact h2, h3⟩
  · constructor <;> rintro ⟨j, want, b, h1, h2, h3⟩
    · exact ⟨j, want, b, h1, by rw [← hg j want h1]; exact h2, h3⟩
    · exact ⟨j, want, b, h1, by rw [hg j want h1]; exact h2, h3⟩

def Free (ops : Array Oper) (ρ : Nat → Res) (i j : Nat) : Prop := ∀ x y, ops[i]? = some x → ops[j]? = some y → x.apart ops y = true ∧ footB (ρ i).foot (ρ j).foot = false

theorem chain_front {ops : Array Oper} {ρ : Nat → Res} : ∀ {A : List Nat} {i : Nat} {B : List Nat} {st st' : St}, Chain P ops ρ (A ++ i :: B) st st' → (∀ j ∈ A, Free ops ρ j i) → Chain P ops ρ (i :: (A ++ B)) st st'
  | [], _, _, _, _, h, _ => h
  | j :: A, i, B, st, st', h, hf => by
    obtain ⟨x, hx, h1⟩ := chain_cons.mp h
    have h2 := chain_front h1 (fun k hk => hf k (by simp [hk]))
    obtain ⟨y, hy, h3⟩ := chain_cons.mp h2
    obtain ⟨hap, hfoot⟩ := hf j (by simp) x y hx.1 hy.1
    obtain ⟨a1, a2, a3⟩ := Oper.apart_spec hap
    obtain ⟨f1, f2⟩ := footB_false hfoot
    have hy' : Link P ops ρ i y st := (Link.move a1 (fun k hk => (f1 k hk).1)).mp hy
    have hx' : Link P ops ρ j x (st.after y.dst (ρ i)) := (Link.move a3 (fun k hk hk2 => f2 k hk2 hk)).mpr hx
    refine chain_cons.mpr ⟨y, hy', ?_⟩
    refine chain_cons.mpr ⟨x, hx', ?_⟩
    rw [← after_comm hap hfoot]; exact h3

theorem prec_listed {ops : Array Oper} {p : Nat → Prop} (hcl : ∀ j o e, p j → ops[j]? = some o → e ∈ o.after.toList → Region.binds .any e = true → p e.on) :
    ∀ {i j : Nat}, Prec ops.toList i j → (∀ o e, ops[j]? = some o → e ∈ o.after.toList → Region.binds .any e = true → p e.on) → p i := by
  intro i j h
  induction h with
  | edge h1 h2 h3 h4 => intro hj; subst h4; exact hj _ _ (by simpa using h1) h2 h3
  | step _ _ ih1 ih2 => intro hj; exact ih1 (fun o e h1 h2 h3 => hcl _ o e (ih2 hj) h1 h2 h3)

theorem ready_iff {ops : Array Oper} {listed : Array Bool} {i : Nat} : i ∈ Region.ready .any ops listed ↔ i < ops.size ∧ listed.getD i true = false ∧ ∃ o, ops[i]? = some o ∧ ∀ e ∈ o.after.toList, Region.binds .any e = true → listed.getD e.on false = true := by
  unfold Region.ready
  simp only [List.mem_filter, List.mem_range, Bool.and_eq_true, Bool.not_eq_true']
  constructor
  · rintro ⟨h1, h2, h3⟩
    refine ⟨h1, h2, ?_⟩
    cases ho : ops[i]? with
    | none => rw [ho] at h3; cases h3
    | some o =>
      rw [ho] at h3
      simp only [Option.map_some, Option.getD_some] at h3
      rw [← Array.all_toList] at h3
      refine ⟨o, rfl, fun e he hb => ?_⟩
      have := List.all_eq_true.mp h3 e he
      simpa [hb] using this
  · rintro ⟨h1, h2, o, ho, h3⟩
    refine ⟨h1, h2, ?_⟩
    rw [ho]
    simp only [Option.map_some, Option.getD_some]
    rw [← Array.all_toList]
    refine List.all_eq_true.mpr fun e he => ?_
    cases hb : Region.binds .any e
    · rfl
    · simpa using h3 e he hb

/-- What is not yet listed. -/
def todoL (n : Nat) (listed : Array Bool) : List Nat := (List.range n).filter fun i => !listed.getD i true
theorem todo_pairwise (n : Nat) (listed : Array Bool) : (todoL n listed).Pairwise (· < ·) := List.Pairwise.filter _ List.pairwise_lt_range
theorem todo_set {n : Nat} {listed : Array Bool} (hs : listed.size = n) {i : Nat} {A B : List Nat} (h : todoL n listed = A ++ i :: B) : todoL n (listed.setIfInBounds i true) = A ++ B := by
  have hpw := todo_pairwise n listed
  rw [h] at hpw
  have hA : ∀ j ∈ A, j ≠ i := fun j hj => Nat.ne_of_lt ((List.pairwise_append.mp hpw).2.2 j hj i (by simp))
  have hB : ∀ j ∈ B, j ≠ i := fun j hj => (Nat.ne_of_lt ((List.pairwise_cons.mp (List.pairwise_append.mp hpw).2.1).1 j hj)).symm
  have e : todoL n (listed.setIfInBounds i true) = (todoL n listed).filter (fun j => j != i) := by
    unfold todoL
    rw [List.filter_filter]
    apply List.filter_congr
    intro j hj
    have hj : j < n := by simpa using hj
    by_cases hji : j = i
    · subst hji
      simp [Array.getD_eq_getD_getElem?, hs, hj]
    · have : (listed.setIfInBounds i true).getD j true = listed.getD j true := by
        simp only [Array.getD_eq_getD_getElem?]
        rw [Array.getElem?_setIfInBounds_ne (fun e => hji e.symm)]
      rw [this]; simp [hji]
  rw [e, h, List.filter_append, List.filter_cons]
  simp only [bne_self_eq_false, Bool.false_eq_true, if_false]
  rw [List.filter_eq_self.mpr (fun j hj => by simpa using hA j hj), List.filter_eq_self.mpr (fun j hj => by simpa using hB j hj)]

theorem alloc_apart {l : List Oper} (h : (allocDsts l).Nodup) {i j : Nat} {x y : Oper} {d : Tmp} (hij : i ≠ j) (hi : l[i]? = some x) (hj : l[j]? = some y) (hx : allocB x.op = true) (hy : allocB y.op = true) (hdx : x.dst = some d) (hdy : y.dst = some d) : False := by
  have mem : ∀ {l : List Oper} {j : Nat} {y : Oper}, l[j]? = some y → allocB y.op = true → y.dst = some d → d ∈ allocDsts l := by
    intro l
    induction l with
    | nil => intro j y h; simp at h
    | cons o l ih =>
      intro j y h h1 h2
      simp only [allocDsts]
      cases j with
      | zero => simp at h; subst h; exact List.mem_append_left _ (by simp [h1, h2])
      | succ j => exact List.mem_append_right _ (ih (by simpa using h) h1 h2)
  induction l generalizing i j with
  | nil => simp at hi
  | cons o l ih =>
    simp only [allocDsts] at h
    obtain ⟨h1, h2, h3⟩ := List.nodup_append.mp h
    cases i with
    | zero =>
      cases j with
      | zero => exact hij rfl
      | succ j =>
        simp at hi; subst hi
        exact h3 d (by simp [hx, hdx]) d (mem (by simpa using hj) hy hdy) rfl
    | succ i =>
      cases j with
      | zero =>
        simp at hj; subst hj
        exact h3 d (by simp [hy, hdy]) d (mem (by simpa using hi) hx hdx) rfl
      | succ j => exact ih h2 (i := i) (j := j) (fun e => hij (congrArg (· + 1) e)) (by simpa using hi) (by simpa using hj)

theorem drawn_any {ops : Array Oper} {ρ : Nat → Res} {stE : St} {Q : Exit → Act → World → Prop} (hnd : (allocDsts ops.toList).Nodup)
    (hconf : ∀ i j, i < j → j < ops.size → Free ops ρ i j ∨ Prec ops.toList i j) (hback : ∀ j o e, ops[j]? = some o → e ∈ o.after.toList → Region.binds .any e = true → e.on < j)
    (hQ : ∀ β ok a w, StRel n0 ext β ok stE a w → (∀ t g, ok t g → g ≤ stE.gen) → Below n0 w0 w → Q .normal a w) :
    ∀ (fuel : Nat) (listed : Array Bool) (st : St) (β : Nat → Nat → Loc) (ok : Nat → Nat → Prop) (a : Act) (w : World), listed.size = ops.size → (todoL ops.size listed).length = fuel → Chain P ops ρ (todoL ops.size listed) st stE →
      (∀ j o e, listed.getD j false = true → ops[j]? = some o → e ∈ o.after.toList → Region.binds .any e = true → listed.getD e.on false = true) →
      StRel n0 ext β ok st a w → (∀ i ∈ todoL ops.size listed, ∀ o, ops[i]? = some o → allocB o.op = true → ∀ d, o.dst = some d → ¬ ok d st.gen) → (∀ t g, ok t g → g ≤ st.gen) → Below n0 w0 w →
      wpAny P .any ops Q fuel listed a w := by
  have getD_ft : ∀ (listed : Array Bool) (i : Nat), i < listed.size → listed.getD i false = listed.getD i true := by
    intro listed i hi; simp [Array.getD_eq_getD_getElem?, hi]
  have sub : ∀ (listed : Array Bool) (i : Nat), i ∈ Region.ready .any ops listed → i ∈ todoL ops.size listed := by
    intro listed i hi
    obtain ⟨h1, h2, _⟩ := ready_iff.mp hi
    simp only [todoL, List.mem_filter, List.mem_range, h2, Bool.not_false, and_true]; exact h1
  intro fuel
  induction fuel with
  | zero =>
    intro listed st β ok a w hs hl hch _ hr _ hg hb
    have h0 : todoL ops.size listed = [] := List.length_eq_zero_iff.mp hl
    rw [h0] at hch
    cases hch
    refine ⟨?_, hQ β ok a w hr hg hb⟩
    refine List.eq_nil_iff_forall_not_mem.mpr fun i hi => ?_
    have := sub listed i hi
    rw [h0] at this; cases this
  | succ fuel ih =>
    intro listed st β ok a w hs hl hch hcl hr hf hg hb
    refine ⟨fun hnil => ?_, fun i hi => ?_⟩
    · exfalso
      cases ht : todoL ops.size listed with
      | nil => rw [ht] at hl; simp at hl
      | cons i0 rest =>
        have hmem : i0 ∈ todoL ops.size listed := by rw [ht]; simp
        have h2 := hmem
        simp only [todoL, List.mem_filter, List.mem_range, Bool.not_eq_true'] at h2
        have hpw := todo_pairwise ops.size listed
        rw [ht] at hpw
        have hleast : ∀ j, j < i0 → listed.getD j false = true := by
          intro j hj
          cases hq : listed.getD j true with
          | true => rw [getD_ft _ _ (by omega)]; exact hq
          | false =>
            have : j ∈ todoL ops.size listed := by simp only [todoL, List.mem_filter, List.mem_range, hq, Bool.not_false, and_true]; omega
            rw [ht] at this
            rcases List.mem_cons.mp this with e | e
            · omega
            · have := (List.pairwise_cons.mp hpw).1 j e; omega
        have hlt : i0 < ops.size := h2.1
        have : i0 ∈ Region.ready .any ops listed := ready_iff.mpr ⟨h2.1, h2.2, ops[i0], by simp [hlt], fun e he hbn => hleast _ (hback i0 _ e (by simp [hlt]) he hbn)⟩
        rw [hnil] at this; cases this
    · have hmem := sub listed i hi
      obtain ⟨h1, h2, o, ho, h3⟩ := ready_iff.mp hi
      obtain ⟨A, B, hAB⟩ := List.append_of_mem hmem
      have hpw := todo_pairwise ops.size listed
      rw [hAB] at hpw hch
      have hA : ∀ j ∈ A, j < i := fun j hj => (List.pairwise_append.mp hpw).2.2 j hj i (by simp)
      have hfree : ∀ j ∈ A, Free ops ρ j i := by
        intro j hj
        rcases hconf j i (hA j hj) h1 with hfr | hpr
        · exact hfr
        · exfalso
          have hlj := prec_listed (p := fun j => listed.getD j false = true) (fun j o e => hcl j o e) hpr (fun o' e ho' he hbn => h3 e (by rw [ho] at ho'; cases ho'; exact he) hbn)
          have hjt : j ∈ todoL ops.size listed := by rw [hAB]; simp [hj]
          simp only [todoL, List.mem_filter, List.mem_range, Bool.not_eq_true'] at hjt
          rw [getD_ft _ _ (by rw [hs]; exact hjt.1), hjt.2] at hlj
          cases hlj
      obtain ⟨o', hlink, hrest⟩ := chain_cons.mp (chain_front hch hfree)
      have hoo : o' = o := by have := hlink.1; rw [ho] at this; cases this; rfl
      subst hoo
      have hset := todo_set hs hAB
      have hs' : (listed.setIfInBounds i true).size = ops.size := by simpa using hs
      have hl' : (todoL ops.size (listed.setIfInBounds i true)).length = fuel := by rw [hset]; rw [hAB] at hl; simp at hl ⊢; omega
      have hcl' : ∀ j o e, (listed.setIfInBounds i true).getD j false = true → ops[j]? = some o → e ∈ o.after.toList → Region.binds .any e = true → (listed.setIfInBounds i true).getD e.on false = true := by
        intro j oj e hj hoj he hbn
        have base : listed.getD e.on false = true := by
          by_cases hji : j = i
          · subst hji; rw [ho] at hoj; cases hoj; exact h3 e he hbn
          · refine hcl j oj e ?_ hoj he hbn
            rw [getD_set_ne false (fun e => hji e.symm)] at hj; exact hj
        exact getD_set_true base
      have hf' : ∀ (ok' : Nat → Nat → Prop), (∀ t g, ok' t g → ok t g ∨ (allocB o'.op = true ∧ o'.dst = some t ∧ g = st.gen)) → ∀ k ∈ todoL ops.size (listed.setIfInBounds i true), ∀ ok_, ops[k]? = some ok_ → allocB ok_.op = true → ∀ d, ok_.dst = some d → ¬ ok' d st.gen := by
        intro ok' hok' k hk y hy hal d hd hk'
        have hki : k ≠ i := by
          rintro rfl
          rw [hset] at hk
          rcases List.mem_append.mp hk with hk | hk
          · exact Nat.lt_irrefl _ (hA _ hk)
          · exact Nat.lt_irrefl _ ((List.pairwise_cons.mp (List.pairwise_append.mp hpw).2.1).1 _ hk)
        have hkt : k ∈ todoL ops.size listed := by
          rw [hset] at hk; rw [hAB]
          rcases List.mem_append.mp hk with hk | hk
          · simp [hk]
          · simp [hk]
        rcases hok' d _ hk' with h4 | ⟨h4, h5, _⟩
        · exact hf k hkt y hy hal d hd h4
        · exact alloc_apart hnd hki (by simpa using hy) (by simpa using ho) hal h4 hd h5
      unfold wpOp
      rw [ho]
      simp only
      rcases hlink.2 with ⟨hgate, hex⟩ | ⟨hgate, hsk⟩
      · have hw : Region.wanted o' (yielded ops a.tmps) = true := by
          unfold Region.wanted
          rcases hgate with hgd | ⟨j, want, b, hgd, hb1, hb2⟩
          · rw [hgd]
          · rw [hgd]; simp [gval_yielded hr hb1, hb2]
        rw [if_pos hw]
        refine .inl (hex.wp hr (fun hal d hd => hf i hmem o' ho hal d hd) (fun β' ok' a' w' k1 k2 k3 => ?_))
        refine ih _ _ β' ok' a' w' hs' hl' (by rw [hset]; exact hrest) hcl' k1 (hf' ok' k3) (fun t g hk => ?_) (hb.trans k2)
        rcases k3 t g hk with h4 | ⟨_, _, rfl⟩
        · exact hg t g h4
        · exact Nat.le_refl _
      · have hw : Region.wanted o' (yielded ops a.tmps) = false := by
          obtain ⟨j, want, b, hgd, hb1, hb2⟩ := hgate
          unfold Region.wanted
          rw [hgd]; simp [gval_yielded hr hb1, hb2]
        rw [if_neg (by simp [hw])]
        rw [hsk] at hrest
        have hstill := hr.still o'.dst (x := .tuple []) (v := undef) (.closed (.tuple .nil))
        exact ih _ _ β ok _ w hs' hl' (by rw [hset]; exact hrest) hcl' hstill (hf' ok (fun _ _ => .inl)) hg hb

theorem a_region_draw {id : Nat} {ops : Array Oper} {Q : Exit → St → Prop} {st : St} (hm : P.follows .mixedOrders = true) (hok : drawOk ops.toList = true)
    (h : aopsD P ops (fun acc st => confB ops.toList acc = true ∧ Q .normal st) ops.toList [] st) : ASpec P (.region id ops true) Q st := by
  intro n0 ext w0 a w ⟨β, ok, hr, hg⟩ hb
  simp only [drawOk, Bool.and_eq_true] at hok
  obtain ⟨⟨hal, hbk⟩, _⟩ := hok
  obtain ⟨ρ, stE, fs, hch, ⟨hc, hQ⟩, hfl, hfs⟩ := aopsD_chain (k := 0) h (by simp) rfl
  refine wp_region_any hm ?_
  have hnd : (allocDsts ops.toList).Nodup := of_decide_eq_true hal
  have htodo : todoL ops.size (Array.replicate ops.size false) = List.range ops.size := by
    unfold todoL
    refine List.filter_eq_self.mpr fun i hi => ?_
    have : i < ops.size := by simpa using hi
    simp [Array.getD_eq_getD_getElem?, this]
  have hgen : ∀ {l : List Nat} {s s' : St}, Chain P ops ρ l s s' → s'.gen = s.gen := by
    intro l s s' hcc
    induction hcc with
    | nil => rfl
    | run _ _ _ _ ih => exact ih
    | skip _ _ _ _ ih => exact ih
  have hback : ∀ j o e, ops[j]? = some o → e ∈ o.after.toList → Region.binds .any e = true → e.on < j := by
    intro j o e hj he hbn
    have h1 := List.all_eq_true.mp hbk (o, j) (by
      rw [List.mk_mem_zipIdx_iff_getElem?]; simpa using hj)
    have := List.all_eq_true.mp h1 e (by simp only [List.mem_filter]; exact ⟨he, hbn⟩)
    simpa using this
  refine drawn_any (w0 := w0) (n0 := n0) (ext := ext) (ρ := ρ) (stE := stE) hnd ?_ hback ?_ ops.size _ st β ok a _ (by simp) (by rw [htodo]; simp) ?_ ?_ hr.drew ?_ (fun t g hk => Nat.le_of_lt (hg t g hk)) ⟨hb.os, hb.tape, hb.output, hb.size, hb.block⟩
  · intro i j hij hj
    simp only [confB, List.all_eq_true, List.mem_range, Array.length_toList] at hc
    have := hc j hj i hij
    simp only [Bool.or_eq_true, List.contains_iff_mem] at this
    rcases this with this | this
    · left
      intro x y hx hy
      have hx' : ops.toList[i]? = some x := by simpa using hx
      have hy' : ops.toList[j]? = some y := by simpa using hy
      rw [hx', hy'] at this
      simp only [Bool.and_eq_true, Bool.not_eq_true', Array.toArray_toList] at this
      have f1 := hfs i (by simp; omega)
      have f2 := hfs j (by simp; omega)
      simp only [Nat.zero_add, List.reverse_nil, List.nil_append] at f1 f2 this
      rw [List.getD_eq_getElem?_getD, List.getD_eq_getElem?_getD, f1, f2] at this
      exact this
    · exact .inr (befs_prec this)
  · intro β' ok' a' w' k1 k2 k3
    exact ⟨_, hQ, ⟨β', ok', ⟨k1.temps, k1.regs, k1.dist, k1.extlt, k1.n0le, k1.defers⟩, fun t g hk => Nat.lt_succ_of_le (k2 t g hk)⟩, k3⟩
  · rw [htodo]
    simpa [List.range_eq_range'] using hch
  · intro j o e hj _ _ _
    exfalso
    simp only [Array.getD_eq_getD_getElem?, Array.getElem?_replicate] at hj
    split at hj <;> simp at hj
  · intro i _ o _ _ d _ hk
    exact Nat.lt_irrefl _ (hg _ _ hk)
end
end Go.Ab
