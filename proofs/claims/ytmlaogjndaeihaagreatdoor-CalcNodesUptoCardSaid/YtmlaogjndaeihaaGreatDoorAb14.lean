/- What an operation looks at: the rest may turn. -/
import Derived.Test.YtmlaogjndaeihaaGreatDoorAb13
namespace Go.Ab
open Go.RowKit

def Agree (σ σ' : Sto) (ks : List Nat) : Prop := ∀ k ∈ ks, σ'.getD k none = σ.getD k none
theorem Agree.left {σ σ' : Sto} {a b : List Nat} (h : Agree σ σ' (a ++ b)) : Agree σ σ' a := fun k hk => h k (List.mem_append_left _ hk)
theorem Agree.right {σ σ' : Sto} {a b : List Nat} (h : Agree σ σ' (a ++ b)) : Agree σ σ' b := fun k hk => h k (List.mem_append_right _ hk)

section
variable {P : Program} {σ σ' : Sto}
theorem lookBox_congr {k g : Nat} (h : σ'.getD k none = σ.getD k none) : lookBox σ' k g = lookBox σ k g := by unfold lookBox; rw [h]
theorem lookRow_congr {k g : Nat} (h : σ'.getD k none = σ.getD k none) : lookRow σ' k g = lookRow σ k g := by unfold lookRow; rw [h]
theorem lookMap_congr {k g : Nat} (h : σ'.getD k none = σ.getD k none) : lookMap σ' k g = lookMap σ k g := by unfold lookMap; rw [h]

theorem loadM_local {t : TypeId} {x : AV} {pre : Prop} {r : Res} (he : loadM P σ t x = some (pre, r)) (ha : Agree σ σ' r.reads) : loadM P σ' t x = some (pre, r) := by
  cases x <;> simp only [loadM] at he ⊢ <;> (try (cases he; done)) <;> (try exact he)
  all_goals
    split at he
    · rename_i hl
      split at he
      · rename_i hc
        simp only [Option.some.injEq, Prod.mk.injEq] at he
        obtain ⟨rfl, rfl⟩ := he
        have hk := ha _ (List.mem_cons_self ..)
        first | rw [lookBox_congr hk] | rw [lookRow_congr hk]
        simp only [hl]
        exact if_pos hc
      · cases he
    · cases he
theorem storeM_local {t : TypeId} {x p : AV} {pre : Prop} {r : Res} (he : storeM P σ t x p = some (pre, r)) (ha : Agree σ σ' r.reads) : storeM P σ' t x p = some (pre, r) := by
  cases p <;> simp only [storeM] at he ⊢ <;> (try (cases he; done))
  all_goals
    split at he
    · rename_i hl hx
      split at he
      · rename_i hc
        simp only [Option.some.injEq, Prod.mk.injEq] at he
        obtain ⟨rfl, rfl⟩ := he
        have hk := ha _ (List.mem_cons_self ..)
        first | rw [lookBox_congr hk] | rw [lookRow_congr hk]
        simp only [hl, hx]
        exact if_pos hc
      · cases he
    · cases he
theorem srcEls_local {x : AV} {els : List (List AV)} {ks : List Nat} (he : srcEls σ x = some (els, ks)) (ha : Agree σ σ' ks) : srcEls σ' x = some (els, ks) := by
  cases x <;> simp only [srcEls] at he ⊢ <;> (try (cases he; done)) <;> (try exact he)
  split at he
  · rename_i h
    simp only [Option.some.injEq, Prod.mk.injEq] at he
    obtain ⟨rfl, rfl⟩ := he
    have hk := ha _ (List.mem_cons_self ..)
    rw [lookRow_congr hk, h]
  · cases he
theorem appendM_local {gen d : Nat} {e : TypeId} {s x : AV} {pre : Prop} {r : Res} (he : appendM P σ gen d e s x = some (pre, r)) (ha : Agree σ σ' r.reads) : appendM P σ' gen d e s x = some (pre, r) := by
  unfold appendM at he ⊢
  split at he
  · rename_i els2 ks hs
    split at he
    · rename_i hc
      simp only [Option.some.injEq, Prod.mk.injEq] at he
      obtain ⟨rfl, rfl⟩ := he
      rw [srcEls_local hs ha]
      simp only [hc, and_self, if_true]
    · cases he
  · rename_i els2 ks k g hs
    split at he
    · rename_i es els hl
      split at he
      · rename_i hc
        simp only [Option.some.injEq, Prod.mk.injEq] at he
        obtain ⟨rfl, rfl⟩ := he
        have hk := ha _ (List.mem_cons_self ..)
        rw [srcEls_local hs (fun q hq => ha q (List.mem_cons_of_mem _ hq))]
        simp only [lookRow_congr hk, hl, hc, and_self, if_true]
      · cases he
    · cases he
  · cases he

theorem memOp_local {ρ : Operand → AV} {gen : Nat} {dst : Option Tmp} {op : Op} {pre : Prop} {r : Res} (he : memOp P ρ σ gen dst op = some (pre, r)) (ha : Agree σ σ' r.reads) : memOp P ρ σ' gen dst op = some (pre, r) := by
  unfold memOp at he ⊢
  split at he
  · exact loadM_local he ha
  · exact storeM_local he ha
  · exact he
  · exact he
  · exact he
  · exact he
  · split at he
    · split at he
      · split at he
        · rename_i hl _ hc
          simp only [Option.some.injEq, Prod.mk.injEq] at he
          obtain ⟨rfl, rfl⟩ := he
          have hk := ha _ (List.mem_cons_self ..)
          simp only [*, lookRow_congr hk, if_true, and_self]
        · cases he
      · cases he
    · cases he
  · split at he
    · split at he
      · have hap := appendM_local he ha
        clear he
        simp only [*]
      · cases he
    · split at he
      · split at he
        · simp only [Option.some.injEq, Prod.mk.injEq] at he
          obtain ⟨rfl, rfl⟩ := he
          have hk := ha _ (List.mem_cons_self ..)
          simp only [*, lookRow_congr hk]
        · cases he
      · cases he
    · cases he
  · exact he
  · split at he
    · split at he
      · split at he
        · simp only [Option.some.injEq, Prod.mk.injEq] at he
          obtain ⟨rfl, rfl⟩ := he
          have hk := ha _ (List.mem_cons_self ..)
          simp only [*, lookMap_congr hk, if_true]
        · cases he
      · cases he
    · cases he
  · split at he
    · split at he
      · split at he
        · simp only [Option.some.injEq, Prod.mk.injEq] at he
          obtain ⟨rfl, rfl⟩ := he
          have hk := ha _ (List.mem_cons_self ..)
          simp only [*, lookMap_congr hk]
        · cases he
      · cases he
    · cases he
  · cases he

theorem closeL_local {f f' : AV → Option (AV × List Nat)} (hf : ∀ x y ks, f x = some (y, ks) → Agree σ σ' ks → f' x = some (y, ks)) : ∀ {xs ys : List AV} {ks : List Nat}, closeL f xs = some (ys, ks) → Agree σ σ' ks → closeL f' xs = some (ys, ks)
  | [], _, _, h, _ => h
  | x :: xs, ys, ks, h, ha => by
    simp only [closeL] at h ⊢
    split at h
    · rename_i y k1 ys' k2 e1 e2
      simp only [Option.some.injEq, Prod.mk.injEq] at h
      obtain ⟨rfl, rfl⟩ := h
      rw [hf _ _ _ e1 ha.left, closeL_local hf e2 ha.right]
    · cases h
theorem closeV_local : ∀ (n : Nat) (x y : AV) (ks : List Nat), closeV σ n x = some (y, ks) → Agree σ σ' ks → closeV σ' n x = some (y, ks) := by
  intro n
  induction n with
  | zero =>
    intro x y ks he ha
    cases x <;> simp only [closeV] at he ⊢ <;> (try (cases he; done)) <;> (try exact he)
    · split at he
      · rename_i h
        simp only [Option.some.injEq, Prod.mk.injEq] at he
        obtain ⟨rfl, rfl⟩ := he
        rw [lookRow_congr (ha _ (List.mem_cons_self ..)), h]
      · cases he
    · split at he
      · split at he
        · rename_i h hc
          simp only [Option.some.injEq, Prod.mk.injEq] at he
          obtain ⟨rfl, rfl⟩ := he
          rw [lookRow_congr (ha _ (List.mem_cons_self ..)), h]
          simp only [hc, and_self, if_true]
        · cases he
      · cases he
  | succ n ih =>
    intro x y ks he ha
    cases x <;> simp only [closeV] at he ⊢ <;> (try (cases he; done)) <;> (try exact he)
    · split at he
      · rename_i h
        simp only [Option.some.injEq, Prod.mk.injEq] at he
        obtain ⟨rfl, rfl⟩ := he
        rw [closeL_local (fun x y ks => ih x y ks) h ha]
      · cases he
    · split at he
      · rename_i h
        simp only [Option.some.injEq, Prod.mk.injEq] at he
        obtain ⟨rfl, rfl⟩ := he
        rw [closeL_local (fun x y ks => ih x y ks) h ha]
      · cases he
    · split at he
      · rename_i h
        simp only [Option.some.injEq, Prod.mk.injEq] at he
        obtain ⟨rfl, rfl⟩ := he
        rw [closeL_local (fun x y ks => ih x y ks) h ha]
      · cases he
    · split at he
      · rename_i h
        simp only [Option.some.injEq, Prod.mk.injEq] at he
        obtain ⟨rfl, rfl⟩ := he
        rw [lookRow_congr (ha _ (List.mem_cons_self ..)), h]
      · cases he
    · split at he
      · split at he
        · have h := ‹lookBox σ _ _ = some _›
          have h2 := ‹closeL _ _ = some _›
          simp only [Option.some.injEq, Prod.mk.injEq] at he
          obtain ⟨rfl, rfl⟩ := he
          rw [lookBox_congr (ha _ (List.mem_cons_self ..)), h]
          simp only [closeL_local (fun x y ks => ih x y ks) h2 (fun q hq => ha q (List.mem_cons_of_mem _ hq))]
        · cases he
      · cases he
    · split at he
      · split at he
        · rename_i h hc
          simp only [Option.some.injEq, Prod.mk.injEq] at he
          obtain ⟨rfl, rfl⟩ := he
          rw [lookRow_congr (ha _ (List.mem_cons_self ..)), h]
          simp only [hc, and_self, if_true]
        · cases he
      · cases he

theorem pureOp_congr {ρ ρ' : Operand → AV} {op : Op} (h : ∀ x ∈ op.operands, ρ' x = ρ x) : pureOp P ρ' op = pureOp P ρ op := by
  cases op <;> simp only [pureOp] <;> simp only [Op.operands] at h
  case build t parts =>
    have : (parts.toList.map fun p => (p.1, ρ' p.2)) = parts.toList.map fun p => (p.1, ρ p.2) := List.map_congr_left fun p hp => by rw [h p.2 (by simp; exact ⟨p.1, by simpa using hp⟩)]
    rw [this]
  case makeFunc fn first captured =>
    have : captured.toList.map ρ' = captured.toList.map ρ := List.map_congr_left fun p hp => h p (by simp at hp ⊢; exact .inr hp)
    rw [this]
  case call c =>
    have ha : ∀ x ∈ c.args.toList, ρ' x = ρ x := fun x hx => h x (by simp [Call.operands] at hx ⊢; exact .inr hx)
    split
    · split
      · rename_i x t e1 e2; rw [ha x (by simp [e1])]
      · rfl
    · split
      · rename_i x xs e1
        rw [ha x (by simp [e1]), List.map_congr_left fun y hy => ha y (by simp [e1, hy])]
      · rfl
    · split
      · rename_i x xs e1
        rw [ha x (by simp [e1]), List.map_congr_left fun y hy => ha y (by simp [e1, hy])]
      · rfl
    · rfl
  case slice t x lo hi mx =>
    cases mx with
    | none =>
      show sliceA P t (ρ' x) (lo.map ρ') (hi.map ρ') = sliceA P t (ρ x) (lo.map ρ) (hi.map ρ)
      have h1 : ρ' x = ρ x := h x (by simp)
      have h2 : lo.map ρ' = lo.map ρ := by cases lo with | none => rfl | some y => simp [h y (by simp)]
      have h3 : hi.map ρ' = hi.map ρ := by cases hi with | none => rfl | some y => simp [h y (by simp)]
      rw [h1, h2, h3]
    | some _ => rfl
  case pick c a b => rw [h c (by simp), h a (by simp), h b (by simp)]
  case binOp op t x y _ => rw [h x (by simp), h y (by simp)]
  case indexAddr t x i => rw [h x (by simp), h i (by simp)]
  case index t x i => rw [h x (by simp), h i (by simp)]
  all_goals first | rfl | (rename_i x; rw [h x (by simp)]) | (rename_i x _; rw [h x (by simp)]) | (rename_i _ x; rw [h x (by simp)]) | (rename_i _ x _; rw [h x (by simp)])

theorem memOp_congr {ρ ρ' : Operand → AV} {gen : Nat} {dst : Option Tmp} {op : Op} (h : ∀ x ∈ op.operands, ρ' x = ρ x) : memOp P ρ' σ gen dst op = memOp P ρ σ gen dst op := by
  cases op <;> simp only [Op.operands] at h <;> cases dst <;> simp only [memOp] <;> (try rfl)
  case load.none t x => rw [h x (by simp)]
  case load.some t x d => rw [h x (by simp)]
  case store.none t x y => rw [h x (by simp), h y (by simp)]
  case store.some t x y d => rw [h x (by simp), h y (by simp)]
  case box.some t x d => rw [h x (by simp)]
  case makeSlice.some t l c d => rw [h l (by simp), h c (by simp)]
  case buildSlice.some t n ps d =>
    have hb : ∀ es k, buildEls ρ' es k ps.toList = buildEls ρ es k ps.toList := fun es k => buildEls_congr (fun p hp => h p.2 (by simp; exact ⟨p.1, by simpa using hp⟩))
    simp only [hb]
  case indexAddr.some t x i d => rw [h x (by simp), h i (by simp)]
  case makeMap.some t r d =>
    cases r with
    | none => cases (ti P t).d <;> rfl
    | some x =>
      have hx := h x (by simp)
      cases (ti P t).d <;> first | rfl | (show (match ρ' x with | .int _ _ => _ | _ => none) = (match ρ x with | .int _ _ => _ | _ => none); rw [hx])
  case insert.none t m k x => rw [h m (by simp), h k (by simp), h x (by simp)]
  case insert.some t m k x d => rw [h m (by simp), h k (by simp), h x (by simp)]
  case lookup.none t m k c => rw [h m (by simp), h k (by simp)]
  case lookup.some t m k c d => rw [h m (by simp), h k (by simp)]
  case call.some c d =>
    have ha : ∀ x ∈ c.args.toList, ρ' x = ρ x := fun x hx => h x (by simp [Call.operands] at hx ⊢; exact .inr hx)
    split
    · rename_i s x ts tx _ e1 _; rw [ha s (by simp [e1]), ha x (by simp [e1])]
    · rename_i x t _ e1 _; rw [ha x (by simp [e1])]
    · rfl
theorem callOf_congr {ρ ρ' : Operand → AV} {op : Op} (h : ∀ x ∈ op.operands, ρ' x = ρ x) : callOf ρ' op = callOf ρ op := by
  cases op <;> simp only [callOf]
  rename_i c
  have ha : c.args.toList.map ρ' = c.args.toList.map ρ := List.map_congr_left fun x hx => h x (by simp [Op.operands, Call.operands] at hx ⊢; exact .inr hx)
  rw [ha]
  split
  · rename_i f hf; rw [h f (by simp [Op.operands, Call.operands, hf])]
  · rfl

theorem buildEls_any {ρ : Operand → AV} {es : Nat} : ∀ {ps : List (Nat × Operand)} {k : Nat} {els : List (List AV)}, buildEls ρ es k ps = some els → ∀ p ∈ ps, ρ p.2 ≠ .any
  | [], _, _, _, p, hp => by simp at hp
  | (j, x) :: ps, k, els, h, p, hp => by
    simp only [buildEls] at h
    split at h
    · rename_i xs l hc hr
      split at h
      · rename_i hcond
        rcases List.mem_cons.1 hp with rfl | hp
        · intro e
          simp only at e
          rw [e] at hc
          simp only [cellsA] at hc
          have h3 := hcond.2.2
          first
            | (rw [← hc] at h3; simp [closedB] at h3; done)
            | (cases hc; done)
        · exact buildEls_any hr p hp
      · cases h
    · cases h
theorem closeO_local {x : AV} (hx : closeO σ x ≠ .any) (ha : Agree σ σ' (closeK σ x)) : closeO σ' x = closeO σ x ∧ closeK σ' x = closeK σ x := by
  unfold closeO closeK at *
  cases hc : closeV σ 4 x with
  | none => rw [hc] at hx; exact absurd rfl hx
  | some y =>
    obtain ⟨y, ks⟩ := y
    rw [hc] at ha
    rw [closeV_local 4 x y ks hc ha]
    exact ⟨rfl, rfl⟩
theorem litA_local {ρ ρ' : Operand → AV} {gen : Nat} {dst : Option Tmp} {op : Op} {r : Res} (h : litA P ρ σ gen dst op = some r) (ho : ∀ x ∈ op.operands, ρ' x = ρ x) (ha : Agree σ σ' r.reads) : litA P ρ' σ' gen dst op = some r := by
  unfold litA at h ⊢
  split at h
  · rename_i d t len parts
    split at h
    · rename_i e ht
      split at h
      · rename_i els z hb hz
        split at h
        · rename_i hc
          simp only [Option.some.injEq] at h
          subst h
          have hm : ∀ p ∈ parts.toList, ρ' p.2 = ρ p.2 := fun p hp => ho p.2 (by simp [Op.operands]; exact ⟨p.1, by simpa using hp⟩)
          have hl : ∀ p ∈ parts.toList, closeO σ' (ρ p.2) = closeO σ (ρ p.2) ∧ closeK σ' (ρ p.2) = closeK σ (ρ p.2) := fun p hp =>
            closeO_local (buildEls_any hb p hp) (fun k hk => ha k (List.mem_flatMap.2 ⟨p, hp, hk⟩))
          have e1 : buildEls (fun x => closeO σ' (ρ' x)) (ti P e).size 0 parts.toList = some els := by
            rw [buildEls_congr (ρ := fun x => closeO σ (ρ x)) (fun p hp => by rw [hm p hp]; exact (hl p hp).1)]; exact hb
          have e2 : (parts.toList.flatMap fun p => closeK σ' (ρ' p.2)) = parts.toList.flatMap fun p => closeK σ (ρ p.2) := by
            rw [List.flatMap_def, List.flatMap_def]
            congr 1
            exact List.map_congr_left (fun p hp => by rw [hm p hp]; exact (hl p hp).2)
          simp only [e1, hz, if_pos hc, e2]
        · cases h
      · cases h
    · cases h
  · cases h

theorem Exec.local {st st' : St} {o : Oper} {r : Res} (h : Exec P st o r) (ho : ∀ x ∈ o.op.operands, opnd st'.τ x = opnd st.τ x) (ha : Agree st.σ st'.σ r.reads) (hg : st'.gen = st.gen) : Exec P st' o r := by
  cases h with
  | pure hp hpre => exact .pure (by rw [pureOp_congr ho]; exact hp) hpre
  | mem hm hpre => exact .mem (by rw [memOp_congr ho, hg]; exact memOp_local hm ha) hpre
  | call hc hcl hA => exact .call (by rw [callOf_congr ho]; exact hc) (closeL_local (fun x y ks => closeV_local 4 x y ks) hcl ha) hA
  | lit hl => exact .lit (by rw [hg]; exact litA_local hl ho ha)
end
end Go.Ab
