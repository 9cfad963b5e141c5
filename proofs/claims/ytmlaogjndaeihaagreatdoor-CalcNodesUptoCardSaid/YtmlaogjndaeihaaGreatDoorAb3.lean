/- Every operation without memory, in one theorem. -/
import Derived.Test.YtmlaogjndaeihaaGreatDoorAb2
namespace Go.Ab
section
variable {P : Program} {w : World} {own : Nat → Prop} {β : Nat → Nat → Loc} {ok : Nat → Nat → Prop}

theorem foldA_max : ∀ {xs : List AV} {x r : AV} {vx : Value} {vs : List Value}, foldA maxA x xs = some r → RepV w own β ok x vx → RepVL w own β ok xs vs → ∃ v, (vs.foldlM Builtin.max2 vx).run P w = .ok v w ∧ RepV w own β ok r v
  | [], x, r, vx, vs, h, hx, hv => by cases hv; simp only [foldA, Option.some.injEq] at h; subst h; exact ⟨vx, rfl, hx⟩
  | y :: ys, x, r, vx, vs, h, hx, hv => by
    cases hv with
    | @cons _ vy _ vs hy hys =>
      simp only [foldA] at h
      split at h
      · rename_i z hz
        unfold maxA at hz
        split at hz
        · cases hz
          obtain rfl := hx.int_open; obtain rfl := hy.int_open
          obtain ⟨v, hv, hr⟩ := foldA_max h (.closed (.int _ _)) hys
          refine ⟨v, ?_, hr⟩
          simp only [List.foldlM_cons, Sem.run_bind, Builtin.max2, Sem.run_pure, Result.andThen_ok]
          exact hv
        · cases hz
      · cases h
theorem foldA_min : ∀ {xs : List AV} {x r : AV} {vx : Value} {vs : List Value}, foldA minA x xs = some r → RepV w own β ok x vx → RepVL w own β ok xs vs → ∃ v, (vs.foldlM Builtin.min2 vx).run P w = .ok v w ∧ RepV w own β ok r v
  | [], x, r, vx, vs, h, hx, hv => by cases hv; simp only [foldA, Option.some.injEq] at h; subst h; exact ⟨vx, rfl, hx⟩
  | y :: ys, x, r, vx, vs, h, hx, hv => by
    cases hv with
    | @cons _ vy _ vs hy hys =>
      simp only [foldA] at h
      split at h
      · rename_i z hz
        unfold minA at hz
        split at hz
        · cases hz
          obtain rfl := hx.int_open; obtain rfl := hy.int_open
          obtain ⟨v, hv, hr⟩ := foldA_min h (.closed (.int _ _)) hys
          refine ⟨v, ?_, hr⟩
          simp only [List.foldlM_cons, Sem.run_bind, Builtin.min2, Sem.run_pure, Result.andThen_ok]
          exact hv
        · cases hz
      · cases h

def RepO (w : World) (own : Nat → Prop) (β : Nat → Nat → Loc) (ok : Nat → Nat → Prop) : Option AV → Option Value → Prop
  | none, none => True
  | some x, some v => RepV w own β ok x v
  | _, _ => False

theorem lo_open {lo : Option AV} {lov : Option Value} {l : Int} (hl : loA lo = some l) (rl : RepO w own β ok lo lov) : (lov = none ∧ l = 0) ∨ ∃ k, lov = some (.int k l) := by
  cases lo with
  | none => cases lov with
    | none => simp only [loA, Option.some.injEq] at hl; exact .inl ⟨rfl, hl.symm⟩
    | some v => simp [RepO] at rl
  | some x => cases lov with
    | none => simp [RepO] at rl
    | some v =>
      simp only [RepO] at rl
      cases x <;> simp [loA] at hl
      subst hl
      exact .inr ⟨_, by rw [rl.int_open]⟩
theorem hi_open {len : Nat} {hi : Option AV} {hiv : Option Value} {h : Int} (hl : hiA len hi = some h) (rl : RepO w own β ok hi hiv) : (hiv = none ∧ h = len) ∨ ∃ k, hiv = some (.int k h) := by
  cases hi with
  | none => cases hiv with
    | none => simp only [hiA, Option.some.injEq] at hl; exact .inl ⟨rfl, hl.symm⟩
    | some v => simp [RepO] at rl
  | some x => cases hiv with
    | none => simp [RepO] at rl
    | some v =>
      simp only [RepO] at rl
      cases x <;> simp [hiA] at hl
      subst hl
      exact .inr ⟨_, by rw [rl.int_open]⟩

theorem bounds_sound {b : Bool} {len cap : Nat} {lo hi : Option AV} {lov hiv : Option Value} {l h : Int} (hl : loA lo = some l) (hh : hiA len hi = some h) (rl : RepO w own β ok lo lov) (rh : RepO w own β ok hi hiv)
    (h0 : 0 ≤ l) (h1 : l ≤ h) (h2 : h ≤ len) (h3 : len ≤ cap) : (Instr.sliceBounds b len cap lov hiv none).run P w = .ok (l.toNat, h.toNat, cap) w := by
  rcases hi_open hh rh with ⟨rfl, rfl⟩ | ⟨kh, rfl⟩ <;> rcases lo_open hl rl with ⟨rfl, rfl⟩ | ⟨kl, rfl⟩
  · simp [Instr.sliceBounds]
  · have e := run_sliceBound (P := P) (w := w) kl l len (if (none : Option Value).isSome then .slice3C else .sliceB) h0 h1
    simp only [Instr.sliceBounds, Sem.run_bind, Sem.run_pure, Result.andThen_ok, e]
    simp
  · have e := run_sliceBound (P := P) (w := w) kh h cap (if b then .sliceAcap else .sliceAlen) h1 (by omega)
    simp only [Instr.sliceBounds, Sem.run_bind, Sem.run_pure, Result.andThen_ok, e]
    simp
  · have e := run_sliceBound (P := P) (w := w) kh h cap (if b then .sliceAcap else .sliceAlen) (by omega) (by omega)
    have e2 := run_sliceBound (P := P) (w := w) kl l h.toNat (if (none : Option Value).isSome then .slice3C else .sliceB) h0 (by omega)
    simp only [Instr.sliceBounds, Sem.run_bind, Sem.run_pure, Result.andThen_ok, e, e2]

theorem sliceA_sound {t : TypeId} {x r : AV} {pre : Prop} {vx : Value} {lo hi : Option AV} {lov hiv : Option Value} (h : sliceA P t x lo hi = some (pre, r)) (hp : pre) (hx : RepV w own β ok x vx)
    (rl : RepO w own β ok lo lov) (rh : RepO w own β ok hi hiv) : ∃ v, (Instr.sliceAt t vx lov hiv none).run P w = .ok v w ∧ RepV w own β ok r v := by
  unfold sliceA at h
  split at h
  · rename_i s hd
    split at h
    · rename_i l hh hl hh2
      simp only [Option.some.injEq, Prod.mk.injEq] at h; obtain ⟨rfl, rfl⟩ := h
      obtain rfl := hx.str_open
      refine ⟨_, ?_, .closed (.str _)⟩
      rw [run_sliceAt_string (h := ti_str hd)]
      simp only [Instr.slice, Sem.run_bind, run_underlying (ti_str hd), Result.andThen_ok, Option.isSome_none, Bool.false_eq_true, if_false]
      rw [bounds_sound hl hh2 rl rh hp.1 hp.2.1 hp.2.2 (Nat.le_refl _)]; rfl
    · cases h
  · rename_i e els hd
    split at h
    · cases h
    · rename_i l hh hl hh2 hne
      simp only [Option.some.injEq, Prod.mk.injEq] at h; obtain ⟨rfl, rfl⟩ := h
      obtain ⟨h0, h1, h2, h3⟩ := hp
      obtain ⟨inf, hinf, hsz, _, _⟩ := ti_info (P := P) (t := e) (fun e0 => hne e0)
      have hu := ti_slice hd
      have run : ∀ (a : Option Addr) (len cap : Nat), len = els.length → len ≤ cap → (Instr.sliceAt t (.slice a len cap) lov hiv none).run P w =
          .ok (.slice (if cap = l.toNat then a else a.map (·.add (l.toNat * (ti P e).size))) (hh.toNat - l.toNat) (cap - l.toNat)) w := by
        intro a len cap e1 hc
        subst e1
        simp only [Instr.sliceAt, Sem.run_bind, run_underlying hu, Result.andThen_ok, Instr.slice]
        rw [bounds_sound hl hh2 rl rh h0 h1 h2 hc]
        simp only [Result.andThen_ok, run_sizeOf hinf, Sem.run_pure, hsz]
      have hlen : ((els.take hh.toNat).drop l.toNat).length = hh.toNat - l.toNat := by simp; omega
      cases hx.slice_open with
      | slice0 =>
        refine ⟨_, run _ _ _ rfl (Nat.le_refl _), ?_⟩
        simp at h2
        have : l.toNat = 0 := by omega
        have hh0 : hh.toNat = 0 := by omega
        simp [this, hh0]
        exact .closed .slice0
      | @slice _ es cap a vs k1 k2 k3 k4 =>
        refine ⟨_, run _ _ _ rfl k4, ?_⟩
        have hes : els ≠ [] → es = (ti P e).size := by
          intro hne
          obtain ⟨y, ys, rfl⟩ := List.exists_cons_of_ne_nil hne
          rw [← k1 y (by simp), h3 y (by simp)]
        have main : RepCL w own ((els.take hh.toNat).drop l.toNat).flatten ((vs.take (hh.toNat * es)).drop (l.toNat * es)) := by
          rw [flatten_take_drop k1]; exact (k2.take _).drop _
        have hmem : ∀ y ∈ (els.take hh.toNat).drop l.toNat, y.length = es := fun y hy => k1 y (List.mem_of_mem_take (List.mem_of_mem_drop hy))
        rw [← hlen]
        by_cases hc : cap = l.toNat
        · rw [if_pos hc]
          have : (els.take hh.toNat).drop l.toNat = [] := List.length_eq_zero_iff.mp (by rw [hlen]; omega)
          have hvs : (vs.take (hh.toNat * es)).drop (l.toNat * es) = [] := by
            have := main.length; rw [‹(els.take hh.toNat).drop l.toNat = []›] at this; exact List.length_eq_zero_iff.mp (by simpa using this.symm)
          refine .closed (.slice (es := es) (vs := []) hmem (by rw [this]; exact .nil) ⟨fun h => absurd rfl h, fun j v hj => by simp at hj⟩ (by rw [this]; simp))
        · rw [if_neg hc]
          simp only [Option.map_some]
          by_cases he : els = []
          · subst he
            simp at h2
            have : l.toNat = 0 := by omega
            refine .closed (.slice (es := es) (vs := []) hmem (by simpa using RepCL.nil) ⟨fun h => absurd rfl h, fun j v hj => by simp at hj⟩ (by simp))
          · rw [← hes he]
            exact .closed (.slice hmem main ((k3.take _).drop _) (by rw [hlen]; omega))
    · cases h
  · cases h

theorem Both.map_operands {ρA : Operand → AV} {ρ : Operand → Value} (hρ : ∀ x, RepV w own β ok (ρA x) (ρ x)) (ps : List (Nat × Operand)) :
    Both (fun (a : Nat × AV) (b : Nat × Value) => a.1 = b.1 ∧ RepV w own β ok a.2 b.2) (ps.map fun p => (p.1, ρA p.2)) (ps.map fun p => (p.1, ρ p.2)) := by
  induction ps with
  | nil => exact .nil
  | cons p ps ih => exact .cons ⟨rfl, hρ _⟩ ih
theorem RepVL.map {ρA : Operand → AV} {ρ : Operand → Value} (hρ : ∀ x, RepV w own β ok (ρA x) (ρ x)) (ps : List Operand) : RepVL w own β ok (ps.map ρA) (ps.map ρ) := by
  induction ps with
  | nil => exact .nil
  | cons p ps ih => exact .cons (hρ _) ih
theorem RepO.map {ρA : Operand → AV} {ρ : Operand → Value} (hρ : ∀ x, RepV w own β ok (ρA x) (ρ x)) (o : Option Operand) : RepO w own β ok (o.map ρA) (o.map ρ) := by
  cases o with
  | none => trivial
  | some x => exact hρ x

theorem places_eq {fs : Array Field} {l : List (Nat × Nat × Bool)} (h : fs.toList.mapM (fieldOf P) = some l) :
    fs.toList.mapM (fun f => (P.info? f.type).map fun i => (f.offset, i.size)) = some (l.map fun x => (x.1, x.2.1)) := by
  have : ∀ (xs : List Field) (l : List (Nat × Nat × Bool)), xs.mapM (fieldOf P) = some l → xs.mapM (fun f => (P.info? f.type).map fun i => (f.offset, i.size)) = some (l.map fun x => (x.1, x.2.1)) := by
    intro xs
    induction xs with
    | nil => intro l h; simp at h; subst h; simp
    | cons x xs ih =>
      intro l h
      simp only [List.mapM_cons, Option.bind_eq_bind, Option.bind_eq_some_iff, Option.pure_def, Option.some.injEq] at h
      obtain ⟨b, hb, bs, hbs, rfl⟩ := h
      have ih' := ih _ hbs
      unfold fieldOf at hb
      split at hb
      · rename_i i d hi hd
        cases hb
        simp [List.mapM_cons, hi, ih']
      · cases hb
  exact this _ _ h

theorem build_sound {t : TypeId} {parts : Array (Nat × Operand)} {ρA : Operand → AV} {ρ : Operand → Value} (hρ : ∀ x, RepV w own β ok (ρA x) (ρ x)) {pre : Prop} {r : AV}
    (h : pureOp P ρA (.build t parts) = some (pre, r)) : ∃ v, (Instr.build t (parts.map fun (i, x) => (i, ρ x))).run P w = .ok v w ∧ RepV w own β ok r v := by
  simp only [pureOp] at h
  have hp := Both.map_operands hρ parts.toList
  have el : (parts.map fun (x : Nat × Operand) => (x.1, ρ x.2)).toList = parts.toList.map fun p => (p.1, ρ p.2) := by simp
  split at h
  · rename_i fs z hd hz
    obtain ⟨inf, hinf, hsz, _, hzero⟩ := ti_info (P := P) (t := t) (by rw [hd]; simp)
    rw [hz] at hzero
    obtain ⟨zv, hzv, rfl⟩ : ∃ zv, inf.zero = some zv ∧ z = zv.cells.toList.map leaf := by
      cases hq : inf.zero with
      | none => rw [hq] at hzero; cases hzero
      | some zv => rw [hq] at hzero; simp at hzero; exact ⟨zv, rfl, hzero⟩
    cases hf : fillA (placeS fs) (zv.cells.toList.map leaf) (parts.toList.map fun p => (p.1, ρA p.2)) with
    | none => rw [hf] at h; cases h
    | some cs =>
      rw [hf] at h
      simp only [Option.map_some, Option.some.injEq, Prod.mk.injEq] at h
      obtain ⟨_, rfl⟩ := h
      obtain ⟨out, ho, hr⟩ := fillA_sound hf (leafs_repV _) hp
      obtain ⟨fl, hu, hm⟩ := ti_struct hd
      refine ⟨.agg out, run_build w t _ out ?_, by have := RepV.agg hr; simpa using this⟩
      rw [el]
      simp only [Program.built, hinf, hu, hzv, places_eq hm]
      rw [← ho]
      congr 1
      funext i
      simp only [placeS]
      cases hi : fs[i]? with
      | none => simp [hi]
      | some x => obtain ⟨a, b, c⟩ := x; simp [hi]
  · rename_i n e z hd hz
    split at h
    · cases h
    · rename_i hne
      obtain ⟨inf, hinf, hsz, _, hzero⟩ := ti_info (P := P) (t := t) (by rw [hd]; simp)
      obtain ⟨ine, hine, hsze, _, _⟩ := ti_info (P := P) (t := e) (fun e0 => hne e0)
      rw [hz] at hzero
      obtain ⟨zv, hzv, rfl⟩ : ∃ zv, inf.zero = some zv ∧ z = zv.cells.toList.map leaf := by
        cases hq : inf.zero with
        | none => rw [hq] at hzero; cases hzero
        | some zv => rw [hq] at hzero; simp at hzero; exact ⟨zv, rfl, hzero⟩
      cases hf : fillA (fun i => some (i * (ti P e).size, (ti P e).size)) (zv.cells.toList.map leaf) (parts.toList.map fun p => (p.1, ρA p.2)) with
      | none => rw [hf] at h; cases h
      | some cs =>
        rw [hf] at h
        simp only [Option.map_some, Option.some.injEq, Prod.mk.injEq] at h
        obtain ⟨_, rfl⟩ := h
        obtain ⟨out, ho, hr⟩ := fillA_sound hf (leafs_repV _) hp
        refine ⟨.agg out, run_build w t _ out ?_, by have := RepV.agg hr; simpa using this⟩
        rw [el]
        simp only [Program.built, hinf, ti_array hd, hzv, hine, hsze]
        exact ho
  · cases h

theorem run_value {s : Sem Value} {v : Value} (h : s.run P w = .ok v w) : (do pure (Next.value (← s)) : Sem Next).run P w = .ok (.value v) w := by
  simp only [Sem.run_bind, h, Result.andThen_ok, Sem.run_pure]

theorem pure_sound {ρA : Operand → AV} {ρ : Operand → Value} (hρ : ∀ x, RepV w own β ok (ρA x) (ρ x)) {o : Oper} {pre : Prop} {r : AV} (h : pureOp P ρA o.op = some (pre, r)) (hp : pre) :
    ∃ v, (execOp ρ o).run P w = .ok (.value v) w ∧ RepV w own β ok r v := by
  have fin : ∀ {s : Sem Value}, (∃ v, s.run P w = .ok v w ∧ RepV w own β ok r v) → ∃ v, (do pure (Next.value (← s)) : Sem Next).run P w = .ok (.value v) w ∧ RepV w own β ok r v :=
    fun ⟨v, hv, hr⟩ => ⟨v, run_value hv, hr⟩
  obtain ⟨dst, op, ty, pos, after, guard⟩ := o
  simp only at h
  cases op <;> simp only [pureOp] at h <;> (try (cases h; done)) <;> simp only [execOp]
  case move x => simp only [Option.some.injEq, Prod.mk.injEq] at h; obtain ⟨rfl, rfl⟩ := h; exact ⟨_, rfl, hρ x⟩
  case assign x => simp only [Option.some.injEq, Prod.mk.injEq] at h; obtain ⟨rfl, rfl⟩ := h; exact ⟨_, rfl, hρ x⟩
  case pick c a b =>
    split at h
    · rename_i t hc
      simp only [Option.some.injEq, Prod.mk.injEq] at h; obtain ⟨rfl, rfl⟩ := h
      have := hρ c; rw [hc] at this
      have e := this.bool_open
      refine ⟨if t then ρ a else ρ b, ?_, pickV_sound (hρ a) (hρ b)⟩
      simp only [e, asBool, Sem.run_bind, Sem.run_pure, Result.andThen_ok]
    · cases h
  case build t parts => exact fin (build_sound hρ (by simpa only [pureOp] using h))
  case nilCheck x =>
    have hx := hρ x
    split at h
    · rename_i hc; rw [hc] at hx h
      simp only [Option.some.injEq, Prod.mk.injEq] at h; obtain ⟨rfl, rfl⟩ := h
      obtain ⟨hg, e⟩ := hx.ptr_open; rw [e]; exact ⟨_, rfl, .ptr hg⟩
    · rename_i hc; rw [hc] at hx h
      simp only [Option.some.injEq, Prod.mk.injEq] at h; obtain ⟨rfl, rfl⟩ := h
      obtain ⟨a, vs, e, h1, h2⟩ := hx.cptr_open; rw [e]; exact ⟨_, rfl, .closed (.cptr h1 h2)⟩
    · rename_i hc; rw [hc] at hx h
      simp only [Option.some.injEq, Prod.mk.injEq] at h; obtain ⟨rfl, rfl⟩ := h
      obtain ⟨hg, e⟩ := hx.rptr_open; rw [e]; exact ⟨_, rfl, .rptr hg⟩
    · rename_i hc; rw [hc] at hx h
      simp only [Option.some.injEq, Prod.mk.injEq] at h; obtain ⟨rfl, rfl⟩ := h
      obtain ⟨vs, e, h1⟩ := hx.func_open; rw [e]; exact ⟨_, rfl, .func h1⟩
    · cases h
  case binOp op t x y _ => exact fin (binA_sound h hp (hρ x) (hρ y))
  case unOp op _ x => exact fin (unA_sound h (hρ x))
  case convert s d x => exact fin (convertA_sound h (hρ x))
  case makeFunc fn first captured =>
    split at h
    · rename_i h0
      simp only [Option.some.injEq, Prod.mk.injEq] at h; obtain ⟨rfl, rfl⟩ := h
      have : first = #[] := by simpa using h0
      subst this
      refine fin ⟨_, rfl, ?_⟩
      have := RepV.func (fn := fn) (RepVL.map hρ captured.toList)
      have e : (captured.toList.map ρ).toArray = captured.map ρ := by apply Array.toList_inj.mp; simp
      have e2 : (#[] : Array Operand).map ρ = #[] := by simp
      rw [e] at this; rw [e2]; exact this
    · cases h
  case slice t x lo hi mx =>
    cases mx with
    | none => exact fin (sliceA_sound h hp (hρ x) (RepO.map hρ lo) (RepO.map hρ hi))
    | some m => cases h
  case fieldAddr t x f => exact fin (fieldAddrA_sound h (hρ x))
  case field t x f => exact fin (fieldA_sound h (hρ x))
  case indexAddr t x i => exact fin (indexAddrA_sound h hp (hρ x) (hρ i))
  case index t x i => exact fin (indexA_sound h hp (hρ x) (hρ i))
  case extract x i =>
    split at h
    · rename_i vs hc
      split at h
      · rename_i hi
        simp only [Option.some.injEq, Prod.mk.injEq] at h; obtain ⟨rfl, rfl⟩ := h
        have hx := hρ x; rw [hc] at hx
        obtain ⟨us, e, hus⟩ := hx.tuple_open
        obtain ⟨v, hv, hr⟩ := hus.get i hi
        refine fin ⟨v, ?_, by rw [List.getD_eq_getElem?_getD, List.getElem?_eq_getElem hi]; exact hr⟩
        simp [e, Instr.extract, hv]
      · cases h
    · cases h
  case call c =>
    split at h
    · rename_i hc
      split at h
      · rename_i x t ha hty
        have ea : c.args = #[x] := by apply Array.toList_inj.mp; simpa using ha
        have et : c.argTypes = #[t] := by apply Array.toList_inj.mp; simpa using hty
        simp only [resolve, hc, ea, et, Sem.run_bind, Sem.run_pure, Result.andThen_ok, invoke, builtin]
        obtain ⟨v, hv, hr⟩ := lenA_sound (P := P) (ty := ty) h (hρ x)
        exact ⟨v, by
          have e2 : (#[x] : Array Operand).map ρ = #[ρ x] := by simp
          rw [e2, hv]; rfl, hr⟩
      · cases h
    · rename_i hc
      split at h
      · rename_i x xs ha
        simp only [resolve, hc, Sem.run_bind, Sem.run_pure, Result.andThen_ok, invoke, builtin]
        cases hf : foldA maxA (ρA x) (xs.map ρA) with
        | none => rw [hf] at h; cases h
        | some z =>
          rw [hf] at h; simp only [Option.map_some, Option.some.injEq, Prod.mk.injEq] at h; obtain ⟨_, rfl⟩ := h
          obtain ⟨v, hv, hr⟩ := foldA_max (P := P) hf (hρ x) (RepVL.map hρ xs)
          have e : (Builtin.max_ c.argTypes ty (c.args.map ρ)).run P w = .ok v w := by simp only [Builtin.max_, Array.toList_map, ha, List.map_cons]; exact hv
          exact ⟨v, by rw [e]; rfl, hr⟩
      · cases h
    · rename_i hc
      split at h
      · rename_i x xs ha
        simp only [resolve, hc, Sem.run_bind, Sem.run_pure, Result.andThen_ok, invoke, builtin]
        cases hf : foldA minA (ρA x) (xs.map ρA) with
        | none => rw [hf] at h; cases h
        | some z =>
          rw [hf] at h; simp only [Option.map_some, Option.some.injEq, Prod.mk.injEq] at h; obtain ⟨_, rfl⟩ := h
          obtain ⟨v, hv, hr⟩ := foldA_min (P := P) hf (hρ x) (RepVL.map hρ xs)
          have e : (Builtin.min_ c.argTypes ty (c.args.map ρ)).run P w = .ok v w := by simp only [Builtin.min_, Array.toList_map, ha, List.map_cons]; exact hv
          exact ⟨v, by rw [e]; rfl, hr⟩
      · cases h
    · cases h
end
end Go.Ab
