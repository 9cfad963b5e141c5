/- What is read of a view; maps. -/
import Derived.Test.YtmlaogjndaeihaaGreatDoorAb9
set_option linter.unusedSimpArgs false
set_option linter.unusedVariables false
namespace Go.Ab
open Go.RowKit

section
variable {P : Program} {n0 : Nat} {ext : Nat → Prop} {β : Nat → Nat → Loc} {ok : Nat → Nat → Prop} {st : St} {a : Act} {w w' : World} {own : Nat → Prop}

theorem viewLen_sound (h : StRel n0 ext β ok st a w) {t ty e : TypeId} {k g es : Nat} {els : List (List AV)} {vx : Value} (ht : (ti P t).d = .slice e) (hx : RepV w (ownOf ext β st.σ) β ok (.view k g) vx) (hl : lookRow st.σ k g = some (es, els)) :
    (Builtin.len_ #[t] ty #[vx]).run P w = .ok (.int .i64 els.length) w := by
  obtain ⟨_, rfl⟩ := hx.view_open
  obtain ⟨_, hreg⟩ := h.regs _ _ (lookRow_some hl)
  obtain ⟨h1, _⟩ := hreg
  simp [Builtin.len_, run_underlying (ti_slice ht), goInt, h1]

theorem viewIndex_sound (h : StRel n0 ext β ok st a w) {t e : TypeId} {k g es : Nat} {els : List (List AV)} {vx vi : Value} {ki : IntKind} {n : Int} (ht : (ti P t).d = .slice e) (hx : RepV w (ownOf ext β st.σ) β ok (.view k g) vx) (hi : vi = .int ki n) (hl : lookRow st.σ k g = some (es, els))
    (he : es = (ti P e).size) (hk : okSize P e = true) (h0 : 0 ≤ n) (h1 : n < els.length) :
    ∃ v, (Instr.indexAt t vx vi).run P w = .ok v w ∧ RepV w (ownOf ext β st.σ) β ok (.rptr k g es n.toNat 0) v := by
  subst hi
  obtain ⟨hok, rfl⟩ := hx.view_open
  obtain ⟨_, hreg⟩ := h.regs _ _ (lookRow_some hl)
  obtain ⟨i, d, hinf, hs, _⟩ := okSize_info hk
  obtain ⟨hlen, _, _, h4⟩ := hreg
  cases hn : (β k g).isNil with
  | true =>
    rcases h4 with ⟨_, e0, _⟩ | ⟨h5, _⟩
    · subst e0; simp at h1; omega
    · rw [hn] at h5; cases h5
  | false =>
    refine ⟨_, ?_, .rptr hok⟩
    simp only [Instr.indexAt, asIntOf, Sem.run_bind, Sem.run_pure, Result.andThen_ok, run_underlying (ti_slice ht), Bool.false_eq_true, if_false]
    rw [if_pos ⟨h0, by rw [hlen]; exact h1⟩]
    simp only [Sem.run_bind, run_sizeOf hinf, Result.andThen_ok, hs, Sem.run_pure, he, add_zero_block, Nat.add_zero]

/-! Maps. -/
theorem makeMap_sound (h : StRel n0 ext β ok st a w) {d : Nat} (hf : ¬ ok d st.gen) {t kt e : TypeId} {r : Option Value} (ht : (ti P t).d = .map kt e) (hr : r = none ∨ ∃ k n, r = some (.int k n)) :
    Laid n0 ext ok st (some d) ⟨.mref d st.gen, [(d, some (.mapr st.gen []))], []⟩ a w ((Instr.makeMap t r).run P w) := by
  refine laid_new (o := .map #[] 0) (loc := ⟨w.heap.size, 0, 0, false⟩) h hf rfl rfl (fun own' hg => ?_) (v := .map (some w.heap.size)) (fun own' => ?_) ?_
  · simp only [RegOk, layβ_new]
    exact ⟨trivial, h.n0le, #[], 0, by simp, .nil⟩
  · have := RepV.mref (w := { w with heap := w.heap.push (.map #[] 0) }) (own := own') (β := layβ β d st.gen ⟨w.heap.size, 0, 0, false⟩) (ok := layok ok d st.gen) (t := d) (g := st.gen) (.inr ⟨rfl, rfl⟩)
    rw [layβ_new] at this; exact this
  · rcases hr with rfl | ⟨k, n, rfl⟩
    · simp [Instr.makeMap, newObj, Sem.run]
    · simp [Instr.makeMap, newObj, Sem.run, run_underlying (ti_map ht), asInt, asIntOf]

theorem checkKey_int {b : Bool} {n : Nat} {kt : TypeId} {k : IntKind} {v : Value} (h : P.underlying kt = some (.int k)) : (Instr.checkKey b (n + 1) kt v).run P w = .ok () w := by
  simp only [Instr.checkKey, Sem.run_bind, run_underlying h, Result.andThen_ok]
  cases v <;> rfl

theorem leafEq_int {kk : IntKind} {n : Int} {x : AV} {b : Bool} (h : leafEq (.int kk n) x = some b) : ∃ m, x = .int kk m ∧ b = decide (n = m) := by
  cases x <;> simp [leafEq] at h
  obtain ⟨rfl, rfl⟩ := h
  exact ⟨_, rfl, rfl⟩

theorem run_getObj {r : Nat} {es : Array MapEntry} {c : Nat} (h : w.heap[r]? = some (.map es c)) : (getObj r).run P w = .ok (.map es c) w := by simp [getObj, Sem.run, h]
theorem run_setObj {r : Nat} {es : Array MapEntry} {c : Nat} {o : Obj} (h : w.heap[r]? = some (.map es c)) : (setObj r o).run P w = .ok () { w with heap := w.heap.setIfInBounds r o } := by simp [setObj, Sem.run, h]
theorem run_zero {e : TypeId} {i : TypeInfo} {z : Value} (h : P.info? e = some i) (hz : i.zero = some z) : (zeroValue e).run P w = .ok z w := by simp [zeroValue, typeInfo, h, hz]

theorem find_none {kd kk : IntKind} {n : Int} : ∀ {ents : List (AV × AV)} {es : List MapEntry} {i : Nat}, Both (fun (a : AV × AV) (b : MapEntry) => RepC w own a.1 b.key ∧ RepC w own a.2 b.val) ents es → (∀ e ∈ ents, leafEq (.int kk n) e.1 = some false) →
    Instr.findNow (.int kd) (.int kk n) es i = some none
  | [], _, _, h, _ => by cases h; rfl
  | e :: ents, _, i, h, hk => by
    cases h with
    | @cons _ b _ bs hab hrest =>
      obtain ⟨m, he, hb⟩ := leafEq_int (hk e (by simp))
      have hkey : b.key = .int kk m := by have := hab.1; rw [he] at this; exact (RepV.closed (β := fun _ _ => default) (ok := fun _ _ => False) this).int_open
      have hne : (n == m) = false := by
        have : ¬ n = m := by simpa using hb
        simpa using this
      simp only [Instr.findNow, hkey, Instr.sameNow, if_true, hne]
      exact find_none hrest (fun x hx => hk x (by simp [hx]))

theorem find_some {kd kk : IntKind} {n : Int} {z : AV} {zv : Value} (hz : RepC w own z zv) : ∀ {ents : List (AV × AV)} {es : List MapEntry} {i : Nat} {v : AV} {f : Bool}, Both (fun (a : AV × AV) (b : MapEntry) => RepC w own a.1 b.key ∧ RepC w own a.2 b.val) ents es → lookupA (.int kk n) z ents = some (v, f) →
    ∃ r, Instr.findNow (.int kd) (.int kk n) es i = some r ∧ f = r.isSome ∧ RepV w own β ok v (match r with | some (_, u) => u | none => zv)
  | [], _, _, v, f, h, hl => by
    cases h
    simp only [lookupA, Option.some.injEq, Prod.mk.injEq] at hl
    obtain ⟨rfl, rfl⟩ := hl
    exact ⟨none, rfl, rfl, .closed hz⟩
  | (k0, v0) :: ents, _, i, v, f, h, hl => by
    cases h with
    | @cons _ b _ bs hab hrest =>
      simp only [lookupA] at hl
      split at hl
      · rename_i q v' f' hq hr
        simp only [Option.some.injEq, Prod.mk.injEq] at hl
        obtain ⟨rfl, rfl⟩ := hl
        obtain ⟨m, he, hb⟩ := leafEq_int hq
        have hkey : b.key = .int kk m := by have := hab.1; simp only at this; rw [he] at this; exact (RepV.closed (β := fun _ _ => default) (ok := fun _ _ => False) this).int_open
        obtain ⟨r, h1, h2, h3⟩ := find_some (kd := kd) hz (i := i + 1) hrest hr
        by_cases hnm : n = m
        · refine ⟨some (i, b.val), ?_, by simp [hb, hnm], ?_⟩
          · simp [Instr.findNow, hkey, Instr.sameNow, hnm]
          · have hp := pickV_sound (t := q) (RepV.closed (β := β) (ok := ok) hab.2) h3
            have hq1 : q = true := by rw [hb]; simpa using hnm
            simp only [hq1, if_true] at hp ⊢; exact hp
        · refine ⟨r, ?_, by rw [h2]; simp [hb, hnm], ?_⟩
          · have hnm' : (n == m) = false := by simpa using hnm
            simp only [Instr.findNow, hkey, Instr.sameNow, if_true, hnm', h1]
          · have hp := pickV_sound (t := q) (RepV.closed (β := β) (ok := ok) hab.2) h3
            have hq1 : q = false := by rw [hb]; simpa using hnm
            simp only [hq1, Bool.false_eq_true, if_false] at hp ⊢; exact hp
      · cases hl

theorem insert_sound (h : StRel n0 ext β ok st a w) {t kt e : TypeId} {kd kk : IntKind} {key g : Nat} {n : Int} {ents : List (AV × AV)} {m x : AV} {vm vk vx : Value} (ht : (ti P t).d = .map kt e) (hkt : (ti P kt).d = .int kd)
    (hm : RepV w (ownOf ext β st.σ) β ok (.mref key g) vm) (hk : vk = .int kk n) (hx : RepV w (ownOf ext β st.σ) β ok x vx) (hl : lookMap st.σ key g = some ents) (hc : closedB x = true) (hne : ∀ e ∈ ents, leafEq (.int kk n) e.1 = some false) :
    Stored n0 ext β ok st ⟨.any, [(key, some (.mapr g (ents ++ [(.int kk n, x)])))], [key]⟩ a w ((Instr.mapUpdate t vm vk vx).run P w) := by
  subst hk
  obtain ⟨_, rfl⟩ := hm.mref_open
  have hb := lookMap_some hl
  obtain ⟨_, hreg⟩ := h.regs _ _ hb
  obtain ⟨hn, hn0, es, clock, hh, hboth⟩ := hreg
  have hf := find_none (kd := kd) (i := 0) hboth hne
  have hlt := heap_lt hh
  refine ⟨{ w with heap := w.heap.setIfInBounds (β key g).block (.map (es.push { key := .int kk n, val := vx, born := clock }) (clock + 1)) }, ?_, ?_, ⟨rfl, rfl, rfl, by simp, fun b hb => by rw [Array.getElem?_setIfInBounds_ne (by omega)]⟩, rfl⟩
  · simp only [Instr.mapUpdate, Sem.run_bind, run_underlying (ti_map ht), Result.andThen_ok, run_getObj hh, checkKey_int (ti_int hkt), Instr.findKey, run_underlying (ti_int hkt), hf, Sem.run_pure, run_setObj hh]
  · refine h.inplace hb rfl hn (by simp) (fun b hb => by exact Array.getElem?_setIfInBounds_ne (fun e => hb e.symm)) (fun own' hg => ?_)
    refine ⟨hn, hn0, es.push { key := .int kk n, val := vx, born := clock }, clock + 1, by simp [hlt], ?_⟩
    have hxc := closed_rep hc hx
    simp only [Array.toList_push]
    clear hf hh hb
    have app : ∀ {l : List (AV × AV)} {k : List MapEntry}, Both (fun (a : AV × AV) (b : MapEntry) => RepC w (ownOf ext β st.σ) a.1 b.key ∧ RepC w (ownOf ext β st.σ) a.2 b.val) l k →
        Both (fun (a : AV × AV) (b : MapEntry) => RepC { w with heap := w.heap.setIfInBounds (β key g).block (.map (es.push { key := .int kk n, val := vx, born := clock }) (clock + 1)) } own' a.1 b.key ∧ RepC { w with heap := w.heap.setIfInBounds (β key g).block (.map (es.push { key := .int kk n, val := vx, born := clock }) (clock + 1)) } own' a.2 b.val) (l ++ [(.int kk n, x)]) (k ++ [{ key := .int kk n, val := vx, born := clock }]) := by
      intro l k hlk
      induction hlk with
      | nil => exact .cons ⟨.int _ _, hxc.mono hg⟩ .nil
      | cons h _ ih => exact .cons ⟨h.1.mono hg, h.2.mono hg⟩ ih
    exact app hboth

theorem lookup_sound (h : StRel n0 ext β ok st a w) {t kt e : TypeId} {kd kk : IntKind} {key g : Nat} {n : Int} {ents : List (AV × AV)} {z v : AV} {f cok : Bool} {vm vk : Value} (ht : (ti P t).d = .map kt e) (hkt : (ti P kt).d = .int kd)
    (hm : RepV w (ownOf ext β st.σ) β ok (.mref key g) vm) (hk : vk = .int kk n) (hl : lookMap st.σ key g = some ents) (hz : zeroA P e = some z) (hlook : lookupA (.int kk n) z ents = some (v, f)) :
    ∃ u, (Instr.lookup t vm vk cok).run P w = .ok u w ∧ RepV w (ownOf ext β st.σ) β ok (if cok then .tuple [v, .bool f] else v) u := by
  subst hk
  obtain ⟨_, rfl⟩ := hm.mref_open
  have hb := lookMap_some hl
  obtain ⟨_, hreg⟩ := h.regs _ _ hb
  obtain ⟨hn, hn0, es, clock, hh, hboth⟩ := hreg
  obtain ⟨i, zv, hi, hzv, rfl⟩ : ∃ i zv, P.info? e = some i ∧ i.zero = some zv ∧ z = ofConst zv := by
    unfold zeroA at hz
    cases hq : P.info? e with
    | none => rw [hq] at hz; cases hz
    | some i =>
      rw [hq] at hz
      cases hq2 : i.zero with
      | none => simp [hq2] at hz
      | some zv => simp [hq2] at hz; exact ⟨i, zv, rfl, hq2, hz.symm⟩
  obtain ⟨r, h1, h2, h3⟩ := find_some (kd := kd) (β := β) (ok := ok) (ofConst_rep w (ownOf ext β st.σ) zv) (i := 0) hboth hlook
  have hrun : ∀ q : Bool, (Instr.checkKey q 10000 kt (.int kk n)).run P w = .ok () w := fun q => checkKey_int (ti_int hkt)
  cases r with
  | none =>
    refine ⟨if cok then .tuple #[zv, .bool false] else zv, ?_, ?_⟩
    · simp only [Instr.lookup, Sem.run_bind, run_underlying (ti_map ht), Result.andThen_ok, run_getObj hh, Sem.run_pure, hrun, Instr.findKey, run_underlying (ti_int hkt), h1, run_zero hi hzv]
    · simp only at h2 h3; subst h2
      cases cok
      · exact h3
      · exact .tuple (.cons h3 (.cons (.closed (.bool _)) .nil))
  | some p =>
    obtain ⟨j, u⟩ := p
    refine ⟨if cok then .tuple #[u, .bool true] else u, ?_, ?_⟩
    · simp only [Instr.lookup, Sem.run_bind, run_underlying (ti_map ht), Result.andThen_ok, run_getObj hh, Sem.run_pure, hrun, Instr.findKey, run_underlying (ti_int hkt), h1]
    · simp only at h2 h3; subst h2
      cases cok
      · exact h3
      · exact .tuple (.cons h3 (.cons (.closed (.bool _)) .nil))
end
end Go.Ab
