/- Slices that are made, literals, append, maps. -/
import Derived.Test.YtmlaogjndaeihaaGreatDoorAb7
import Derived.Laws.MakeOwn
import Derived.Laws.IdiomMaps
set_option linter.unusedSimpArgs false
set_option linter.unusedVariables false
namespace Go.Ab
open Go.RowKit

section
variable {P : Program} {n0 : Nat} {ext : Nat → Prop} {β : Nat → Nat → Loc} {ok : Nat → Nat → Prop} {st : St} {a : Act} {w w' : World} {own : Nat → Prop}

theorem ti_zero {t : TypeId} {i : TypeInfo} {z : List AV} (hz : (ti P t).zero = some z) (hzero : (ti P t).zero = i.zero.map (fun v => v.cells.toList.map leaf)) : ∃ zv, i.zero = some zv ∧ z = zv.cells.toList.map leaf := by
  rw [hz] at hzero
  cases hq : i.zero with
  | none => rw [hq] at hzero; cases hzero
  | some zv => rw [hq] at hzero; simp at hzero; exact ⟨zv, rfl, hzero⟩

theorem madeCells_rep {z : List AV} {zv : Array Value} {es : Nat} (hz : RepCL w own z zv.toList) (hl : z.length = es) : ∀ n, RepCL w own (List.replicate n z).flatten ((madeCells zv (n * es)).toList)
  | 0 => by simp [madeCells, Array.range_zero']; exact .nil
  | n + 1 => by
    have e1 := hz.length
    have hzs : zv.size = es := by simp at e1; omega
    have ih := madeCells_rep hz hl n
    rw [List.replicate_succ']
    simp only [List.flatten_append, List.flatten_singleton]
    have e2 : (madeCells zv ((n + 1) * es)).toList = (madeCells zv (n * es)).toList ++ zv.toList := by
      apply List.ext_getElem?
      intro j
      simp only [madeCells, Array.toList_map, Array.toList_range, List.getElem?_map, List.getElem?_append, List.length_map, List.length_range, List.getElem?_range']
      have hm : (n + 1) * es = n * es + es := by rw [Nat.add_mul]; omega
      by_cases h1 : j < n * es
      · rw [if_pos h1, List.getElem?_range (by omega), List.getElem?_range h1]
      · rw [if_neg h1]
        by_cases h2 : j < (n + 1) * es
        · rw [List.getElem?_range h2]
          have hlt : j - n * es < zv.size := by omega
          have hmod : j % zv.size = j - n * es := by
            have : j = (j - n * es) + n * zv.size := by rw [hzs]; omega
            rw [this, Nat.add_mul_mod_self_right, Nat.mod_eq_of_lt (by omega)]; omega
          simp only [Option.map_some, hmod]
          rw [getElem!_pos zv _ hlt]; simp [hlt]
        · rw [List.getElem?_eq_none (by simp; omega), List.getElem?_eq_none (by simp; omega)]; rfl
    rw [e2]
    exact ih.append hz

theorem makeSlice_sound (h : StRel n0 ext β ok st a w) {d : Nat} (hf : ¬ ok d st.gen) {t e : TypeId} {kl kc : IntKind} {n m : Int} {z : List AV} (ht : (ti P t).d = .slice e) (hz : (ti P e).zero = some z) (hk : okSize P e = true) (hl : z.length = (ti P e).size) (hc : z.all closedB = true)
    (h0 : 0 ≤ n) (h1 : n ≤ m) (h2 : m * (ti P e).bytes ≤ 2 ^ 46) (h3 : m ≤ 2 ^ 46) :
    Laid n0 ext ok st (some d) ⟨.view d st.gen, [(d, some (.row st.gen (ti P e).size (List.replicate n.toNat z)))], []⟩ a w ((Instr.makeSlice t (.int kl n) (.int kc m)).run P w) := by
  obtain ⟨i, dd, hi, hs, hb, _, _, hzero⟩ := okSize_info hk
  obtain ⟨zv, hzv, rfl⟩ := ti_zero hz hzero
  have hrun := run_make (P := P) w t e i zv (ti_slice ht) hi hzv kl kc n m h0 h1 (by rw [hb, Int.mul_comm]; omega) (by omega)
  have hrep : RepCL w (ownOf ext β st.σ) (zv.cells.toList.map leaf) zv.cells.toList := leafs_rep _ _ _
  have hfull := madeCells_rep hrep hl m.toNat
  have hpart := madeCells_rep hrep hl n.toNat
  have hnm : n.toNat * i.size ≤ m.toNat * i.size := Nat.mul_le_mul_right _ (by omega)
  rw [← hs] at hl hfull hpart ⊢
  have esplit : (madeCells zv.cells (m.toNat * i.size)).toList = (madeCells zv.cells (n.toNat * i.size)).toList ++ (madeCells zv.cells (m.toNat * i.size)).toList.drop (n.toNat * i.size) := by
    have : (madeCells zv.cells (n.toNat * i.size)).toList = (madeCells zv.cells (m.toNat * i.size)).toList.take (n.toNat * i.size) := by
      simp only [madeCells, Array.toList_map, Array.toList_range, ← List.map_take, List.take_range, Nat.min_eq_left hnm]
    rw [this, List.take_append_drop]
  refine laid_row (e := e) h hf (c := madeCells zv.cells (m.toNat * i.size)) (cap := m.toNat) (vs := (madeCells zv.cells (n.toNat * i.size)).toList) esplit hpart ?_ (by simp; omega) (by rw [size_madeCells]; exact Nat.le_refl _) ?_
  · intro x hx; rw [List.eq_of_mem_replicate hx]; exact hl
  · rw [hrun, List.length_replicate]; rfl

theorem foldl_size (off : Nat) : ∀ (vs : List (Value × Nat)) (cells : Array Value), (vs.foldl (fun cs (c, j) => cs.setIfInBounds (off + j) c) cells).size = cells.size
  | [], _ => rfl
  | (v, j) :: vs, cells => by rw [List.foldl_cons, foldl_size off vs]; simp

theorem buildEls_sound {ρA : Operand → AV} {ρ : Operand → Value} (hρ : ∀ x, RepV w own β ok (ρA x) (ρ x)) {es : Nat} : ∀ {ps : List (Nat × Operand)} {k : Nat} {els : List (List AV)} (cells : Array Value), buildEls ρA es k ps = some els →
    (k + ps.length) * es = cells.size →
    ∃ out vs, Instr.fill (fun i => some (i * es, es)) cells (ps.map fun p => (p.1, ρ p.2)) = some out ∧ out.toList = cells.toList.take (k * es) ++ vs ∧ RepCL w own els.flatten vs ∧ (∀ e ∈ els, e.length = es) ∧ els.length = ps.length
  | [], k, els, cells, h, hs => by
    simp only [buildEls, Option.some.injEq] at h; subst h
    refine ⟨cells, [], rfl, ?_, .nil, by simp, rfl⟩
    simp at hs; rw [hs, List.append_nil, List.take_of_length_le (by simp)]
  | (j, x) :: ps, k, els, cells, h, hs => by
    simp only [buildEls] at h
    split at h
    · rename_i xs l hc hr
      split at h
      · rename_i hcond
        obtain ⟨rfl, hlen, hcl⟩ := hcond
        simp only [Option.some.injEq] at h; subst h
        have hx := cellsA_rep hc (hρ x)
        have hxc := closeds_rep hcl hx
        have e1 := hx.length
        have hsz : (ρ x).cells.size = es := by simp at e1; omega
        have hk1 : (k + 1) * es = k * es + es := by rw [Nat.add_mul]; omega
        have hle : (k + 1) * es ≤ cells.size := by rw [← hs]; exact Nat.mul_le_mul_right _ (by simp only [List.length_cons]; omega)
        have hset := foldl_set (k * es) (ρ x).cells.toList 0 cells (by simp; omega)
        have hfold : ((ρ x).cells.zipIdx.foldl (fun cs (c, j) => cs.setIfInBounds (k * es + j) c) cells) = (((ρ x).cells.toList.zipIdx 0).foldl (fun cs (c, j) => cs.setIfInBounds (k * es + j) c) cells) := by
          rw [← Array.foldl_toList]; simp
        obtain ⟨out, vs, ho, he, hre, hes, hll⟩ := buildEls_sound hρ (((ρ x).cells.zipIdx.foldl (fun cs (c, j) => cs.setIfInBounds (k * es + j) c) cells)) hr (by
          have : (((ρ x).cells.zipIdx.foldl (fun cs (c, j) => cs.setIfInBounds (k * es + j) c) cells)).size = cells.size := by
            rw [hfold]; exact foldl_size _ _ _
          rw [this, ← hs]; congr 1; simp only [List.length_cons]; omega)
        refine ⟨out, (ρ x).cells.toList ++ vs, ?_, ?_, ?_, ?_, by simp [hll]⟩
        · simp only [List.map_cons, Instr.fill]
          rw [if_neg (by simp; omega)]
          exact ho
        · rw [he, hfold, hset]
          simp only [Nat.add_zero]
          have e2 : (ρ x).cells.toList.length = es := by simpa using hsz
          rw [List.take_append_of_le_length (by simp; omega), List.take_of_length_le (by simp; omega), List.append_assoc]
        · rw [List.flatten_cons]; exact hxc.append hre
        · intro e he
          rcases List.mem_cons.mp he with rfl | he
          · exact hlen
          · exact hes e he
      · cases h
    · cases h

theorem buildSlice_sound (h : StRel n0 ext β ok st a w) {d : Nat} (hf : ¬ ok d st.gen) {t e : TypeId} {len : Nat} {parts : Array (Nat × Operand)} {els : List (List AV)} {z : List AV} {ρ : Operand → AV} (hρ : ∀ x, RepV w (ownOf ext β st.σ) β ok (ρ x) (a.eval x)) (ht : (ti P t).d = .slice e)
    (hb : buildEls ρ (ti P e).size 0 parts.toList = some els) (hz : (ti P e).zero = some z) (hlen : els.length = len) (hk : okSize P e = true) (hmax : len * (ti P e).size ≤ 2 ^ 24) (hzl : z.length = (ti P e).size) :
    Laid n0 ext ok st (some d) ⟨.view d st.gen, [(d, some (.row st.gen (ti P e).size els))], []⟩ a w ((Instr.buildSlice t len (parts.map fun (i, x) => (i, a.eval x))).run P w) := by
  obtain ⟨i, dd, hi, hs, hby, _, _, hzero⟩ := okSize_info hk
  obtain ⟨zv, hzv, rfl⟩ := ti_zero hz hzero
  have hzs : zv.cells.size = i.size := by simp at hzl; omega
  rw [← hs] at hb hmax ⊢
  have hpl : parts.toList.length = len := by
    obtain ⟨_, _, _, _, _, _, hll⟩ := buildEls_sound hρ (Array.replicate ((0 + parts.toList.length) * i.size) undef) hb (by simp)
    omega
  have hel : (parts.map fun (x : Nat × Operand) => (x.1, a.eval x.2)).toList = parts.toList.map fun p => (p.1, a.eval p.2) := by simp
  have key : ∀ zero : Array Value, ∃ c vs, Instr.fill (fun i' => some (i' * i.size, i.size)) ((Array.range (len * i.size)).map (zero[· % zero.size]!)) (parts.map fun (x : Nat × Operand) => (x.1, a.eval x.2)).toList = some c ∧ c.toList = vs ∧ RepCL w (ownOf ext β st.σ) els.flatten vs ∧ (∀ e ∈ els, e.length = i.size) := by
    intro zero
    obtain ⟨out, vs, ho, he, hre, hes, _⟩ := buildEls_sound hρ ((Array.range (len * i.size)).map (zero[· % zero.size]!)) hb (by simp [hpl])
    rw [hel]
    exact ⟨out, vs, ho, by simpa using he, hre, hes⟩
  have fin : ∀ zero : Array Value, ∃ c vs, (Instr.buildSlice t len (parts.map fun (x : Nat × Operand) => (x.1, a.eval x.2))).run P w = .ok (.slice (some ⟨w.heap.size, 0, none⟩) len len) { w with heap := w.heap.push (.cells c e) } ∧ c.toList = vs ∧ RepCL w (ownOf ext β st.σ) els.flatten vs ∧ (∀ e ∈ els, e.length = i.size) := by
    intro _
    have hn : ¬ (len * i.size > 2 ^ 24) := by omega
    by_cases h0 : len * i.size = 0
    · obtain ⟨c, vs, hc, hcl, hre, hes⟩ := key #[]
      refine ⟨c, vs, ?_, hcl, hre, hes⟩
      simp only [Instr.buildSlice, Sem.run_bind, run_underlying (ti_slice ht), Result.andThen_ok, run_sizeOf hi]
      rw [if_neg hn, if_pos h0]
      simp only [pure_bind, hc, Sem.run_bind, newRow_run, Result.andThen_ok, Sem.run_pure]
    · obtain ⟨c, vs, hc, hcl, hre, hes⟩ := key zv.cells
      refine ⟨c, vs, ?_, hcl, hre, hes⟩
      simp only [Instr.buildSlice, Sem.run_bind, run_underlying (ti_slice ht), Result.andThen_ok, run_sizeOf hi]
      rw [if_neg hn, if_neg h0]
      simp only [Sem.run_bind, Sem.run_pure, Result.andThen_ok, zeroValue, typeInfo, Sem.run, program, hi, hzv]
      simp only [pure, Sem.run, Result.andThen_ok, Sem.run_bind, hc, newRow_run]
  obtain ⟨c, vs, hrun, hcl, hre, hes⟩ := fin #[]
  subst hlen
  have hsz : c.size = els.length * i.size := by
    have := hre.length; rw [length_flatten_const hes, ← hcl] at this; simp at this; omega
  exact laid_row (e := e) h hf (c := c) (cap := els.length) (vs := vs) (rest := []) (by rw [hcl]; simp) hre hes (Nat.le_refl _) (by omega) hrun
end
end Go.Ab
