/- Stores, slices that are made, literals, append, maps. -/
import Derived.Test.YtmlaogjndaeihaaGreatDoorAb6
namespace Go.Ab
open Go.RowKit

section
variable {P : Program} {n0 : Nat} {ext : Nat → Prop} {β : Nat → Nat → Loc} {ok : Nat → Nat → Prop} {st : St} {a : Act} {w w' : World} {own : Nat → Prop}

theorem StRel.inplace (h : StRel n0 ext β ok st a w) {k : Nat} {rk rk' : Reg} (hk : st.σ[k]? = some (some rk)) (hg : rk'.g = rk.g) (hn : (β k rk.g).isNil = false)
    (hsz : w'.heap.size = w.heap.size) (hw : ∀ b, b ≠ (β k rk.g).block → w'.heap[b]? = w.heap[b]?) (hreg : ∀ own', Grows w w' (ownOf ext β st.σ) own' → RegOk n0 w' own' β ok k rk') :
    StRel n0 ext β ok ⟨st.τ, st.σ.set k (some rk'), st.gen⟩ a w' := by
  have hown : ∀ b, ownOf ext β (st.σ.set k (some rk')) b → ownOf ext β st.σ b := by
    rintro b (h1 | ⟨t, r, h1, h2, h3⟩)
    · exact .inl h1
    · rcases set_sto _ _ h1 with ⟨rfl, rfl⟩ | ⟨_, h4⟩
      · exact .inr ⟨_, rk, hk, by rw [← hg]; exact h2, by rw [← hg]; exact h3⟩
      · exact .inr ⟨t, r, h4, h2, h3⟩
  have hgr : Grows w w' (ownOf ext β st.σ) (ownOf ext β (st.σ.set k (some rk'))) := by
    intro b o v h1 h2
    refine ⟨fun h3 => h1 (hown b h3), ?_⟩
    have hne : b ≠ (β k rk.g).block := fun e => h1 (.inr ⟨k, rk, hk, hn, e.symm⟩)
    unfold World.cell? at h2 ⊢
    simp only [hw b hne]; exact h2
  refine ⟨h.temps.mono hgr (fun _ _ x => x) (fun _ _ _ => rfl), ?_, ?_, h.extlt, by rw [hsz]; exact h.n0le, h.defers⟩
  · intro t r h1
    rcases set_sto _ _ h1 with ⟨rfl, rfl⟩ | ⟨h3, h4⟩
    · exact ⟨by rw [hg]; exact (h.regs _ _ hk).1, hreg _ hgr⟩
    · obtain ⟨h5, h6⟩ := h.regs _ _ h4
      exact ⟨h5, h6.mono (fun _ _ _ => rfl) h5 (fun _ _ x => x) hgr (fun hn' => hw _ (h.dist t k r rk h4 hk h3 hn' hn))⟩
  · intro t t' r r' h1 h2 hne n1 n2
    simp only at h1 h2
    rcases set_sto _ _ h1 with ⟨rfl, rfl⟩ | ⟨h3, h4⟩ <;> rcases set_sto _ _ h2 with ⟨rfl, rfl⟩ | ⟨h5, h6⟩
    · exact absurd rfl hne
    · rw [hg] at n1 ⊢; exact h.dist _ _ _ _ hk h6 hne n1 n2
    · rw [hg] at n2 ⊢; exact h.dist _ _ _ _ h4 hk hne n1 n2
    · exact h.dist _ _ _ _ h4 h6 hne n1 n2

theorem heap_lt {b : Nat} {o : Obj} (h : w.heap[b]? = some o) : b < w.heap.size := by
  rcases Nat.lt_or_ge b w.heap.size with hl | hl
  · exact hl
  · simp [Array.getElem?_eq_none hl] at h

theorem below_setRow {b : Nat} (hb : n0 ≤ b) (c : Array Value) : Below n0 w (w.setRow b c) :=
  ⟨rfl, rfl, rfl, by simp [World.setRow], fun k hk => setRow_other w b k c (by omega)⟩

theorem leaf_one {x : AV} {v : Value} (hl : leafB x = true) (h : RepV w own β ok x v) : v.oneCell' = true := by
  cases h with
  | closed h =>
    cases h with
    | lit => cases v <;> first | rfl | (simp [leafB] at hl)
    | agg => simp [leafB] at hl
    | tuple => simp [leafB] at hl
    | any => simp [leafB] at hl
    | _ => rfl
  | agg => simp [leafB] at hl
  | func => rfl
  | tuple => simp [leafB] at hl
  | view => rfl
  | ptr => rfl
  | rptr => rfl
  | mref => rfl
theorem leafs_one : ∀ {xs : List AV} {vs : List Value}, xs.all leafB = true → RepVL w own β ok xs vs → ∀ u ∈ vs, u.oneCell' = true
  | [], _, _, h, u, hu => by cases h; cases hu
  | x :: xs, _, hl, h, u, hu => by
    cases h with
    | cons h1 h2 =>
      simp only [List.all_cons, Bool.and_eq_true] at hl
      rcases List.mem_cons.mp hu with rfl | hu
      · exact leaf_one hl.1 h1
      · exact leafs_one hl.2 h2 u hu
theorem closed_rep {x : AV} {v : Value} (hl : closedB x = true) (h : RepV w own β ok x v) : RepC w own x v := by
  cases h with
  | closed h => exact h
  | agg => simp [closedB] at hl
  | @func fn cs vs h1 =>
    cases h1 with
    | nil => exact .func .nil
    | cons => simp [closedB] at hl
  | tuple => simp [closedB] at hl
  | view => simp [closedB] at hl
  | ptr => simp [closedB] at hl
  | rptr => simp [closedB] at hl
  | mref => simp [closedB] at hl
theorem closeds_rep : ∀ {xs : List AV} {vs : List Value}, xs.all closedB = true → RepVL w own β ok xs vs → RepCL w own xs vs
  | [], _, _, h => by cases h; exact .nil
  | x :: xs, _, hl, h => by
    cases h with
    | cons h1 h2 =>
      simp only [List.all_cons, Bool.and_eq_true] at hl
      exact .cons (closed_rep hl.1 h1) (closeds_rep hl.2 h2)

/-- What a store gives back. -/
def Stored (n0 : Nat) (ext : Nat → Prop) (β : Nat → Nat → Loc) (ok : Nat → Nat → Prop) (st : St) (r : Res) (a : Act) (w : World) (run : Result Unit) : Prop :=
  ∃ w', run = .ok () w' ∧ StRel n0 ext β ok ⟨st.τ, applyUpd st.σ r.upd, st.gen⟩ a w' ∧ Below n0 w w' ∧ r.v = .any

theorem run_storeVar {t : TypeId} {i : TypeInfo} (hi : P.info? t = some i) {b off : Nat} {c : Array Value} {ty : TypeId} {v : Value} (hh : w.heap[b]? = some (.cells c ty (0, 0))) (hs : v.cells.size = i.size) (hl : off + v.cells.size ≤ c.size)
    (h1 : ∀ u ∈ v.cells.toList, u.oneCell' = true) : (storeVar t ⟨b, off, none⟩ v).run P w = .ok () (w.setRow b (c.toList.take off ++ v.cells.toList ++ c.toList.drop (off + v.cells.toList.length)).toArray) := by
  have := run_storeCells_at P b off ty v.cells.toList 0 c w hh (by simpa using hl) h1
  simp only [Nat.add_zero] at this
  simp only [storeVar, Sem.run_bind, run_sizeOf hi, Result.andThen_ok]
  rw [if_neg (by simpa using hs)]
  exact this

theorem set_flatten {es : Nat} : ∀ {els : List (List AV)} {i : Nat} {y : List AV}, (∀ e ∈ els, e.length = es) → y.length = es → i < els.length → (els.set i y).flatten = els.flatten.take (i * es) ++ y ++ els.flatten.drop ((i + 1) * es)
  | [], i, y, _, _, h => by simp at h
  | e :: els, 0, y, hl, hy, _ => by
    have h0 : e.length = es := hl e (by simp)
    simp [← h0]
  | e :: els, i + 1, y, hl, hy, h => by
    have h0 : e.length = es := hl e (by simp)
    have ih := set_flatten (els := els) (i := i) (y := y) (fun x hx => hl x (by simp [hx])) hy (by simpa using h)
    have e1 : (i + 1) * es = e.length + i * es := by rw [h0, Nat.add_mul]; omega
    have e2 : (i + 1 + 1) * es = e.length + (i + 1) * es := by rw [h0, Nat.add_mul (i + 1)]; omega
    rw [List.set_cons_succ, List.flatten_cons, ih, List.flatten_cons, e1, e2, List.take_append, List.drop_append, List.take_of_length_le (i := e.length + i * es) (by omega), List.drop_of_length_le (i := e.length + (i + 1) * es) (by omega)]
    simp only [Nat.add_sub_cancel_left, List.nil_append, List.append_assoc, e1]

theorem length_setA {cs xs : List AV} {off : Nat} (h : off + xs.length ≤ cs.length) : (setA cs off xs).length = cs.length := by
  simp only [setA, List.length_append, List.length_take, List.length_drop]; omega

theorem storeM_sound (h : StRel n0 ext β ok st a w) {t : TypeId} {x p : AV} {vx vp : Value} {pre : Prop} {r : Res} (hx : RepV w (ownOf ext β st.σ) β ok x vx) (hp : RepV w (ownOf ext β st.σ) β ok p vp)
    (he : storeM P st.σ t x p = some (pre, r)) (hpre : pre) : Stored n0 ext β ok st r a w ((Instr.storeAt t vp vx).run P w) := by
  unfold storeM at he
  split at he
  · rename_i k g off
    split at he
    · rename_i cs xs hl hc
      split at he
      · rename_i hcond
        obtain ⟨h1, h2, h3, h4⟩ := hcond
        simp only [Option.some.injEq, Prod.mk.injEq] at he; obtain ⟨_, rfl⟩ := he
        obtain ⟨i, d, hi, hs, _, _, _, _⟩ := okSize_info h4
        obtain ⟨_, rfl⟩ := hp.ptr_open
        have hb := lookBox_some hl
        obtain ⟨_, hreg⟩ := h.regs _ _ hb
        obtain ⟨hn, hn0, c, ty, hh, hrep⟩ := hreg
        have hxs := cellsA_rep hc hx
        have e1 := hxs.length; have e2 := hrep.length
        have hsz : vx.cells.size = xs.length := by simp at e1; omega
        have hcs : c.size = cs.length := by simp at e2; omega
        have hrun := run_storeVar (P := P) (off := off) (v := vx) hi hh (by rw [hsz, hs, h1]) (by omega) (leafs_one h3 hxs)
        have hnew : RepVL w (ownOf ext β st.σ) β ok (setA cs off xs) (c.toList.take off ++ vx.cells.toList ++ c.toList.drop (off + vx.cells.toList.length)) := by
          have e3 : vx.cells.toList.length = xs.length := e1.symm
          rw [e3, setA]
          exact ((hrep.take off).append hxs).append (hrep.drop _)
        refine ⟨_, by simpa [Instr.storeAt, Instr.sureAddr] using hrun, ?_, below_setRow hn0 _, rfl⟩
        refine h.inplace hb rfl hn (by simp [World.setRow]) (fun b hb => setRow_other _ _ _ _ hb) (fun own' hg => ?_)
        exact ⟨hn, hn0, _, ty, setRow_heap _ _ _ _ _ _ hh, by simpa using hnew.mono hg (fun _ _ x => x) (fun _ _ _ => rfl)⟩
      · cases he
    · cases he
  · rename_i k g es i0 off
    split at he
    · rename_i es' els xs hl hc
      split at he
      · rename_i hcond
        obtain ⟨h0, h1, h2, h5, h3, h4⟩ := hcond
        subst h0
        simp only [Option.some.injEq, Prod.mk.injEq] at he; obtain ⟨rfl, rfl⟩ := he
        obtain ⟨i, d, hi, hs, _, _, _, _⟩ := okSize_info h4
        obtain ⟨_, rfl⟩ := hp.rptr_open
        have hb := lookRow_some hl
        obtain ⟨_, hreg⟩ := h.regs _ _ hb
        obtain ⟨hlen, hes, hcap, hor⟩ := hreg
        rcases hor with ⟨_, e0, _⟩ | ⟨hn, hn0, c, ty, vs, rest, hh, hcl, hrep, hsz0⟩
        · subst e0; simp at hpre
        · have hxs := cellsA_rep hc hx
          have hxc := closeds_rep h5 hxs
          have e1 := hxs.length; have e2 := hrep.length
          have hfl := length_flatten_const hes
          have hel : (els.getD i0 []).length = es := by
            rw [List.getD_eq_getElem?_getD, List.getElem?_eq_getElem hpre]; exact hes _ (List.getElem_mem hpre)
          have hmul : (i0 + 1) * es ≤ els.length * es := Nat.mul_le_mul_right _ hpre
          have hmul2 : (i0 + 1) * es = i0 * es + es := by rw [Nat.add_mul]; omega
          have hcsz : vs.length ≤ c.size := by have := congrArg List.length hcl; simp at this; omega
          have hrun := run_storeVar (P := P) (off := i0 * es + off) (v := vx) hi hh (by simp at e1; omega) (by simp at e1; omega) (leafs_one h3 hxs)
          have e3 : vx.cells.toList.length = xs.length := e1.symm
          have hnl : (setA (els.getD i0 []) off xs).length = es := by rw [length_setA h2, hel]
          have hnew : RepCL w (ownOf ext β st.σ) (els.set i0 (setA (els.getD i0 []) off xs)).flatten (vs.take (i0 * es + off) ++ vx.cells.toList ++ vs.drop (i0 * es + off + xs.length)) := by
            rw [set_flatten hes hnl hpre]
            have e5 : els.flatten.take (i0 * es) ++ setA (els.getD i0 []) off xs ++ els.flatten.drop ((i0 + 1) * es) = els.flatten.take (i0 * es + off) ++ xs ++ els.flatten.drop (i0 * es + off + xs.length) := by
              rw [← getD_flatten hes hpre, setA]
              have q1 : els.flatten.take (i0 * es + off) = els.flatten.take (i0 * es) ++ ((els.flatten.drop (i0 * es)).take es).take off := by
                rw [List.take_take, Nat.min_eq_left (by omega), ← List.take_add]
              have q2 : els.flatten.drop (i0 * es + off + xs.length) = ((els.flatten.drop (i0 * es)).take es).drop (off + xs.length) ++ els.flatten.drop ((i0 + 1) * es) := by
                rw [hmul2, ← List.drop_drop (i := es) (j := i0 * es), List.drop_take]
                have : i0 * es + off + xs.length = i0 * es + (off + xs.length) := by omega
                rw [this, ← List.drop_drop (i := off + xs.length) (j := i0 * es)]
                generalize els.flatten.drop (i0 * es) = q
                have : q.drop es = (q.drop (off + xs.length)).drop (es - (off + xs.length)) := by rw [List.drop_drop]; congr 1; omega
                rw [this, List.take_append_drop]
              rw [q1, q2]; simp [List.append_assoc]
            rw [e5]
            exact ((hrep.take _).append hxc).append (hrep.drop _)
          refine ⟨_, by simpa [Instr.storeAt, Instr.sureAddr] using hrun, ?_, below_setRow hn0 _, rfl⟩
          refine h.inplace hb rfl hn (by simp [World.setRow]) (fun b hb => setRow_other _ _ _ _ hb) (fun own' hg => ?_)
          refine ⟨by simpa using hlen, ?_, by simpa using hcap, .inr ⟨hn, hn0, _, ty, vs.take (i0 * es + off) ++ vx.cells.toList ++ vs.drop (i0 * es + off + xs.length), rest, setRow_heap _ _ _ _ _ _ hh, ?_, hnew.mono hg, ?_⟩⟩
          · intro e he
            rcases List.mem_or_eq_of_mem_set he with he | rfl
            · exact hes _ he
            · exact hnl
          · have e6 : vx.cells.size = xs.length := by simpa using e3
            simp only [hcl, e6]
            rw [List.take_append_of_le_length (by omega), List.drop_append_of_le_length (by omega)]
            simp only [List.append_assoc]
          · have : c.toList.length = c.size := by simp
            simp only [List.size_toArray, List.length_append, List.length_take, List.length_drop, this]
            simp only [Array.length_toList] at *
            omega
      · cases he
    · cases he
  · cases he
end
end Go.Ab
