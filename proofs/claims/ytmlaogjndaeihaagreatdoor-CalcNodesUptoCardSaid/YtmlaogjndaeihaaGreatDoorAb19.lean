/- A law's arguments are opened into trees, and its answer is closed. -/
import Derived.Test.YtmlaogjndaeihaaGreatDoorAb18
import Derived.ChangeArms
import Derived.ChangeSame
import Derived.Carry
import Derived.RowKit
namespace Go.Ab
open Go.RowKit

/-- A type, as a tree. -/
inductive TT where
  | int (k : IntKind)
  | str
  | bool
  | fields (ts : List TT)
  | slice (es : Nat) (t : TT)

mutual
def treeOf (P : Program) : Nat → TypeId → Option TT
  | 0, _ => none
  | n + 1, t =>
    match P.underlying t with
    | some (.int k) => some (.int k)
    | some .string => some .str
    | some .bool => some .bool
    | some (.slice e) => if 0 < P.bytesOf e then (treeOf P n e).map (.slice (P.cellsOf e)) else none
    | some (.struct fs) => (treesOf P n 0 (P.cellsOf t) fs.toList).map .fields
    | _ => none
def treesOf (P : Program) : Nat → Nat → Nat → List Field → Option (List TT)
  | 0, _, _, _ => none
  | _ + 1, off, sz, [] => if off = sz then some [] else none
  | n + 1, off, sz, f :: fs => if f.offset = off then (treeOf P n f.type).bind fun x => (treesOf P n (off + P.cellsOf f.type) sz fs).map (x :: ·) else none
end

/-- Cells of a type, with the datum that the statement reads there. -/
inductive Ty {H : Type} : TT → DataW H → List AV → Prop where
  | int {k : IntKind} {n : Int} : (Lit.int k n).wf = true → Ty (.int k) (.lit (.int k n)) [.int k n]
  | str {s : ByteArray} : s.size ≤ reachBytes → Ty .str (.lit (.string s.data.toList)) [.str s]
  | bool {b : Bool} : Ty .bool (.lit (.bool b)) [.bool b]
  | fnil : Ty (.fields []) (.agg []) []
  | fcons {t : TT} {ts : List TT} {d : DataW H} {ds : List (DataW H)} {xs ys : List AV} : Ty t d xs → Ty (.fields ts) (.agg ds) ys → Ty (.fields (t :: ts)) (.agg (d :: ds)) (xs ++ ys)
  | nil {es : Nat} {t : TT} : Ty (.slice es t) .nil [.slice []]
  | slice {es : Nat} {t : TT} {ds sp : List (DataW H)} {els : List (List AV)} : ds.length = els.length → (∀ (i : Nat) (d : DataW H) (e : List AV), ds[i]? = some d → els[i]? = some e → Ty t d e) → (∀ e ∈ els, e.length = es) → els.length ≤ reachBytes →
      Ty (.slice es t) (.slice ds sp) [.slice els]

section
variable {H : Type} {enc : TypeId × Value → H} {P : Program} {w : World}

theorem repCL_append {own : Nat → Prop} : ∀ {xs ys : List AV} {vs us : List Value}, RepCL w own xs vs → RepCL w own ys us → RepCL w own (xs ++ ys) (vs ++ us)
  | [], _, [], _, .nil, h => h
  | _ :: _, _, _ :: _, _, .cons h1 h2, h => .cons h1 (repCL_append h2 h)
theorem repCL_length {own : Nat → Prop} : ∀ {xs : List AV} {vs : List Value}, RepCL w own xs vs → xs.length = vs.length
  | [], [], .nil => rfl
  | _ :: _, _ :: _, .cons _ h => by simp [repCL_length h]

theorem addr_add_off (a : Addr) (h : a.spot = none) (n : Nat) : a.add n = ⟨a.block, a.off + n, none⟩ := by
  unfold Addr.add
  split
  · rename_i h0; subst h0; cases a; simp_all
  · rfl
theorem open_cells_at {a : Addr} {k n : Nat} {cs : List Value} (h : w.cells? 0 (a.add k) n = some cs) : cs.length = n ∧ ∀ i v, cs[i]? = some v → w.cell? ⟨a.block, a.off + k + i, none⟩ = some v := by
  obtain ⟨_, hl, hc⟩ := World.cells?_some h
  refine ⟨hl, fun i v hv => ?_⟩
  have hi : i < n := by rw [← hl]; exact (List.getElem?_eq_some_iff.1 hv).1
  have h1 : w.cell? ((a.add k).add i) = some v := (hc i hi).trans hv
  have hs := World.cell?_spot h1
  have e : ((a.add k).add i) = ⟨a.block, a.off + k + i, none⟩ := by
    unfold Addr.add at hs ⊢
    split <;> split <;> simp_all <;> (cases a; simp_all)
  rw [← e]; exact h1

theorem weightsAll_mem {e : TypeId} {d : DataW H} : ∀ {ds : List (DataW H)}, d ∈ ds → ∀ q ∈ d.weights P e, q ∈ DataW.weightsAll P e ds
  | x :: ds, h, q, hq => by
    rw [DataW.weightsAll, List.mem_append]
    rcases List.mem_cons.1 h with rfl | h
    · exact .inl hq
    · exact .inr (weightsAll_mem h q hq)

theorem opens : ∀ (n : Nat), (∀ (t : TypeId) (T : TT) (fuel : Nat) (cs : List Value) (x : DataW H × List MemPlace), treeOf P n t = some T → DataW.trod enc P w 0 (fun _ => true) true fuel t cs = some x → (∀ m ∈ x.1.weights P t, m ≤ reachBytes) →
      ∃ xs, Ty T x.1 xs ∧ RepCL w (fun _ => False) xs cs) ∧
    (∀ (off sz : Nat) (fs : List Field) (Ts : List TT) (fuel : Nat) (cs : List Value) (xs : List (DataW H × List MemPlace)), treesOf P n off sz fs = some Ts → cs.length = sz → off ≤ sz → xs.length = fs.length →
      (∀ (i : Nat) (f : Field), fs[i]? = some f → DataW.trod enc P w 0 (fun _ => true) true fuel f.type ((cs.drop f.offset).take (P.cellsOf f.type)) = xs[i]?) → (∀ m ∈ DataW.weightsEach P (fs.map (·.type)) (xs.map (·.1)), m ≤ reachBytes) →
      ∃ ys, Ty (.fields Ts) (.agg (xs.map (·.1))) ys ∧ RepCL w (fun _ => False) ys (cs.drop off))
  | 0 => ⟨fun _ _ _ _ _ h => by simp [treeOf] at h, fun _ _ _ _ _ _ _ h => by simp [treesOf] at h⟩
  | n + 1 => by
    obtain ⟨ih1, ih2⟩ := opens n
    refine ⟨fun t T fuel cs x hT hx hwt => ?_, fun off sz fs Ts fuel cs xs hT hl ho hn hf hwt => ?_⟩
    · rw [treeOf] at hT
      split at hT
      · rename_i k hu
        obtain ⟨z, rfl, rfl, hw⟩ := DataW.trod_int hu hx
        cases hT
        exact ⟨[.int k z], .int hw, .cons (.int _ _) .nil⟩
      · rename_i hu
        obtain ⟨s, rfl, rfl, hs⟩ := DataW.trod_string hu hx
        cases hT
        exact ⟨[.str s], .str (hwt _ (by simp [DataW.weights])), .cons (.str _) .nil⟩
      · rename_i hu
        obtain ⟨b, rfl, rfl⟩ := DataW.trod_bool hu hx
        cases hT
        exact ⟨[.bool b], .bool, .cons (.bool _) .nil⟩
      · rename_i e hu
        split at hT
        case isFalse => cases hT
        rename_i hbp
        simp only [Option.map_eq_some_iff] at hT
        obtain ⟨T', hT', rfl⟩ := hT
        rcases DataW.trod_slice hu hx with ⟨rfl, rfl⟩ | ⟨a, len, cap, elems, rest, m, rfl, rfl, rfl, _, hlc, hcm, hlen, hel, _⟩
        · exact ⟨[.slice []], .nil, .cons .slice0 .nil⟩
        · simp only [DataW.weights, hu, List.mem_cons, List.mem_append, forall_eq_or_imp, List.length_map] at hwt
          have hlw : elems.length ≤ reachBytes := by
            have h1 : elems.length + rest.length ≤ (elems.length + rest.length) * P.bytesOf e := Nat.le_mul_of_pos_right _ hbp
            have := hwt.1
            omega
          have hk : ∀ k, k ≤ len → ∃ (els : List (List AV)) (vs : List Value), els.length = k ∧ RepCL w (fun _ => False) els.flatten vs ∧ vs.length = k * P.cellsOf e ∧
              (∀ e' ∈ els, e'.length = P.cellsOf e) ∧ (∀ j v, vs[j]? = some v → w.cell? ⟨a.block, a.off + j, none⟩ = some v) ∧ ((vs ≠ []) → a.spot = none) ∧
              (∀ (i : Nat) (d : DataW H) (e' : List AV), (elems.map (·.1))[i]? = some d → els[i]? = some e' → Ty T' d e') := by
            intro k
            induction k with
            | zero => intro _; exact ⟨[], [], rfl, .nil, by simp, by simp, by simp, by simp, by simp⟩
            | succ k ih =>
              intro hk
              obtain ⟨els, vs, h1, h2, h3, h4, h5, h6, h7⟩ := ih (by omega)
              have hc := hel k (by omega)
              obtain ⟨y, hy⟩ : ∃ y, elems[k]? = some y := ⟨elems[k]'(by omega), List.getElem?_eq_getElem _⟩
              rw [hy] at hc
              simp only [Option.bind_eq_some_iff] at hc
              obtain ⟨c1, hc1, hy1⟩ := hc
              obtain ⟨hl1, hcell⟩ := open_cells_at hc1
              obtain ⟨zs, hz1, hz2⟩ := ih1 e T' m c1 y hT' hy1 (fun q hq => hwt.2 q (.inl (weightsAll_mem (List.mem_map.2 ⟨y, List.mem_of_getElem? hy, rfl⟩) q hq)))
              have hzl : zs.length = P.cellsOf e := by rw [repCL_length hz2, hl1]
              refine ⟨els ++ [zs], vs ++ c1, by simp [h1], by simpa using repCL_append h2 hz2, by simp [h3, hl1, Nat.add_mul], ?_, ?_, ?_, ?_⟩
              · intro e' he'
                rcases List.mem_append.1 he' with he' | he'
                · exact h4 _ he'
                · rw [List.mem_singleton.1 he']; exact hzl
              · intro j v hv
                by_cases hj : j < vs.length
                · rw [List.getElem?_append_left hj] at hv; exact h5 j v hv
                · rw [List.getElem?_append_right (by omega)] at hv
                  have := hcell _ v hv
                  rw [h3] at this hj
                  rw [show a.off + j = a.off + k * P.cellsOf e + (j - k * P.cellsOf e) by omega]; exact this
              · intro hne
                by_cases hv : vs = []
                · subst hv
                  obtain ⟨v, hv⟩ : ∃ v, c1[0]? = some v := by
                    cases c1 with
                    | nil => simp at hne
                    | cons v _ => exact ⟨v, rfl⟩
                  have h9 : w.cell? ((a.add (k * P.cellsOf e)).add 0) = some v := ((World.cells?_some hc1).2.2 0 (by rw [← hl1]; exact (List.getElem?_eq_some_iff.1 hv).1)).trans hv
                  have hpos : 0 < P.cellsOf e := by rw [← hl1]; exact (List.getElem?_eq_some_iff.1 hv).1
                  have hk0 : k = 0 := by
                    have : k * P.cellsOf e = 0 := by simpa using h3.symm
                    rcases Nat.mul_eq_zero.1 this with h | h
                    · exact h
                    · omega
                  subst hk0
                  have := World.cell?_spot h9
                  simpa [Addr.add] using this
                · exact h6 hv
              · intro i d e' hd he'
                by_cases hi : i < els.length
                · rw [List.getElem?_append_left hi] at he'; exact h7 i d e' hd he'
                · rw [List.getElem?_append_right (by omega)] at he'
                  have hi2 : i = k := by
                    have : i - els.length < 1 := (List.getElem?_eq_some_iff.1 he').1
                    omega
                  subst hi2
                  rw [h1, Nat.sub_self] at he'
                  simp only [List.getElem?_cons_zero, Option.some.injEq] at he'
                  subst he'
                  rw [List.getElem?_map, hy] at hd
                  simp only [Option.map_some, Option.some.injEq] at hd
                  subst hd
                  exact hz1
          obtain ⟨els, vs, h1, h2, h3, h4, h5, h6, h7⟩ := hk len (Nat.le_refl _)
          refine ⟨[.slice els], .slice (by simp [hlen, h1]) h7 h4 (by omega), .cons ?_ .nil⟩
          rw [← h1]
          exact .slice h4 h2 ⟨h6, fun j v hj => ⟨id, h5 j v hj⟩⟩ (by omega)
      · rename_i fs hu
        simp only [Option.map_eq_some_iff] at hT
        obtain ⟨Ts, hT', rfl⟩ := hT
        obtain ⟨xs, m, rfl, rfl, hl, hlen, hf⟩ := DataW.trod_struct hu hx
        obtain ⟨ys, hy1, hy2⟩ := ih2 0 (P.cellsOf t) fs.toList Ts m cs xs hT' hl (Nat.zero_le _) (by simpa using hlen) (fun i f hi => hf i f (by simpa using hi)) (by simpa only [DataW.weights, hu] using hwt)
        exact ⟨ys, hy1, by simpa using hy2⟩
      · cases hT
    · cases fs with
      | nil =>
        rw [treesOf] at hT
        split at hT
        · cases hT
          obtain rfl := List.eq_nil_of_length_eq_zero (by simpa using hn)
          exact ⟨[], .fnil, by rw [List.drop_eq_nil_of_le (by omega)]; exact .nil⟩
        · cases hT
      | cons f fs =>
        rw [treesOf] at hT
        split at hT
        · rename_i hfo
          simp only [Option.bind_eq_some_iff, Option.map_eq_some_iff] at hT
          obtain ⟨T, hT1, Ts', hT2, rfl⟩ := hT
          cases xs with
          | nil => simp at hn
          | cons y xs =>
            have hy := hf 0 f rfl
            simp only [List.getElem?_cons_zero] at hy
            simp only [List.map_cons, DataW.weightsEach, List.mem_append] at hwt
            obtain ⟨zs, hz1, hz2⟩ := ih1 f.type T fuel _ y hT1 hy (fun q hq => hwt q (.inl hq))
            have hzl : zs.length = ((cs.drop f.offset).take (P.cellsOf f.type)).length := repCL_length hz2
            by_cases hle : off + P.cellsOf f.type ≤ sz
            · obtain ⟨ys, hy1, hy2⟩ := ih2 (off + P.cellsOf f.type) sz fs Ts' fuel cs xs hT2 hl hle (by simpa using hn) (fun i g hi => by have := hf (i + 1) g (by simpa using hi); simpa using this) (fun q hq => hwt q (.inr hq))
              refine ⟨zs ++ ys, .fcons hz1 hy1, ?_⟩
              rw [← List.take_append_drop (P.cellsOf f.type) (cs.drop off), List.drop_drop]
              rw [hfo] at hz2
              exact repCL_append hz2 hy2
            · exact absurd (treesOf_le hT2) hle
        · cases hT
where
  treesOf_le {P : Program} : ∀ {n off sz : Nat} {fs : List Field} {Ts : List TT}, treesOf P n off sz fs = some Ts → off ≤ sz
  | 0, _, _, _, _, h => by simp [treesOf] at h
  | n + 1, off, sz, [], _, h => by
    rw [treesOf] at h
    split at h
    · omega
    · cases h
  | n + 1, off, sz, f :: fs, _, h => by
    rw [treesOf] at h
    split at h
    · simp only [Option.bind_eq_some_iff, Option.map_eq_some_iff] at h
      obtain ⟨_, _, Ts', h2, _⟩ := h
      have := treesOf_le h2
      omega
    · cases h

/-- One argument: an aggregate's cells stand in one value. -/
def packT : TT → List AV → AV
  | .fields _, xs => .agg xs
  | _, xs => xs.headD .any
theorem open_arg {n : Nat} {t : TypeId} {T : TT} {b0 : Nat} {v : Value} {d : DataW H} {ps : List MemPlace} (hT : treeOf P n t = some T) (hv : Value.okWide P w .any b0 t v) (h : DataW.Trod enc P w 0 (fun _ => true) true t v d ps) (hwt : ∀ m ∈ d.weights P t, m ≤ reachBytes) :
    ∃ xs, Ty T d xs ∧ RepC w (fun _ => False) (packT T xs) v := by
  obtain ⟨fuel, h⟩ := h
  obtain ⟨xs, h1, h2⟩ := (opens n).1 t T fuel _ _ hT h hwt
  refine ⟨xs, h1, ?_⟩
  cases n with
  | zero => simp [treeOf] at hT
  | succ n =>
    have plain : (∀ cs, v ≠ .agg cs) → v.cells.toList = [v] := fun hne => by
      cases v <;> first | rfl | exact absurd rfl (hne _)
    have one : ∀ x, v.cells.toList = [v] → xs = [x] → RepC w (fun _ => False) x v := fun x hc hx => by
      rw [hc, hx] at h2
      cases h2 with
      | cons h3 _ => exact h3
    rw [treeOf] at hT
    split at hT
    · rename_i k hu
      cases hT
      cases h1
      exact one _ (plain fun cs e => by subst e; simp [Value.okWide, hu, Cell.okWide, Cell.ok] at hv) rfl
    · rename_i hu
      cases hT
      cases h1
      exact one _ (plain fun cs e => by subst e; simp [Value.okWide, hu, Cell.okWide, Cell.ok] at hv) rfl
    · rename_i hu
      cases hT
      cases h1
      exact one _ (plain fun cs e => by subst e; simp [Value.okWide, hu, Cell.okWide, Cell.ok] at hv) rfl
    · rename_i e hu
      split at hT
      case isFalse => cases hT
      simp only [Option.map_eq_some_iff] at hT
      obtain ⟨T', _, rfl⟩ := hT
      have hp := plain fun cs e => by subst e; simp [Value.okWide, hu, Cell.okWide, Cell.ok] at hv
      cases h1 with
      | nil => exact one _ hp rfl
      | slice _ _ _ _ => exact one _ hp rfl
    · rename_i fs hu
      simp only [Option.map_eq_some_iff] at hT
      obtain ⟨Ts, _, rfl⟩ := hT
      simp only [Value.okWide, hu] at hv
      obtain ⟨cs, rfl, _, _⟩ := hv
      have := RepC.agg h2
      simpa [packT, Value.cells] using this
    · cases hT
theorem ty_list {α : Type} (f : α → List AV) (Q : α → Prop) {es : Nat} {t : TT} (hT : ∀ (d : DataW H) (e : List AV), Ty t d e → ∃ a, e = f a ∧ Q a) {d : DataW H} {xs : List AV} (h : Ty (.slice es t) d xs) :
    ∃ l : List α, xs = [.slice (l.map f)] ∧ (∀ a ∈ l, Q a) ∧ l.length ≤ reachBytes := by
  cases h with
  | nil => exact ⟨[], rfl, by simp, by simp⟩
  | slice h1 h2 h3 h4 =>
    rename_i ds sp els
    have : ∀ (els : List (List AV)) (ds : List (DataW H)), ds.length = els.length → (∀ (i : Nat) (d : DataW H) (e : List AV), ds[i]? = some d → els[i]? = some e → Ty t d e) → ∃ l : List α, els = l.map f ∧ ∀ a ∈ l, Q a := by
      intro els
      induction els with
      | nil => intro _ _ _; exact ⟨[], rfl, by simp⟩
      | cons e els ih =>
        intro ds hl hd
        cases ds with
        | nil => simp at hl
        | cons d ds =>
          obtain ⟨a, rfl, ha⟩ := hT d e (hd 0 d e rfl rfl)
          obtain ⟨l, rfl, hq⟩ := ih ds (by simpa using hl) (fun i d e h1 h2 => hd (i + 1) d e (by simpa using h1) (by simpa using h2))
          exact ⟨a :: l, rfl, by intro b hb; rcases List.mem_cons.1 hb with rfl | hb; exact ha; exact hq b hb⟩
    obtain ⟨l, rfl, hl⟩ := this els ds h1 h2
    exact ⟨l, rfl, hl, by simpa using h4⟩

theorem trodAll_below (hl : laidOutB P = true) {W W' : World} (hb : Below W.heap.size W W') (sp : Nat → Bool) : ∀ {ts : List TypeId} {vs : List Value} {ds : List (DataW H)} {ps : List MemPlace}, (ts.all fun t => P.readableRec t && decide (t < P.types.size)) = true →
    DataW.TrodAll enc P W 0 (fun _ => true) true ts vs ds ps → (∀ x ∈ ps, x.block < W.heap.size) → (∀ x ∈ ps, sp x.block = true) → DataW.TrodAll enc P W' 0 sp true ts vs ds ps
  | [], [], [], _, _, h, _, _ => h
  | t :: ts, v :: vs, d :: ds, ps, hr, ⟨p, q, h1, h2, e⟩, hlt, hs => by
    simp only [List.all_cons, Bool.and_eq_true, decide_eq_true_eq] at hr
    refine ⟨p, q, WideElems.Trod_stays hl hr.1.1 hr.1.2 h1 (fun x hx => hb.same (hlt x (by rw [e]; exact List.mem_append_left _ hx))) (fun x hx => hs x (by rw [e]; exact List.mem_append_left _ hx)), ?_, e⟩
    exact trodAll_below hl hb sp hr.2 h2 (fun x hx => hlt x (by rw [e]; exact List.mem_append_right _ hx)) (fun x hx => hs x (by rw [e]; exact List.mem_append_right _ hx))

/-- A law that answered true and wrote nothing that was there. -/
theorem post_true {f : Func} {s : ChangeSpec} {apart fresh handsOn again : Bool} {W W' : World} {args : Array Value} {ds gs : List (DataW H)} {before : List MemPlace} {tb : TypeId}
    (hl : laidOutB P = true) (hr : (f.params.toList.all fun t => P.readableRec t && decide (t < P.types.size)) = true) (hrt : f.resultTypes = #[tb]) (hb : P.underlying tb = some .bool) (hv : s.vars = [])
    (hfn : s.fn H (ds ++ gs) = { results := [.lit (.bool true)], args := ds })
    (hW : DataW.Whole enc P f.params.toList s.vars apart W args.toList ds gs before) (hB : Below W.heap.size W W') :
    s.post enc P f apart fresh handsOn again W args (.bool true) W' := by
  have hW' := hW
  obtain ⟨p, q, hA, hV, he, hz, hn⟩ := hW
  rw [hv] at hV
  obtain ⟨rfl, rfl⟩ : gs = [] ∧ q = [] := by
    cases gs with
    | nil => exact ⟨rfl, hV⟩
    | cons g r => exact absurd hV (by intro h; cases h)
  have hlt : ∀ x ∈ p, x.block < W.heap.size := fun x hx => hW'.lt x (by rw [he]; simpa using hx)
  have hR : ∀ b sp hd, DataW.TrodAll enc P W' b sp hd f.resultTypes.toList ((Value.bool true).resultList f.resultTypes.size) (s.fn H (ds ++ [])).results [] := by
    intro b sp hd
    rw [hrt, hfn]
    exact ChangeShapes.trodAll_mk1 (RowKit.shut_bool hb true)
  have hA' : ∀ sp, (∀ x ∈ p, sp x.block = true) → DataW.TrodAll enc P W' 0 sp true f.params.toList args.toList (s.fn H (ds ++ [])).args p := fun sp hs => by
    rw [hfn]; exact trodAll_below hl hB sp hr hA hlt hs
  have hV' : ∀ sp, DataW.TrodVars enc P W' sp s.vars (s.fn H (ds ++ [])).vars [] := fun sp => by rw [hv, hfn]; rfl
  refine ⟨ds, [], before, [], p, [], hW', hR _ _ _, hA' _ (fun x hx => by simpa using hlt x hx), hV' _, hB.frame _, fun _ => ⟨?_, _, [], [] ++ p, ⟨[] ++ p, [], ChangeShapes.trodAll_append (hA' _ (fun _ _ => rfl)) (hR _ _ _), hv ▸ rfl, by simp, ?_, ?_⟩, ?_⟩⟩
  · intro j t r hj hr'
    rw [hrt] at hj hr'
    match j, hj, hr' with
    | 0, hj, hr' =>
      simp [Value.resultList] at hj hr'
      subst hj; subst hr'
      simp [Value.okWide, hb, Cell.okWide, Cell.ok]
  · intro b off hp
    have hp' : MemPlace.cell b off ∈ p := by simpa using hp
    have h1 := hlt _ hp'
    rw [hB.frozen (p := ⟨b, off, none⟩) h1]
    exact hz b off (by rw [he]; simpa using hp')
  · intro ha
    have := hn ha
    rw [he] at this
    simpa using this
  · intro x hx _
    rw [he]
    simpa using hx
end
end Go.Ab
