/- The plain law of CalcFits: what a node comes to is of its kind. -/
import Derived.Test.YtmlaogjndaeihaaGreatDoorL0
import Derived.Test.YtmlaogjndaeihaaGreatDoorL6
import Derived.Test.YtmlaogjndaeihaaGreatDoorT25
set_option linter.unusedSimpArgs false
set_option linter.unusedVariables false
namespace Go.Proofs.YtmlaogjndaeihaaGreatDoor
open Go Go.Ab
def fitO (k : Int) (o : Outv) : Prop := oOk o.v.kind o.v.int o.v.text o.err = true ∧ (o.v.kind = 0 ∨ o.v.kind = k)
theorem fit_null (k : Int) : fitO k nullO := ⟨rfl, .inl rfl⟩
theorem fit_err (k : Int) {e : Int} (h : isErr e = true) : fitO k (errO e) := by
  refine ⟨?_, .inl rfl⟩
  show oOk 0 0 emp e = true
  unfold oOk
  split
  · rfl
  · rw [h]; rfl
theorem fit_bool (b : Bool) : fitO 3 (boolO b) := by
  refine ⟨?_, .inr rfl⟩
  cases b <;> rfl
theorem fit_truth {o : Outv} (h : truthO o = true) : fitO 3 o := by
  refine ⟨?_, truth_kind h⟩
  rw [truthO, Bool.and_eq_true] at h
  exact h.1
theorem fit_num (r : Int × Int) (h : r.2 = 0 ∨ isErr r.2 = true) : fitO 1 (numO r) := by
  unfold numO
  split
  · exact fit_err 1 (h.resolve_left (by assumption))
  · refine ⟨?_, .inr rfl⟩
    show oOk 1 r.1 emp 0 = true
    simp [oOk, vOk]
theorem ar_err (n : Int) : (arI n).2 = 0 ∨ isErr (arI n).2 = true := by
  unfold arI; split
  · exact .inl rfl
  · exact .inr rfl
theorem ar2_err (op a b : Int) : (arI2 op a b).2 = 0 ∨ isErr (arI2 op a b).2 = true := by
  unfold arI2
  repeat' split
  · exact ar_err _
  · exact ar_err _
  · exact ar_err _
  · unfold divI; split
    · exact .inr rfl
    · exact ar_err _
  · unfold modI; split
    · exact .inr rfl
    · exact .inl rfl
theorem fit_text (s : ByteArray) : fitO 2 ⟨(textI s).1, (textI s).2⟩ := by
  unfold textI
  split
  · exact fit_err 2 (e := 5) rfl
  · refine ⟨?_, .inr rfl⟩
    show oOk 2 0 s 0 = true
    rename_i h
    simp [oOk, vOk]; omega
theorem common_mem (l : List Int) : ∀ a : Int, (commonGo a l).2 = true → (a = 0 ∨ a = (commonGo a l).1) ∧ ∀ x ∈ l, x = 0 ∨ x = (commonGo a l).1 := by
  induction l with
  | nil => intro a _; exact ⟨.inr rfl, by simp⟩
  | cons x r ih =>
    intro a h
    rw [commonGo] at h ⊢
    by_cases hx : agree a x = true
    · rw [if_pos hx] at h ⊢
      rw [agree_iff] at hx
      by_cases ha : a = 0
      · rw [if_pos ha] at h ⊢
        obtain ⟨h1, h2⟩ := ih x h
        refine ⟨.inl ha, fun y hy => ?_⟩
        rcases List.mem_cons.1 hy with rfl | hy
        · exact h1
        · exact h2 y hy
      · rw [if_neg ha] at h ⊢
        obtain ⟨h1, h2⟩ := ih a h
        refine ⟨h1, fun y hy => ?_⟩
        rcases List.mem_cons.1 hy with rfl | hy
        · rcases hx with rfl | hx | hx
          · exact h1
          · exact absurd hx ha
          · exact .inl hx
        · exact h2 y hy
    · rw [if_neg hx] at h; cases h
theorem choose_mem : ∀ os : List Outv, chooseO os = nullO ∨ (chooseO os ∈ os ∧ ((chooseO os).rk = 2 ∨ (chooseO os).v.kind ∈ (caseGo true (ksOf os)).2))
  | [] => .inl rfl
  | [x] => .inr ⟨by simp [chooseO], .inr (by simp [chooseO, ksOf, caseGo])⟩
  | c :: v :: r => by
    have e : (caseGo true (ksOf (c :: v :: r))).2 = v.v.kind :: (caseGo true (ksOf r)).2 := by
      simp [ksOf, caseGo]
    rw [chooseO, e]
    by_cases h2 : c.rk = 2
    · rw [if_pos h2]; exact .inr ⟨by simp, .inl h2⟩
    · rw [if_neg h2]
      by_cases h3 : c.rk = 3
      · rw [if_pos h3]; exact .inr ⟨by simp, .inr (by simp)⟩
      · rw [if_neg h3]
        rcases choose_mem r with h | ⟨h, h4⟩
        · exact .inl h
        · refine .inr ⟨by simp [h], ?_⟩
          rcases h4 with h4 | h4
          · exact .inl h4
          · exact .inr (List.mem_cons_of_mem _ h4)
theorem first_mem : ∀ os : List Outv, firstO os = nullO ∨ firstO os ∈ os
  | [] => .inl rfl
  | x :: r => by
    rw [firstO]
    split
    · exact .inr (by simp)
    · rcases first_mem r with h | h
      · exact .inl h
      · exact .inr (by simp [h])
theorem fail_mem (os : List Outv) : ∀ e : Int, os.foldl failB e = e ∨ ∃ o ∈ os, o.err ≠ 0 ∧ os.foldl failB e = o.err := by
  induction os with
  | nil => intro e; exact .inl rfl
  | cons o r ih =>
    intro e
    rw [List.foldl_cons]
    rcases ih (failB e o) with h | ⟨p, hp, h1, h2⟩
    · rw [h]
      unfold failB
      split
      · rename_i hc; exact .inr ⟨o, by simp, hc.1, rfl⟩
      · exact .inl rfl
    · exact .inr ⟨p, by simp [hp], h1, h2⟩
theorem ok_err {o : Outv} (h : oOk o.v.kind o.v.int o.v.text o.err = true) (he : o.err ≠ 0) : isErr o.err = true ∧ o.v.kind = 0 := by
  unfold oOk at h
  rw [if_neg he, Bool.and_eq_true] at h
  exact ⟨h.1, (zeroV_kind h.2).1⟩
theorem rk_two {o : Outv} (h : o.rk = 2) : o.err ≠ 0 := by
  unfold Outv.rk rk at h
  intro he
  rw [if_neg (by omega)] at h
  split at h
  · omega
  · split at h <;> omega
theorem kind_gives {op : Int} {ks : List Int} (n25 : op ≠ 25) (n26 : op ≠ 26) (h : (kindC op ks).2 = 0) : (kindC op ks).1 = (sigOf op).1.gives ∧ (commonC ((sigOf op).1.takes :: ks)).2 = true := by
  unfold kindC at h ⊢
  simp only [if_neg n25, if_neg n26] at h ⊢
  split at h
  · cases h
  · rename_i hg
    rw [if_neg hg]
    split at h
    · rename_i hc; rw [if_pos hc]; exact ⟨rfl, hc⟩
    · cases h
def nodeS (op : Int) (os : List Outv) : Outv := nodeC op os (strictO op (os.headD nullO).v (os.getLastD nullO).v ((ksOf os).any fun x => decide (0 = x)))
theorem ok_all {os : List Outv} (hi : ∀ o ∈ os, o.In) (h : os.all okC = true) : ∀ o ∈ os, oOk o.v.kind o.v.int o.v.text o.err = true := by
  intro o ho
  have := List.all_eq_true.1 h o ho
  rw [show okC o = oOk o.v.kind o.v.int o.v.text o.err from oOkC_eq _ _ _ _ (hi o ho).1.2.1] at this
  exact this
theorem ok_val {x : Val} (h : oOk x.kind x.int x.text 0 = true) : vOk x.kind x.int x.text = true := by
  unfold oOk at h; rw [if_pos rfl] at h; exact h
theorem node_all (op : Int) (os : List Outv) (hi : ∀ o ∈ os, o.In) (hl : os.length < 2 ^ 40) : ACalls Tryz.prog 6 [.int .u8 op, outs os] (.agg (nodeS op os).enc) := by
  refine calc_Node op os _ hl fun hB => ?_
  have hok := ok_all hi hB.1
  have hr : reachBytes < 2 ^ 47 := reach_lt
  rcases strict_shape hB with ⟨x, rfl, ho⟩ | ⟨x, y, rfl, ho⟩
  · have ix := hi ⟨x, 0⟩ (by simp)
    exact strict_one op ho x ix.1.2.1 (by have := ix.1.2.2; simp only at this; omega) _
  · have ix := hi ⟨x, 0⟩ (by simp)
    have iy := hi ⟨y, 0⟩ (by simp)
    exact strict_two op ho x y (vOk_kind (ok_val (hok ⟨x, 0⟩ (by simp)))) ix.1.2.1 iy.1.2.1 (by have := ix.1.2.2; simp only at this; omega) (by have := iy.1.2.2; simp only at this; omega) _
theorem fit_strict {op : Int} {os : List Outv} (hi : ∀ o ∈ os, o.In) (hB : strictB op os) : fitO (kindC op (ksOf os)).1 (strictO op (os.headD nullO).v (os.getLastD nullO).v ((ksOf os).any fun x => decide (0 = x))) := by
  have hok := ok_all hi hB.1
  obtain ⟨hg, hc⟩ := kind_gives hB.2.2.2.2.1 hB.2.2.2.2.2.1 hB.2.1
  rw [hg]
  rcases strict_shape hB with ⟨x, rfl, ho⟩ | ⟨x, y, rfl, ho⟩
  · have vx : vOk x.kind x.int x.text = true := ok_val (hok ⟨x, 0⟩ (by simp))
    have kx := vOk_kind vx
    simp only [List.headD_cons, List.getLastD_cons, List.getLastD_nil, ksOf, List.map_cons, List.map_nil, List.any_cons, List.any_nil, Bool.or_false] at hc ⊢
    cases hn : decide (0 = x.kind)
    · simp only [decide_eq_false_iff_not] at hn
      rcases ho with rfl | rfl | rfl | rfl | rfl
      · exact fit_num _ (ar_err _)
      · refine ⟨?_, .inr rfl⟩
        show oOk 1 _ emp 0 = true
        simp [oOk, vOk]
      · exact fit_bool _
      · exact fit_bool _
      · have h3 : x.kind = 3 := by
          rw [show (sigOf 22).1.takes = 3 from rfl, commonC_pos 3 (by omega) [x.kind] (by intro z hz; simp only [List.mem_singleton] at hz; omega)] at hc
          simp only [List.all_cons, List.all_nil, Bool.and_true, agree_iff] at hc
          omega
        have ht : truthO ⟨x, 0⟩ = true := by
          rw [h3] at vx
          simp [truthO, oOk, vx, h3]
        exact fit_truth (not_cases ht).1
    · rcases ho with rfl | rfl | rfl | rfl | rfl
      · exact fit_null _
      · exact fit_null _
      · exact fit_bool _
      · exact fit_bool _
      · exact fit_null _
  · generalize ((ksOf [(⟨x, 0⟩ : Outv), ⟨y, 0⟩]).any fun x => decide (0 = x)) = null
    simp only [List.headD_cons, List.getLastD_cons, List.getLastD_nil]
    cases null
    · rcases ho with h | h | h | h | h | h | h | h | h | h | h | h | h | h
      · subst h; exact fit_num _ (ar2_err _ _ _)
      · subst h; exact fit_num _ (ar2_err _ _ _)
      · subst h; exact fit_num _ (ar2_err _ _ _)
      · subst h; exact fit_num _ (ar2_err _ _ _)
      · subst h; exact fit_num _ (ar2_err _ _ _)
      · subst h; exact fit_text _
      all_goals (subst h; exact fit_bool _)
    · rcases ho with h | h | h | h | h | h | h | h | h | h | h | h | h | h
      all_goals subst h
      all_goals first | exact fit_null _ | exact fit_bool _
theorem fits_law (op : Int) (os : List Outv) (hi : ∀ o ∈ os, o.In) (hl : os.length < 2 ^ 40) (hok : os.all okC = true) (hk : (kindC op (ksOf os)).2 = 0) : fitO (kindC op (ksOf os)).1 (nodeS op os) := by
  have hv := ok_all hi hok
  have hpos : ∀ x ∈ ksOf os, 0 ≤ x := by
    intro x hx
    obtain ⟨o, ho, rfl⟩ := List.mem_map.1 hx
    exact (hi o ho).1.1
  have hal := kinds_alike op (ksOf os) (by simp; omega) hpos
  unfold nodeS nodeC
  rw [if_neg (by rw [hok]; simp), if_neg (by rw [hk]; simp)]
  have mem_fit : ∀ o ∈ os, (o.err ≠ 0 ∨ o.v.kind = 0 ∨ o.v.kind = (kindC op (ksOf os)).1) → fitO (kindC op (ksOf os)).1 o := by
    intro o ho h
    refine ⟨hv o ho, ?_⟩
    rcases h with h | h | h
    · exact .inl (ok_err (hv o ho) h).2
    · exact .inl h
    · exact .inr h
  have htr : (op = 23 ∨ op = 24) → (∀ o ∈ os, truthO o = true) ∧ (kindC op (ksOf os)).1 = 3 := by
    intro hop
    obtain ⟨hg, hc⟩ := kind_gives (by omega) (by omega) hk
    have hsig : (sigOf op).1 = ⟨0, 2 ^ 62, 3, 3⟩ := by rcases hop with rfl | rfl <;> rfl
    rw [hsig] at hg hc
    refine ⟨fun o ho => ?_, hg⟩
    rw [commonC_pos 3 (by omega) _ hpos, List.all_eq_true] at hc
    have h1 := hc o.v.kind (List.mem_map.2 ⟨o, ho, rfl⟩)
    rw [agree_iff] at h1
    have h2 : o.v.kind = 0 ∨ o.v.kind = 3 := by omega
    rw [truthO, hv o ho]
    rcases h2 with h2 | h2 <;> simp [h2]
  by_cases h23 : op = 23
  · rw [if_pos h23]
    obtain ⟨ht, hg⟩ := htr (.inl h23)
    rw [hg]; exact fit_truth (and_truth ht).1
  rw [if_neg h23]
  by_cases h24 : op = 24
  · rw [if_pos h24]
    obtain ⟨ht, hg⟩ := htr (.inr h24)
    rw [hg]; exact fit_truth (or_truth ht)
  rw [if_neg h24]
  by_cases h25 : op = 25
  · rw [if_pos h25]
    subst h25
    rcases choose_mem os with h | ⟨h, h2⟩
    · rw [h]; exact fit_null _
    · refine mem_fit _ h ?_
      rcases h2 with h2 | h2
      · exact .inl (rk_two h2)
      · refine .inr ?_
        rw [hal] at hk ⊢
        unfold refKind at hk ⊢
        split at hk
        · cases hk
        · rename_i hg
          rw [if_neg hg]
          split at hk
          · cases hk
          · rename_i hg2
            rw [if_neg hg2]
            split at hk
            · rename_i hg3
              rw [if_pos hg3]
              have e : kindOf (sortOf 25).1 (ksOf os) = ((commonGo 0 (caseGo true (ksOf os)).2).1, (commonGo 0 (caseGo true (ksOf os)).2).2 && (caseGo true (ksOf os)).1.all fun x => agree x 3) := rfl
              rw [e] at hg3 ⊢
              simp only [Bool.and_eq_true] at hg3
              exact (common_mem _ 0 hg3.1).2 _ h2
            · cases hk
  rw [if_neg h25]
  by_cases h26 : op = 26
  · rw [if_pos h26]
    subst h26
    rcases first_mem os with h | h
    · rw [h]; exact fit_null _
    · refine mem_fit _ h (.inr ?_)
      rw [hal] at hk ⊢
      unfold refKind at hk ⊢
      split at hk
      · cases hk
      · rename_i hg
        rw [if_neg hg]
        split at hk
        · cases hk
        · rename_i hg2
          rw [if_neg hg2]
          split at hk
          · rename_i hg3
            rw [if_pos hg3]
            have e : kindOf (sortOf 26).1 (ksOf os) = commonGo 0 (ksOf os) := rfl
            rw [e] at hg3 ⊢
            exact (common_mem _ 0 hg3).2 _ (List.mem_map.2 ⟨_, h, rfl⟩)
          · cases hk
  rw [if_neg h26]
  by_cases hf : failO os = 0
  · rw [if_neg (by omega)]
    exact fit_strict hi ⟨hok, hk, h23, h24, h25, h26, hf⟩
  · rw [if_pos hf]
    rcases fail_mem os 0 with h | ⟨o, ho, h1, h2⟩
    · exact absurd h hf
    · rw [failO, h2]
      exact fit_err _ (ok_err (hv o ho) h1).1
theorem fits_all (op : Int) (os : List Outv) (hi : ∀ o ∈ os, o.In) (hl : os.length < 2 ^ 40) (h : (nodeS op os).err ≠ 1) : (os.all fun o => oOk o.v.kind o.v.int o.v.text o.err) = true ∧ (kindC op (ksOf os)).2 = 0 ∧ fitO (kindC op (ksOf os)).1 (nodeS op os) := by
  have h1 : os.all okC = true := by
    by_cases h1 : os.all okC = true
    · exact h1
    · exfalso
      apply h
      unfold nodeS nodeC
      rw [if_pos (by simpa using h1)]
  have h2 : (kindC op (ksOf os)).2 = 0 := by
    by_cases h2 : (kindC op (ksOf os)).2 = 0
    · exact h2
    · exfalso
      apply h
      unfold nodeS nodeC
      rw [if_neg (by rw [h1]; simp), if_pos h2]
  exact ⟨List.all_eq_true.2 (ok_all hi h1), h2, fits_law op os hi hl h1 h2⟩
end Go.Proofs.YtmlaogjndaeihaaGreatDoor
