/- The plain law of CalcNodes: the document's nodes are the program's. -/
import Derived.Test.YtmlaogjndaeihaaGreatDoorL8
import Derived.Test.YtmlaogjndaeihaaGreatDoorR3
set_option linter.unusedSimpArgs false
set_option linter.unusedVariables false
namespace Go.Proofs.YtmlaogjndaeihaaGreatDoor
open Go Go.Ab
theorem minK_cons (o : Outv) (r : List Outv) : minK (o :: r) = min (keyO o) (minK r) := by
  show (r.map keyO).foldl min (min 10 (keyO o)) = _
  rw [show min 10 (keyO o) = min (keyO o) 10 by omega, foldl_min]
  rfl
theorem key_ge {o : Outv} (h : truthO o = true) : 0 ≤ keyO o := by
  rcases truth_cases h with ⟨e, rfl, h2⟩ | rfl | rfl | rfl
  · rw [key_errO (by omega)]; omega
  · decide
  · decide
  · decide
theorem minK_ge {l : List Outv} (h : ∀ o ∈ l, truthO o = true) : 0 ≤ minK l := by
  induction l with
  | nil => decide
  | cons o r ih =>
    rw [minK_cons]
    have h1 := key_ge (h o (by simp))
    have h2 := ih fun x hx => h x (by simp [hx])
    omega
def stK (null : Bool) (e : Int) : Int := if null = true then 1 else if e = 0 then 10 else e
theorem chain_and (os : List Outv) (h : ∀ o ∈ os, truthO o = true) : ∀ (null : Bool) (e : Int), (e = 0 ∨ (3 ≤ e ∧ e ≤ 6)) → chainGo false null e os = unkey (min (stK null e) (minK os)) := by
  induction os with
  | nil =>
    intro null e he
    rw [show minK [] = 10 from rfl, chainGo]
    cases null
    · rw [if_neg (by simp)]
      rcases he with rfl | he
      · rfl
      · have e0 : e ≠ 0 := by omega
        rw [if_pos e0, show stK false e = e by simp [stK, e0], show min e 10 = e by omega]
        simp [unkey, e0, show e ≠ 1 by omega, show e ≠ 10 by omega]
    · rfl
  | cons o r ih =>
    intro null e he
    have hr : ∀ x ∈ r, truthO x = true := fun x hx => h x (by simp [hx])
    have ih := ih hr
    have hge := minK_ge hr
    have hle := minK_le r
    rw [minK_cons, chainGo]
    rcases truth_cases (h o (by simp)) with ⟨e', rfl, h2⟩ | rfl | rfl | rfl
    · have e0 : e' ≠ 0 := by omega
      rw [if_neg (by simp [e0]), key_errO e0, show nullB (errO e') = false by simp [nullB, e0], Bool.or_false]
      rw [ih null (leastE e e') (by unfold leastE; split <;> omega)]
      congr 1
      unfold stK leastE
      cases null
      · simp only [Bool.false_eq_true, if_false]
        split <;> (repeat' split) <;> omega
      · simp only [if_true]; omega
    · rw [if_neg (by simp), show nullB nullO = true from rfl, Bool.or_true, show keyO nullO = 1 from rfl, show leastE e nullO.err = e by unfold leastE; split <;> simp_all]
      rw [ih true e he]
      congr 1
      unfold stK
      cases null
      · simp only [Bool.false_eq_true, if_false, if_true]
        split <;> omega
      · simp only [if_true]; omega
    · rw [if_pos ⟨rfl, rfl, rfl⟩, show keyO (boolO false) = 0 from rfl]
      rw [show min (stK null e) (min 0 (minK r)) = 0 by unfold stK; (repeat' split) <;> omega]
      rfl
    · rw [if_neg (by simp [trueB]), show nullB trueO = false from rfl, Bool.or_false, show keyO trueO = 10 from rfl, show leastE e trueO.err = e by unfold leastE; split <;> simp_all]
      rw [ih null e he]
      congr 1
      omega
theorem chain_not (os : List Outv) (h : ∀ o ∈ os, truthO o = true) : ∀ (null : Bool) (e : Int), chainGo true null e os = notO (chainGo false null e (os.map notO)) := by
  induction os with
  | nil =>
    intro null e
    rw [List.map_nil, chainGo, chainGo]
    cases null
    · by_cases e0 : e = 0
      · subst e0; rfl
      · rw [if_neg (by simp), if_pos e0, if_neg (by simp), if_pos e0]
        unfold notO notN rk
        simp [e0]
    · rfl
  | cons o r ih =>
    intro null e
    have hr : ∀ x ∈ r, truthO x = true := fun x hx => h x (by simp [hx])
    have ih := ih hr
    rw [List.map_cons, chainGo, chainGo]
    rcases truth_cases (h o (by simp)) with ⟨e', rfl, h2⟩ | rfl | rfl | rfl
    · have hn : notO (errO e') = errO e' := by rcases h2 with rfl | rfl | rfl | rfl <;> rfl
      have e0 : e' ≠ 0 := by omega
      rw [hn, if_neg (by simp [e0]), if_neg (by simp [e0]), ih]
    · rw [show notO nullO = nullO from rfl, if_neg (by simp), if_neg (by simp), ih]
    · rw [show notO (boolO false) = trueO from rfl, if_neg (by simp [trueB]), if_neg (by simp [trueB]), ih]
      rfl
    · rw [show notO trueO = boolO false from rfl, if_pos ⟨rfl, rfl, rfl⟩, if_pos ⟨rfl, rfl, rfl⟩]
      rfl
theorem chain_andO {os : List Outv} (h : ∀ o ∈ os, truthO o = true) : chainGo false false 0 os = andO os := by
  have hle := minK_le os
  rw [chain_and os h false 0 (.inl rfl), and_eq h, show min (stK false 0) (minK os) = minK os by rw [show stK false 0 = 10 from rfl]; omega]
theorem chain_orO {os : List Outv} (h : ∀ o ∈ os, truthO o = true) : chainGo true false 0 os = orO os := by
  rw [chain_not os h, chain_andO (map_not h)]
  rfl
theorem true_rk {o : Outv} (h : oOk o.v.kind o.v.int o.v.text o.err = true) (hk : o.v.kind = 0 ∨ o.v.kind = 3) : trueB o = decide (o.rk = 3) := by
  obtain ⟨⟨k, n, s⟩, e⟩ := o
  simp only at h hk
  by_cases he : e = 0
  · subst he
    have hv := ok_val (x := ⟨k, n, s⟩) h
    rcases hk with rfl | rfl
    · simp [trueB, Outv.rk, rk]
    · simp only [vOk, Int.reduceEq, if_false, if_true, Bool.and_eq_true, Bool.or_eq_true, decide_eq_true_eq] at hv
      obtain ⟨rfl | rfl, _⟩ := hv <;> simp [trueB, Outv.rk, rk]
  · simp [trueB, Outv.rk, rk, he]
theorem rk_two_iff (o : Outv) : o.rk = 2 ↔ o.err ≠ 0 := by
  constructor
  · exact rk_two
  · intro h; unfold Outv.rk rk; rw [if_pos h]
theorem choose_law : ∀ os : List Outv, (∀ o ∈ os, oOk o.v.kind o.v.int o.v.text o.err = true) → ((caseGo true (ksOf os)).1.all fun x => agree x 3) = true → chooseR os = chooseO os
  | [], _, _ => rfl
  | [x], _, _ => rfl
  | c :: v :: r, h, hk => by
    have e : (caseGo true (ksOf (c :: v :: r))).1 = c.v.kind :: (caseGo true (ksOf r)).1 := by
      simp [ksOf, caseGo]
    rw [e, List.all_cons, Bool.and_eq_true, agree_iff] at hk
    have hc := true_rk (h c (by simp)) (by omega)
    rw [chooseR, chooseO, hc, choose_law r (fun o ho => h o (by simp [ho])) hk.2]
    by_cases h2 : c.err = 0
    · rw [if_neg (by simp [h2]), if_neg (fun e => (rk_two_iff c).1 e h2)]
      simp only [decide_eq_true_eq]
    · rw [if_pos h2, if_pos ((rk_two_iff c).2 h2)]
theorem null_isZ {o : Outv} (h : oOk o.v.kind o.v.int o.v.text o.err = true) : nullB o = isZ o := by
  obtain ⟨⟨k, n, s⟩, e⟩ := o
  simp only at h
  by_cases he : e = 0
  · subst he
    have hv := ok_val (x := ⟨k, n, s⟩) h
    by_cases hk : k = 0
    · subst hk
      simp only [vOk, if_true, Bool.and_eq_true, decide_eq_true_eq] at hv
      obtain ⟨rfl, rfl⟩ := hv
      rfl
    · simp [nullB, isZ, hk]
  · simp [nullB, isZ, he]
theorem first_law : ∀ os : List Outv, (∀ o ∈ os, oOk o.v.kind o.v.int o.v.text o.err = true) → firstR os = firstO os
  | [], _ => rfl
  | x :: r, h => by
    rw [firstR, firstO, null_isZ (h x (by simp)), first_law r fun o ho => h o (by simp [ho])]
def failR (os : List Outv) : Int := os.foldl (fun e o => leastE e o.err) 0
theorem fail_law (os : List Outv) : failR os = failO os := by
  have key : ∀ e, os.foldl (fun e o => leastE e o.err) e = os.foldl failB e := by
    induction os with
    | nil => intro e; rfl
    | cons o r ih =>
      intro e
      rw [List.foldl_cons, List.foldl_cons, ih]
      congr 1
      unfold leastE failB
      repeat' split
      all_goals omega
  exact key 0
theorem fits_good {op : Int} {os : List Outv} (hi : ∀ o ∈ os, o.In) (hl : os.length < 2 ^ 62) : (fitsR op os = true ↔ os.all okC = true ∧ (kindC op (ksOf os)).2 = 0) := by
  have hpos : ∀ x ∈ ksOf os, 0 ≤ x := by
    intro x hx
    obtain ⟨o, ho, rfl⟩ := List.mem_map.1 hx
    exact (hi o ho).1.1
  rw [fitsR, Bool.and_eq_true, decide_eq_true_eq, kinds_alike op (ksOf os) (by simpa using hl) hpos]
  have e : (os.all fun o => oOk o.v.kind o.v.int o.v.text o.err) = os.all okC := by
    rw [Bool.eq_iff_iff, List.all_eq_true, List.all_eq_true]
    constructor <;> intro h o ho
    · rw [show okC o = oOk o.v.kind o.v.int o.v.text o.err from oOkC_eq _ _ _ _ (hi o ho).1.2.1]; exact h o ho
    · have := h o ho; rw [show okC o = oOk o.v.kind o.v.int o.v.text o.err from oOkC_eq _ _ _ _ (hi o ho).1.2.1] at this; exact this
  rw [e]
theorem node_bad {op : Int} {os : List Outv} (hi : ∀ o ∈ os, o.In) (hl : os.length < 2 ^ 62) (h : fitsR op os = false) : nodeS op os = errO 1 := by
  unfold nodeS nodeC
  by_cases h1 : os.all okC = true
  · rw [if_neg (by rw [h1]; simp)]
    by_cases h2 : (kindC op (ksOf os)).2 = 0
    · rw [(fits_good hi hl).2 ⟨h1, h2⟩] at h; cases h
    · rw [if_pos h2]
  · rw [if_pos (by simpa using h1)]
theorem node_open {op : Int} {os : List Outv} (hi : ∀ o ∈ os, o.In) (hl : os.length < 2 ^ 62) (h : fitsR op os = true) : nodeS op os = if op = 23 then andO os else if op = 24 then orO os else if op = 25 then chooseO os else if op = 26 then firstO os else if failO os ≠ 0 then errO (failO os) else strictO op (os.headD nullO).v (os.getLastD nullO).v ((ksOf os).any fun x => decide (0 = x)) := by
  obtain ⟨h1, h2⟩ := (fits_good hi hl).1 h
  unfold nodeS nodeC
  rw [if_neg (by rw [h1]; simp), if_neg (by omega)]
theorem truths_of {op : Int} {os : List Outv} (hop : op = 23 ∨ op = 24) (hi : ∀ o ∈ os, o.In) (hv : ∀ o ∈ os, oOk o.v.kind o.v.int o.v.text o.err = true) (hk : (kindC op (ksOf os)).2 = 0) : ∀ o ∈ os, truthO o = true := by
  have hpos : ∀ x ∈ ksOf os, 0 ≤ x := by
    intro x hx
    obtain ⟨o, ho, rfl⟩ := List.mem_map.1 hx
    exact (hi o ho).1.1
  obtain ⟨hg, hc⟩ := kind_gives (by omega) (by omega) hk
  have hsig : (sigOf op).1 = ⟨0, 2 ^ 62, 3, 3⟩ := by rcases hop with rfl | rfl <;> rfl
  rw [hsig] at hc
  intro o ho
  rw [commonC_pos 3 (by omega) _ hpos, List.all_eq_true] at hc
  have h1 := hc o.v.kind (List.mem_map.2 ⟨o, ho, rfl⟩)
  rw [agree_iff] at h1
  have h2 : o.v.kind = 0 ∨ o.v.kind = 3 := by omega
  rw [truthO, hv o ho]
  rcases h2 with h2 | h2 <;> simp [h2]
theorem node23 {os : List Outv} (hi : ∀ o ∈ os, o.In) (hl : os.length < 2 ^ 62) (h : fitsR 23 os = true) : nodeS 23 os = chainGo false false 0 os := by
  obtain ⟨h1, h2⟩ := (fits_good hi hl).1 h
  rw [node_open hi hl h, chain_andO (truths_of (.inl rfl) hi (ok_all hi h1) h2)]
  rfl
theorem node24 {os : List Outv} (hi : ∀ o ∈ os, o.In) (hl : os.length < 2 ^ 62) (h : fitsR 24 os = true) : nodeS 24 os = chainGo true false 0 os := by
  obtain ⟨h1, h2⟩ := (fits_good hi hl).1 h
  rw [node_open hi hl h, chain_orO (truths_of (.inr rfl) hi (ok_all hi h1) h2)]
  rfl
theorem node25 {os : List Outv} (hi : ∀ o ∈ os, o.In) (hl : os.length < 2 ^ 62) (h : fitsR 25 os = true) : nodeS 25 os = chooseR os := by
  obtain ⟨h1, h2⟩ := (fits_good hi hl).1 h
  rw [node_open hi hl h, choose_law os (ok_all hi h1)]
  · rfl
  · have hk : (refKind 25 (ksOf os)).2 = 0 := by
      rw [fitsR, Bool.and_eq_true, decide_eq_true_eq] at h
      exact h.2
    unfold refKind at hk
    split at hk
    · cases hk
    · split at hk
      · cases hk
      · split at hk
        · rename_i hg3
          have e : kindOf (sortOf 25).1 (ksOf os) = ((commonGo 0 (caseGo true (ksOf os)).2).1, (commonGo 0 (caseGo true (ksOf os)).2).2 && (caseGo true (ksOf os)).1.all fun x => agree x 3) := rfl
          rw [e] at hg3
          simp only [Bool.and_eq_true] at hg3
          exact hg3.2
        · cases hk
theorem node26 {os : List Outv} (hi : ∀ o ∈ os, o.In) (hl : os.length < 2 ^ 62) (h : fitsR 26 os = true) : nodeS 26 os = firstR os := by
  obtain ⟨h1, h2⟩ := (fits_good hi hl).1 h
  rw [node_open hi hl h, first_law os (ok_all hi h1)]
  rfl
theorem node_fails {op : Int} {os : List Outv} (hi : ∀ o ∈ os, o.In) (hl : os.length < 2 ^ 62) (h : fitsR op os = true) (n23 : op ≠ 23) (n24 : op ≠ 24) (n25 : op ≠ 25) (n26 : op ≠ 26) (hf : failR os ≠ 0) : nodeS op os = errO (failR os) := by
  rw [node_open hi hl h, if_neg n23, if_neg n24, if_neg n25, if_neg n26, if_pos (by rw [← fail_law]; exact hf), fail_law]
theorem node_strict {op : Int} {os : List Outv} (hi : ∀ o ∈ os, o.In) (hl : os.length < 2 ^ 62) (h : fitsR op os = true) (n23 : op ≠ 23) (n24 : op ≠ 24) (n25 : op ≠ 25) (n26 : op ≠ 26) (hf : failR os = 0) : strictB op os ∧ nodeS op os = strictO op (os.headD nullO).v (os.getLastD nullO).v ((ksOf os).any fun x => decide (0 = x)) := by
  obtain ⟨h1, h2⟩ := (fits_good hi hl).1 h
  rw [fail_law] at hf
  refine ⟨⟨h1, h2, n23, n24, n25, n26, hf⟩, ?_⟩
  rw [node_open hi hl h, if_neg n23, if_neg n24, if_neg n25, if_neg n26, if_neg (by omega)]
end Go.Proofs.YtmlaogjndaeihaaGreatDoor
