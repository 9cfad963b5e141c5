/- Patterns: the plain law. Bytes trimmed off: the plain law. Matching with one star remembered: the plain law of the loop. -/
import Derived.Test.YtmlaogjndaeihaaGreatDoorAb19
section
set_option linter.unusedSimpArgs false
set_option linter.unusedVariables false
namespace Go.Proofs.YtmlaogjndaeihaaGreatDoor
open Go Go.Ab
/-- A pattern matches a text: 37 stands for any bytes, 95 for any one. -/
def gm : List Int → List Int → Bool
  | [], [] => true
  | [], _ :: _ => false
  | c :: p, [] => decide (c = 37) && gm p []
  | c :: p, x :: t => if c = 37 then gm p (x :: t) || gm (c :: p) t else (decide (c = 95) || decide (c = x)) && gm p t
termination_by p t => p.length + t.length
theorem gm_star_nil (p : List Int) : gm (37 :: p) [] = gm p [] := by rw [gm]; simp
theorem gm_star_cons (p : List Int) (x : Int) (t : List Int) : gm (37 :: p) (x :: t) = (gm p (x :: t) || gm (37 :: p) t) := by rw [gm, if_pos rfl]
theorem gm_one {c x : Int} (p t : List Int) (hc : c ≠ 37) : gm (c :: p) (x :: t) = ((decide (c = 95) || decide (c = x)) && gm p t) := by rw [gm, if_neg hc]
theorem gm_one_nil {c : Int} (p : List Int) (hc : c ≠ 37) : gm (c :: p) [] = false := by rw [gm]; simp [hc]
/-- A star takes whatever stands ahead. -/
theorem gm_star_append (p : List Int) : ∀ (a t : List Int), gm (37 :: p) t = true → gm (37 :: p) (a ++ t) = true
  | [], _, h => h
  | x :: a, t, h => by
    rw [List.cons_append, gm_star_cons, gm_star_append p a t h, Bool.or_true]
theorem gm_star_of (p : List Int) : ∀ t : List Int, gm p t = true → gm (37 :: p) t = true
  | [], h => by rw [gm_star_nil]; exact h
  | x :: t, h => by rw [gm_star_cons, h, Bool.true_or]
/-- Through a piece without a star. -/
theorem gm_piece (r : List Int) : ∀ (q u : List Int), (∀ c ∈ q, c ≠ 37) → gm (q ++ r) u = true → ∃ a b, u = a ++ b ∧ a.length = q.length ∧ gm r b = true
  | [], u, _, h => ⟨[], u, rfl, rfl, h⟩
  | c :: q, [], hq, h => by rw [List.cons_append, gm_one_nil _ (hq c (by simp))] at h; cases h
  | c :: q, x :: u, hq, h => by
    rw [List.cons_append, gm_one _ _ (hq c (by simp)), Bool.and_eq_true] at h
    obtain ⟨a, b, rfl, h1, h2⟩ := gm_piece r q u (fun d hd => hq d (by simp [hd])) h.2
    exact ⟨x :: a, b, rfl, by simp [h1], h2⟩
/-- Behind a star, where some of the text goes by. -/
theorem gm_star_split (p : List Int) : ∀ t : List Int, gm (37 :: p) t = true → ∃ a b, t = a ++ b ∧ gm p b = true
  | [], h => ⟨[], [], rfl, by rw [gm_star_nil] at h; exact h⟩
  | x :: t, h => by
    rw [gm_star_cons, Bool.or_eq_true] at h
    rcases h with h | h
    · exact ⟨[], x :: t, rfl, h⟩
    · obtain ⟨a, b, rfl, h2⟩ := gm_star_split p t h
      exact ⟨x :: a, b, rfl, h2⟩
/-- A later star may forget an earlier one: q is the piece between them, and has taken as many bytes as it is long. -/
theorem gm_forget {q r a u : List Int} (hq : ∀ c ∈ q, c ≠ 37) (ha : a.length = q.length) (h : gm (37 :: (q ++ 37 :: r)) ((a ++ u).drop 1) = true) : gm (37 :: r) u = true := by
  obtain ⟨b, v, h1, h2⟩ := gm_star_split _ _ h
  obtain ⟨c, d, rfl, h3, h4⟩ := gm_piece _ _ _ hq h2
  have h5 : (a ++ u).drop 1 = (b ++ c) ++ d := by rw [h1, List.append_assoc]
  have hlen : (a ++ u).length - 1 = (b ++ c).length + d.length := by
    have := congrArg List.length h5
    rw [List.length_drop, List.length_append (as := b ++ c)] at this
    exact this
  have hle : d.length ≤ u.length := by
    rw [List.length_append, List.length_append] at hlen
    omega
  have hd : d <:+ a ++ u := List.IsSuffix.trans ⟨b ++ c, h5.symm⟩ (List.drop_suffix 1 _)
  obtain ⟨e, rfl⟩ := List.suffix_of_suffix_length_le hd (List.suffix_append a u) hle
  exact gm_star_append r e d h4
end Go.Proofs.YtmlaogjndaeihaaGreatDoor
end

section
set_option linter.unusedSimpArgs false
set_option linter.unusedVariables false
namespace Go.Proofs.YtmlaogjndaeihaaGreatDoor
open Go Go.Ab
def LB (s : ByteArray) : List Int := s.data.toList.map fun b => (b.toNat : Int)
theorem LB_len (s : ByteArray) : (LB s).length = s.size := by unfold LB; rw [List.length_map, Array.length_toList]; rfl
theorem bt_LB (s : ByteArray) (i : Nat) : bt s (i : Int) = (LB s).getD i 0 := by
  unfold bt LB
  simp only [Int.toNat_natCast, List.getD_eq_getElem?_getD, List.getElem?_map]
  cases s.data.toList[i]? <;> simp
theorem LB_extract (s : ByteArray) (i j : Nat) : LB (s.extract i j) = ((LB s).take j).drop i := by
  unfold LB
  rw [ByteArray.data_extract]
  simp [List.map_drop, List.map_take, List.drop_take]
theorem LB_emp {s : ByteArray} : s = ⟨#[]⟩ ↔ LB s = [] := by
  constructor
  · rintro rfl; rfl
  · intro h
    obtain ⟨⟨l⟩⟩ := s
    simp [LB] at h
    subst h; rfl
theorem extract_extract0 (s : ByteArray) (j k : Nat) (h : k ≤ j) : (s.extract 0 j).extract 0 k = s.extract 0 k := by
  apply ByteArray.ext
  simp only [ByteArray.data_extract, Array.extract_extract]
  congr 1
  omega
theorem extract_extract1 (s : ByteArray) (j : Nat) (h : j ≤ s.size) : (s.extract j s.size).extract 1 (s.size - j) = s.extract (j + 1) s.size := by
  apply ByteArray.ext
  simp only [ByteArray.data_extract, Array.extract_extract]
  congr 1
  omega
def jR (c : Int) (l : List Int) : Nat → Nat
  | 0 => 0
  | j + 1 => if l.getD j 0 = c then jR c l j else j + 1
def jL (c : Int) (l : List Int) : Nat → Nat → Nat
  | 0, j => j
  | k + 1, j => if l.getD j 0 = c then jL c l k (j + 1) else j
def trimR (c : Int) (s : ByteArray) : ByteArray := s.extract 0 (jR c (LB s) s.size)
def trimL (c : Int) (s : ByteArray) : ByteArray := s.extract (jL c (LB s) s.size 0) s.size
theorem jR_le (c : Int) (l : List Int) : ∀ n, jR c l n ≤ n
  | 0 => Nat.le_refl _
  | n + 1 => by rw [jR]; split; have := jR_le c l n; omega; omega
theorem jR_zero (c : Int) (l : List Int) : ∀ n, jR c l n = 0 ↔ ∀ i, i < n → l.getD i 0 = c
  | 0 => by simp [jR]
  | n + 1 => by
    rw [jR]
    split
    · rename_i h
      rw [jR_zero c l n]
      constructor
      · intro h2 i hi
        by_cases e : i = n
        · subst e; exact h
        · exact h2 i (by omega)
      · intro h2 i hi; exact h2 i (by omega)
    · rename_i h
      constructor
      · intro h2; omega
      · intro h2; exact absurd (h2 n (by omega)) h
theorem jR_stop (c : Int) (l : List Int) : ∀ n, 0 < jR c l n → l.getD (jR c l n - 1) 0 ≠ c
  | 0, h => by simp [jR] at h
  | n + 1, h => by
    rw [jR] at h ⊢
    split
    · rename_i h2
      rw [if_pos h2] at h
      exact jR_stop c l n h
    · rename_i h2; simpa using h2
theorem jL_lt (c : Int) (l : List Int) (m : Nat) (hm : l.getD m 0 ≠ c) : ∀ k j, j ≤ m → m < j + k → jL c l k j ≤ m
  | 0, j, h1, h2 => by omega
  | k + 1, j, h1, h2 => by
    rw [jL]
    split
    · rename_i h
      by_cases e : j = m
      · subst e; exact absurd h hm
      · exact jL_lt c l m hm k (j + 1) (by omega) (by omega)
    · exact h1
def trimO (c : Int) (s : ByteArray) : ByteArray := if s = ⟨#[]⟩ then s else trimL c (trimR c s)
/-- What is trimmed is empty just where all bytes are the one. -/
theorem trimO_emp (c : Int) (s : ByteArray) : trimO c s = ⟨#[]⟩ ↔ ∀ x ∈ LB s, x = c := by
  unfold trimO
  by_cases hs : s = ⟨#[]⟩
  · rw [if_pos hs]
    subst hs
    simp [LB]
  · rw [if_neg hs]
    have hall : (∀ x ∈ LB s, x = c) ↔ jR c (LB s) s.size = 0 := by
      rw [jR_zero, ← LB_len]
      constructor
      · intro h i hi
        rw [List.getD_eq_getElem?_getD, List.getElem?_eq_getElem hi]
        exact h _ (List.getElem_mem hi)
      · intro h x hx
        obtain ⟨i, hi, rfl⟩ := List.getElem_of_mem hx
        have := h i hi
        rw [List.getD_eq_getElem?_getD, List.getElem?_eq_getElem hi] at this
        exact this
    rw [hall]
    by_cases h0 : jR c (LB s) s.size = 0
    · simp only [h0, iff_true]
      have e1 : trimR c s = ⟨#[]⟩ := by
        rw [LB_emp, trimR, LB_extract, h0]; simp
      rw [e1]; rfl
    · simp only [h0, iff_false]
      intro h1
      rw [LB_emp, trimL, LB_extract] at h1
      have hle := jR_le c (LB s) s.size
      have hlen : (LB (trimR c s)).length = jR c (LB s) s.size := by
        rw [trimR, LB_extract]; simp [LB_len]; omega
      have hsz : (trimR c s).size = jR c (LB s) s.size := by rw [← LB_len, hlen]
      have hg : (LB (trimR c s)).getD (jR c (LB s) s.size - 1) 0 ≠ c := by
        have h2 := jR_stop c (LB s) s.size (by omega)
        rw [trimR, LB_extract]
        rw [List.getD_eq_getElem?_getD] at h2 ⊢
        rw [List.drop_zero, List.getElem?_take_of_lt (by omega)]
        exact h2
      have h3 := jL_lt c (LB (trimR c s)) _ hg (trimR c s).size 0 (by omega) (by omega)
      have h4 := congrArg List.length h1
      simp only [List.length_drop, List.length_take, List.length_nil, hlen, hsz] at h4
      rw [hsz] at h3
      omega
end Go.Proofs.YtmlaogjndaeihaaGreatDoor
end

section
set_option linter.unusedSimpArgs false
set_option linter.unusedVariables false
namespace Go.Proofs.YtmlaogjndaeihaaGreatDoor
open Go Go.Ab
def MInv (P T : List Int) (p t s f : Nat) : Prop :=
  p ≤ P.length ∧ t ≤ T.length ∧ f ≤ t ∧ s ≤ p ∧ ((s = 0 ∧ gm P T = gm (P.drop p) (T.drop t)) ∨ (1 ≤ s ∧ t - f = p - s ∧ (∀ c ∈ (P.drop s).take (p - s), c ≠ 37) ∧ gm P T = (gm (P.drop p) (T.drop t) || gm (37 :: P.drop s) (T.drop (f + 1)))))
theorem drop_at {l : List Int} {i : Nat} (h : i < l.length) : l.drop i = l.getD i 0 :: l.drop (i + 1) := by
  rw [List.drop_eq_getElem_cons h, List.getD_eq_getElem?_getD, List.getElem?_eq_getElem h]; rfl
theorem minv0 (P T : List Int) : MInv P T 0 0 0 0 := ⟨Nat.zero_le _, Nat.zero_le _, Nat.le_refl _, Nat.le_refl _, .inl ⟨rfl, rfl⟩⟩
theorem piece_of {P : List Int} {p s : Nat} (h : s ≤ p) : P.drop s = (P.drop s).take (p - s) ++ P.drop p := by
  have := (List.take_append_drop (p - s) (P.drop s)).symm
  rw [List.drop_drop, show s + (p - s) = p by omega] at this
  exact this
theorem minv_star {P T : List Int} {p t s f : Nat} (h : MInv P T p t s f) (hp : p < P.length) (hc : P.getD p 0 = 37) (ht : t < T.length) : MInv P T (p + 1) t (p + 1) t := by
  obtain ⟨h1, h2, h3, h4, h5⟩ := h
  have eP := drop_at hp
  rw [hc] at eP
  have eT := drop_at ht
  have key : gm (P.drop p) (T.drop t) = (gm (P.drop (p + 1)) (T.drop t) || gm (37 :: P.drop (p + 1)) (T.drop (t + 1))) := by
    rw [eP, eT, gm_star_cons]
  refine ⟨hp, h2, Nat.le_refl _, Nat.le_refl _, .inr ⟨by omega, by omega, by simp, ?_⟩⟩
  rw [← key]
  rcases h5 with ⟨_, h5⟩ | ⟨_, h6, h7, h5⟩
  · exact h5
  · rw [h5]
    cases hB : gm (37 :: P.drop s) (T.drop (f + 1))
    · rw [Bool.or_false]
    · rw [Bool.or_true]
      symm
      rw [piece_of h4, eP] at hB
      rw [eP]
      refine gm_forget (a := (T.drop f).take (t - f)) h7 ?_ ?_
      · simp only [List.length_take, List.length_drop]; omega
      · rw [← piece_of h3, List.drop_drop]; exact hB
theorem minv_eat {P T : List Int} {p t s f : Nat} (h : MInv P T p t s f) (hp : p < P.length) (hc : P.getD p 0 ≠ 37) (he : P.getD p 0 = 95 ∨ P.getD p 0 = T.getD t 0) (ht : t < T.length) : MInv P T (p + 1) (t + 1) s f := by
  obtain ⟨h1, h2, h3, h4, h5⟩ := h
  have eP := drop_at hp
  have eT := drop_at ht
  have key : gm (P.drop p) (T.drop t) = gm (P.drop (p + 1)) (T.drop (t + 1)) := by
    have ho : (decide (P.getD p 0 = 95) || decide (P.getD p 0 = T.getD t 0)) = true := by
      rcases he with he | he
      · rw [decide_eq_true he, Bool.true_or]
      · rw [decide_eq_true he, Bool.or_true]
    rw [eP, eT, gm_one _ _ hc, ho, Bool.true_and]
  refine ⟨hp, ht, by omega, by omega, ?_⟩
  rw [← key]
  rcases h5 with h5 | ⟨h5, h6, h7, h8⟩
  · exact .inl h5
  · refine .inr ⟨h5, by omega, ?_, h8⟩
    intro c hm
    rw [show p + 1 - s = (p - s) + 1 by omega, List.take_add_one] at hm
    rcases List.mem_append.1 hm with hm | hm
    · exact h7 c hm
    · rw [List.getElem?_drop, show s + (p - s) = p by omega, List.getElem?_eq_getElem hp] at hm
      simp only [Option.toList_some, List.mem_singleton] at hm
      rw [hm]
      rw [List.getD_eq_getElem?_getD, List.getElem?_eq_getElem hp] at hc
      exact hc
theorem no_match {P T : List Int} {p t : Nat} (ht : t < T.length) (hb : p < P.length → P.getD p 0 ≠ 37 ∧ P.getD p 0 ≠ 95 ∧ P.getD p 0 ≠ T.getD t 0) : gm (P.drop p) (T.drop t) = false := by
  have eT := drop_at ht
  by_cases hp : p < P.length
  · obtain ⟨b1, b2, b3⟩ := hb hp
    rw [drop_at hp, eT, gm_one _ _ b1]
    simp only [b2, b3, decide_false, Bool.or_self, Bool.false_and]
  · rw [List.drop_eq_nil_of_le (by omega), eT]
    rw [gm]
theorem minv_back {P T : List Int} {p t s f : Nat} (h : MInv P T p t s f) (ht : t < T.length) (hb : p < P.length → P.getD p 0 ≠ 37 ∧ P.getD p 0 ≠ 95 ∧ P.getD p 0 ≠ T.getD t 0) (hs : 1 ≤ s) : MInv P T s (f + 1) s (f + 1) := by
  obtain ⟨h1, h2, h3, h4, h5⟩ := h
  rcases h5 with ⟨h5, _⟩ | ⟨_, _, _, h5⟩
  · omega
  · refine ⟨by omega, by omega, Nat.le_refl _, Nat.le_refl _, .inr ⟨hs, by omega, by simp, ?_⟩⟩
    rw [h5, no_match ht hb, Bool.false_or]
    by_cases hf : f + 1 < T.length
    · rw [drop_at hf, gm_star_cons]
    · have e1 : T.drop (f + 1) = [] := List.drop_eq_nil_of_le (by omega)
      have e2 : T.drop (f + 1 + 1) = [] := List.drop_eq_nil_of_le (by omega)
      rw [e1, e2, gm_star_nil, Bool.or_self]
theorem minv_fail {P T : List Int} {p t f : Nat} (h : MInv P T p t 0 f) (ht : t < T.length) (hb : p < P.length → P.getD p 0 ≠ 37 ∧ P.getD p 0 ≠ 95 ∧ P.getD p 0 ≠ T.getD t 0) : gm P T = false := by
  obtain ⟨h1, h2, h3, h4, h5⟩ := h
  rcases h5 with ⟨_, h5⟩ | ⟨h5, _⟩
  · rw [h5, no_match ht hb]
  · omega
theorem gm_rest : ∀ p : List Int, gm p [] = true ↔ ∀ x ∈ p, x = 37
  | [] => by rw [gm]; simp
  | c :: p => by
    rw [gm, Bool.and_eq_true, gm_rest p]
    simp
theorem minv_end {P T : List Int} {p t s f : Nat} (h : MInv P T p t s f) (ht : ¬ t < T.length) : gm P T = gm (P.drop p) [] := by
  obtain ⟨h1, h2, h3, h4, h5⟩ := h
  have eT : T.drop t = [] := List.drop_eq_nil_of_le (by omega)
  rcases h5 with ⟨_, h5⟩ | ⟨h5, h6, h7, h8⟩
  · rw [h5, eT]
  · rw [h8, eT]
    cases hB : gm (37 :: P.drop s) (T.drop (f + 1))
    · rw [Bool.or_false]
    · rw [Bool.or_true]
      symm
      obtain ⟨a, b, e1, h9⟩ := gm_star_split _ _ hB
      rw [piece_of h4] at h9
      obtain ⟨c, d, e2, h10, h11⟩ := gm_piece _ _ _ h7 h9
      have hl := congrArg List.length e1
      rw [e2] at hl
      simp only [List.length_drop, List.length_append, h10, List.length_take] at hl
      have hd : d = [] := List.length_eq_zero_iff.1 (by omega)
      rw [hd] at h11
      exact h11
/-- The loop's measure. -/
def msr (W a b c : Nat) : Nat := a * (W * W) + b * W + c
theorem msr1 {W a a' b b' c c' : Nat} (h : a' < a) (hb : b' < W) (hc : c' < W) : msr W a' b' c' < msr W a b c := by
  unfold msr
  have h1 : (a' + 1) * (W * W) ≤ a * (W * W) := Nat.mul_le_mul_right _ h
  have h2 : (b' + 1) * W ≤ W * W := Nat.mul_le_mul_right _ hb
  rw [Nat.add_mul] at h1 h2
  omega
theorem msr2 {W a b b' c c' : Nat} (h : b' < b) (hc : c' < W) : msr W a b' c' < msr W a b c := by
  unfold msr
  have h2 : (b' + 1) * W ≤ b * W := Nat.mul_le_mul_right _ h
  rw [Nat.add_mul] at h2
  omega
theorem msr3 {W a b c c' : Nat} (h : c' < c) : msr W a b c' < msr W a b c := by
  unfold msr; omega
end Go.Proofs.YtmlaogjndaeihaaGreatDoor
end
