/- A counter that is lent: calls that are handed a pointer to one box with one integer, and nothing else of the caller's. -/
import Derived.Test.YtoggbjfjmbjegaaGreatDoorAb27
set_option linter.unusedSimpArgs false
set_option linter.unusedVariables false
namespace Go.Ab
def one (s g : Nat) (c : Int) : Sto := List.replicate s none ++ [some (.box g [.int .i64 c])]
theorem one_len (s g : Nat) (c : Int) : (one s g c).length = s + 1 := by simp [one]
theorem one_get (s g : Nat) (c : Int) : (one s g c).getD s none = some (.box g [.int .i64 c]) := by simp [one, List.getD_eq_getElem?_getD]
theorem one_lt {s g : Nat} {c : Int} {k : Nat} (h : k ≠ s) : (one s g c).getD k none = none := by
  unfold one
  rw [List.getD_eq_getElem?_getD]
  by_cases h2 : k < s
  · rw [List.getElem?_append_left (by simpa using h2)]; simp [h2]
  · rw [List.getElem?_eq_none (by simp; omega)]; rfl
theorem one_set (s g : Nat) (c d : Int) : (one s g c).set s (some (.box g [.int .i64 d])) = one s g d := by
  unfold one
  rw [List.set_append_right _ _ (by simp)]
  simp
theorem shS_one (m s g : Nat) (c : Int) : shS m (one s g c) = one (s + m) g c := by
  simp only [shS, one, List.map_append, List.map_replicate, Option.map_none, List.map_cons, Option.map_some, shR, shKL, shK, List.map_nil, ← List.append_assoc, List.replicate_append_replicate]
  rw [Nat.add_comm]
theorem sameG_one (s g : Nat) (c d : Int) : SameG (one s g c) (one s g d) := by
  intro k r h
  by_cases hk : k = s
  · subst hk
    have h2 := one_get k g d
    rw [List.getD_eq_getElem?_getD, h] at h2
    simp only [Option.getD_some, Option.some.injEq] at h2
    subst h2
    refine ⟨.box g [.int .i64 c], ?_, rfl⟩
    have h3 := one_get k g c
    rw [List.getD_eq_getElem?_getD] at h3
    cases h4 : (one k g c)[k]? with
    | none => rw [h4] at h3; cases h3
    | some o => rw [h4] at h3; simp at h3; rw [h3]
  · have h2 := one_lt (g := g) (c := d) hk
    rw [List.getD_eq_getElem?_getD, h] at h2
    cases h2
theorem lend_one {σ : Sto} {s g : Nat} {c : Int} (h : σ.getD s none = some (.box g [.int .i64 c])) : lend σ [s] (s + 1) = one s g c := by
  apply List.ext_getElem?
  intro k
  by_cases hk : k < s + 1
  · have e1 : (lend σ [s] (s + 1))[k]? = some (if [s].contains k = true then σ.getD k none else none) := by simp [lend, hk]
    have e2 : (one s g c)[k]? = some ((one s g c).getD k none) := by
      rw [List.getD_eq_getElem?_getD, List.getElem?_eq_getElem (by rw [one_len]; exact hk)]; rfl
    rw [e1, e2]
    by_cases h2 : k = s
    · subst h2; rw [one_get, if_pos (by simp), h]
    · rw [one_lt h2, if_neg (by simpa using h2)]
  · rw [List.getElem?_eq_none (by simp [lend]; omega), List.getElem?_eq_none (by rw [one_len]; omega)]
theorem backS_one {s g m : Nat} {c d : Int} {σc : Sto} (h : σc.getD (s + m) none = some (.box g [.int .i64 d])) : backS (one s g c) m σc = one s g d := by
  apply List.ext_getElem?
  intro k
  unfold backS
  rw [List.getElem?_map, one_len]
  by_cases hk : k < s + 1
  · have e2 : (one s g d)[k]? = some ((one s g d).getD k none) := by
      rw [List.getD_eq_getElem?_getD, List.getElem?_eq_getElem (by rw [one_len]; exact hk)]; rfl
    rw [e2]
    simp only [List.getElem?_range hk, Option.map_some, Option.some.injEq]
    by_cases h2 : k = s
    · subst h2
      have hl : liveB (one k g c) k g = true := by unfold liveB; rw [one_get]; simp [Reg.g]
      rw [h, one_get]
      simp only [Reg.g, hl, if_true, unR, unKL, unK]
    · rw [one_lt h2]
      split
      · rename_i r _
        have hl : liveB (one s g c) k r.g = false := by unfold liveB; rw [one_lt h2]
        rw [if_neg (by rw [hl]; simp)]
      · rfl
  · rw [List.getElem?_eq_none (by simp; omega), List.getElem?_eq_none (by rw [one_len]; omega)]; rfl
section
variable {P : Program} {st : St}
theorem CallS.tal {ops : Array Oper} {Q : St → Prop} {rest : List Oper} {dst : Option Tmp} {ks : List Nat} {f : FuncId} {args raw : List AV} {r : AV} {s g : Nat} {c d : Int} (h : MCalls P f st.gen raw (one s g c) r (one s g d))
    (k : aops P ops Q rest (st.after dst ⟨r, [(s, some (.box g [.int .i64 d]))], [s]⟩)) (hσ : st.σ.getD s none = some (.box g [.int .i64 c])) : CallS P ops Q rest st dst ks f args raw := by
  refine CallS.lent [s] (s + 1) (r := r) (σ' := one s g d) (by rw [lend_one hσ]; exact h) ?_
  simpa only [List.map_cons, List.map_nil, one_get] using k
theorem CallD.tal {ops : Array Oper} {Q : List Foot → St → Prop} {rest : List Oper} {acc : List Foot} {dst : Option Tmp} {ks : List Nat} {f : FuncId} {args raw : List AV} {r : AV} {s g : Nat} {c d : Int} (h : MCalls P f st.gen raw (one s g c) r (one s g d))
    (k : aopsD P ops Q rest ((⟨r, [(s, some (.box g [.int .i64 d]))], [s]⟩ : Res).foot :: acc) (st.after dst ⟨r, [(s, some (.box g [.int .i64 d]))], [s]⟩)) (hσ : st.σ.getD s none = some (.box g [.int .i64 c])) : CallD P ops Q rest acc st dst ks f args raw := by
  refine CallD.lent [s] (s + 1) (r := r) (σ' := one s g d) (by rw [lend_one hσ]; exact h) ?_
  simpa only [List.map_cons, List.map_nil, one_get] using k
structure HasT (st : St) (n : Nat) (tail : Sto) (ts : List (Nat × AV)) (rs : List (Nat × Reg)) : Prop where
  len : st.τ.length = n
  tail : st.σ.drop n = tail
  le : n ≤ st.σ.length
  slots : ∀ p ∈ ts, st.τ.getD p.1 .any = p.2
  regs : ∀ p ∈ rs, (st.σ.take n).getD p.1 none = some p.2
theorem a_hasT {c : Code} {Q : Exit → St → Prop} {n : Nat} {tail : Sto} {ts : List (Nat × AV)} {rs : List (Nat × Reg)} (h : HasT st n tail ts rs) (hc : ∀ τ σ g, ASpec P c Q ⟨tabT ts τ n 0, tabR rs σ n 0 ++ tail, g⟩) : ASpec P c Q st := by
  have e : st = ⟨tabT ts st.τ n 0, tabR rs (st.σ.take n) n 0 ++ tail, st.gen⟩ := by
    rw [tabT_of h.slots n 0 (by simp [h.len]), tabR_of h.regs n 0 (by have := h.le; simp; omega), ← h.tail]
    simp
  rw [e]; exact hc _ _ _
theorem mcalls_one {f : FuncId} {fn : Func} {c : Code} {γ m : Nat} {args : List AV} {s g : Nat} {n n' : Int} {r : AV} (hf : P.funcs[f]? = some fn) (hb : fn.body = some c) (hname : (fn.name == "runtime.NumGoroutine") = false) {rs : List ResultVar} (hrs : fn.results.toList = rs) (hn : fn.ntmps = m)
    (h : ∀ R : Exit → St → Prop, (∀ e st, (match e with | .ret | .normal => True | _ => False) → (∃ vs us ks, resL P st rs = some vs ∧ closeL (closeV st.σ 4) vs = some (us, ks) ∧ tupA us = r ∧ (applyUpd st.σ (killed ks)).getD (s + m) none = some (.box g [.int .i64 n'])) → R e st) →
      ASpec P c R ⟨shKL m args ++ List.replicate (m - args.length) .any, List.replicate m none ++ one s g n, γ + 1⟩) : MCalls P f γ args (one s g n) r (one s g n') := by
  refine mcalls_of hf hb hname hrs hn (sameG_one s g n n') ?_
  have e : stM m args (one s g n) γ = ⟨shKL m args ++ List.replicate (m - args.length) .any, List.replicate m none ++ one s g n, γ + 1⟩ := by
    unfold stM
    have : shS m (one s g n) = List.replicate m none ++ one s g n := by
      simp only [shS, one, List.map_append, List.map_replicate, Option.map_none, List.map_cons, Option.map_some, shR, shKL, shK, List.map_nil]
    rw [this]
  rw [e]
  refine h _ fun e st he ⟨vs, us, ks, h1, h2, h3, h4⟩ => ?_
  cases e <;> first | exact he.elim | (simp only [retM, h1, h2]; exact ⟨h3, backS_one h4⟩)
structure RetT (P : Program) (rs : List ResultVar) (r : AV) (k g : Nat) (n : Int) (e : Exit) (st : St) : Prop where
  ret : (match e with | .ret | .normal => True | _ => False) ∧ match resL P st rs with
    | some vs => match closeL (closeV st.σ 4) vs with
      | some (us, ks) => tupA us = r ∧ (applyUpd st.σ (killed ks)).getD k none = some (.box g [.int .i64 n])
      | none => False
    | none => False
theorem mcalls_t {f : FuncId} {fn : Func} {c : Code} {γ m : Nat} {args args' : List AV} {s g : Nat} {n n' : Int} {r : AV} (hf : P.funcs[f]? = some fn) (hb : fn.body = some c) (hname : (fn.name == "runtime.NumGoroutine") = false) {rs : List ResultVar} (hrs : fn.results.toList = rs) (hn : fn.ntmps = m) (ha : shKL m args = args')
    (h : ∀ R : Exit → St → Prop, (∀ e st, RetT P rs r (s + m) g n' e st → R e st) → ASpec P c R ⟨args' ++ List.replicate (m - args.length) .any, List.replicate m none ++ one s g n, γ + 1⟩) : MCalls P f γ args (one s g n) r (one s g n') := by
  subst ha
  refine mcalls_one hf hb hname hrs hn fun R hR => h R fun e st hr => ?_
  obtain ⟨h1, h2⟩ := hr.ret
  split at h2
  · rename_i vs hvs
    split at h2
    · rename_i us ks hus
      exact hR e st h1 ⟨vs, us, ks, hvs, hus, h2.1, h2.2⟩
    · exact h2.elim
  · exact h2.elim
def weakN : AV → AV
  | .nils => .slice []
  | x => x
theorem RepC.weakN {w : World} {own : Nat → Prop} {x : AV} {v : Value} (h : RepC w own x v) : RepC w own (Go.Ab.weakN x) v := by
  cases h <;> first | exact .slice0 | (constructor <;> assumption) | constructor
theorem ACalls.weakN {f : FuncId} {args args' : List AV} {r : AV} (h : ACalls P f args r) (e : args = args'.map Go.Ab.weakN) : ACalls P f args' r := by
  refine ⟨h.1, fun w own vs ho hg hr => h.2 w own vs ho hg ?_⟩
  subst e
  clear h
  induction args' generalizing vs with
  | nil => exact hr
  | cons x xs ih => cases hr with | cons h1 h2 => exact .cons h1.weakN (ih _ h2)
theorem repVL_swap {w : World} {own own' : Nat → Prop} {β : Nat → Nat → Loc} {ok : Nat → Nat → Prop} {x y : AV} (hm : ∀ {z : AV} {v : Value}, RepV w own β ok z v → RepV w own' β ok z v) (f : ∀ {v : Value}, RepV w own β ok x v → RepV w own' β ok y v) {cs2 : List AV} :
    ∀ {cs1 : List AV} {vs : List Value}, RepVL w own β ok (cs1 ++ x :: cs2) vs → RepVL w own' β ok (cs1 ++ y :: cs2) vs
  | [], _, h => by
    cases h with
    | cons h1 h2 =>
      refine .cons (f h1) ?_
      clear h1
      rename_i vs
      induction cs2 generalizing vs with
      | nil => cases h2; exact .nil
      | cons c cs ih => cases h2 with | cons h3 h4 => exact .cons (hm h3) (ih h4)
  | c :: cs, _, h => by
    cases h with
    | cons h1 h2 => exact .cons (hm h1) (repVL_swap hm f h2)
theorem a_freezeB {c : Code} {Q : Exit → St → Prop} (b : Nat) (cs1 cs2 : List AV) {gb k g es : Nat} {els : List (List AV)} (hbk : b ≠ k) (hb : st.σ[b]? = some (some (.box gb (cs1 ++ .view k g :: cs2)))) (hl : lookRow st.σ k g = some (es, els))
    (h : ASpec P c Q ⟨st.τ, (st.σ.set k none).set b (some (.box gb (cs1 ++ .slice els :: cs2))), st.gen⟩) : ASpec P c Q st := by
  intro n0 ext bs w0 a w ⟨β, ok, hs, hg, hx⟩ hb0
  have hk := hs.kill [k]
  have e : applyUpd st.σ (killed [k]) = st.σ.set k none := rfl
  rw [e] at hk
  have hrow := lookRow_some hl
  obtain ⟨hc, _⟩ := row_closed (ks := [k]) hs hrow (by simp)
  have hb2 : (st.σ.set k none)[b]? = some (some (.box gb (cs1 ++ .view k g :: cs2))) := by
    rw [List.getElem?_set_ne (fun e => hbk e.symm)]; exact hb
  obtain ⟨_, hn, hn0, cc, ty, vs, rest, hh, hcl, hrep, hroom⟩ := hs.regs _ _ hb
  have hsub : ∀ x, ownOf ext β (st.σ.set k none) x → ownLess ext β st.σ [k] x := by
    rintro x (h1 | ⟨t, r, h1, h2⟩)
    · exact .inl h1
    · have h3 := killed_sto (ks := [k]) (σ := st.σ) (show (applyUpd st.σ (killed [k]))[t]? = some (some r) from h1)
      exact .inr ⟨t, r, h3.1, h3.2, h2⟩
  have hsub2 : ∀ x, ownOf ext β (st.σ.set k none) x → ownOf ext β st.σ x := by
    rintro x (h1 | ⟨t, r, h1, h2⟩)
    · exact .inl h1
    · have h3 := killed_sto (ks := [k]) (σ := st.σ) (show (applyUpd st.σ (killed [k]))[t]? = some (some r) from h1)
      exact .inr ⟨t, r, h3.1, h2⟩
  have hin := hk.inplace (w' := w) (rk' := .box gb (cs1 ++ .slice els :: cs2)) hb2 rfl hn rfl (fun _ _ => rfl) (fun own' hgr => by
    refine ⟨hn, hn0, cc, ty, vs, rest, hh, hcl, ?_, hroom⟩
    refine repVL_swap (own := ownOf ext β st.σ) (x := .view k g) (fun hz => hz.mono ((Grows.less hsub2).trans hgr) (fun _ _ x => x) (fun _ _ _ => rfl)) (fun {v} hv => ?_) hrep
    rw [hv.view_open.2]
    exact .closed ((hc.mono (Grows.less hsub)).mono hgr))
  exact h n0 ext bs w0 a w ⟨β, ok, hin, hg, hx⟩ hb0
end
end Go.Ab
