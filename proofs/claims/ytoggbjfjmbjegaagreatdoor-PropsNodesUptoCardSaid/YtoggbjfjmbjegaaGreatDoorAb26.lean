/- Code run on given trees: a function that the kernel computes, and what it tells of the code. A known call, for the evaluator. Closing what leans on boxes; calls known by their closed arguments. Structs of plain fields are compared leaf by leaf. -/
import Derived.Test.YtoggbjfjmbjegaaGreatDoorAb22
import Derived.ChangeKeysEq
set_option linter.unusedSimpArgs false
set_option linter.unusedVariables false
section
set_option linter.unusedSimpArgs false
set_option linter.unusedVariables false
namespace Go.Ab
open Go.RowKit

mutual
def refsV : AV → List (Nat × Nat)
  | .agg cs => refsL cs
  | .func _ cs => refsL cs
  | .mfunc _ cs => refsL cs
  | .tuple cs => refsL cs
  | .view t g => [(t, g)]
  | .ptr t g _ => [(t, g)]
  | .rptr t g _ _ _ => [(t, g)]
  | .mref t g => [(t, g)]
  | .sl t g _ _ _ => [(t, g)]
  | _ => []
def refsL : List AV → List (Nat × Nat)
  | [] => []
  | x :: xs => refsV x ++ refsL xs
end
def refsR : Option Reg → List (Nat × Nat)
  | some (.box _ cs) => refsL cs
  | _ => []
def reachG (σ : Sto) : Nat → List (Nat × Nat) → List Nat → List Nat
  | 0, _, acc => acc
  | _ + 1, [], acc => acc
  | n + 1, (t, g) :: rest, acc => if acc.contains t = true || !liveB σ t g then reachG σ n rest acc else reachG σ n (refsR (σ.getD t none) ++ rest) (t :: acc)
def movesG (σ0 σc : Sto) : Nat → List (Nat × Nat) → Moves → Nat → Moves
  | 0, _, acc, _ => acc
  | _ + 1, [], acc, _ => acc
  | n + 1, (t, g) :: rest, acc, c => if liveB σ0 t g || acc.any (fun p => p.1 == t) || !liveB σc t g then movesG σ0 σc n rest acc c else movesG σ0 σc n (refsR (σc.getD t none) ++ rest) (acc ++ [(t, g, c)]) (c + 1)

mutual
def eqV : AV → AV → Bool
  | .bool a, .bool b => a == b
  | .int k a, .int k' b => decide (k = k') && decide (a = b)
  | .str a, .str b => decide (a = b)
  | .agg xs, .agg ys => eqL xs ys
  | .tuple xs, .tuple ys => eqL xs ys
  | .nils, .nils => true
  | .sl0, .sl0 => true
  | .nilFunc, .nilFunc => true
  | .view t g, .view t' g' => t == t' && g == g'
  | .ptr t g a, .ptr t' g' a' => t == t' && (g == g' && a == a')
  | .rptr t g a b c, .rptr t' g' a' b' c' => t == t' && (g == g' && (a == a' && (b == b' && c == c')))
  | .mref t g, .mref t' g' => t == t' && g == g'
  | .sl t g a b c, .sl t' g' a' b' c' => t == t' && (g == g' && (a == a' && (b == b' && c == c')))
  | .func (.func n) xs, .func (.func n') ys => n == n' && eqL xs ys
  | .mfunc (.func n) xs, .mfunc (.func n') ys => n == n' && eqL xs ys
  | _, _ => false
def eqL : List AV → List AV → Bool
  | [], [] => true
  | x :: xs, y :: ys => eqV x y && eqL xs ys
  | _, _ => false
end
mutual
theorem eqV_eq : ∀ (x y : AV), eqV x y = true → x = y
  | .bool a, y, h => by
    cases y <;> (first | (simp only [eqV, Bool.and_eq_true, beq_iff_eq, decide_eq_true_eq] at h; rw [h]; done) | (simp only [eqV] at h; cases h; done))
  | .int k a, y, h => by
    cases y <;> (first | (simp only [eqV, Bool.and_eq_true, beq_iff_eq, decide_eq_true_eq] at h; rw [h.1, h.2]; done) | (simp only [eqV] at h; cases h; done))
  | .str a, y, h => by
    cases y <;> (first | (simp only [eqV, Bool.and_eq_true, beq_iff_eq, decide_eq_true_eq] at h; rw [h]; done) | (simp only [eqV] at h; cases h; done))
  | .view t g, y, h => by
    cases y <;> (first | (simp only [eqV, Bool.and_eq_true, beq_iff_eq, decide_eq_true_eq] at h; rw [h.1, h.2]; done) | (simp only [eqV] at h; cases h; done))
  | .ptr t g a, y, h => by
    cases y <;> (first | (simp only [eqV, Bool.and_eq_true, beq_iff_eq, decide_eq_true_eq] at h; rw [h.1, h.2.1, h.2.2]; done) | (simp only [eqV] at h; cases h; done))
  | .rptr t g a b c, y, h => by
    cases y <;> (first | (simp only [eqV, Bool.and_eq_true, beq_iff_eq, decide_eq_true_eq] at h; rw [h.1, h.2.1, h.2.2.1, h.2.2.2.1, h.2.2.2.2]; done) | (simp only [eqV] at h; cases h; done))
  | .mref t g, y, h => by
    cases y <;> (first | (simp only [eqV, Bool.and_eq_true, beq_iff_eq, decide_eq_true_eq] at h; rw [h.1, h.2]; done) | (simp only [eqV] at h; cases h; done))
  | .sl t g a b c, y, h => by
    cases y <;> (first | (simp only [eqV, Bool.and_eq_true, beq_iff_eq, decide_eq_true_eq] at h; rw [h.1, h.2.1, h.2.2.1, h.2.2.2.1, h.2.2.2.2]; done) | (simp only [eqV] at h; cases h; done))
  | .nils, y, h => by
    cases y <;> (first | rfl | (simp only [eqV] at h; cases h; done))
  | .sl0, y, h => by
    cases y <;> (first | rfl | (simp only [eqV] at h; cases h; done))
  | .nilFunc, y, h => by
    cases y <;> (first | rfl | (simp only [eqV] at h; cases h; done))
  | .agg xs, y, h => by
    cases y <;> (first | (simp only [eqV] at h; rw [eqL_eq xs _ h]; done) | (simp only [eqV] at h; cases h; done))
  | .tuple xs, y, h => by
    cases y <;> (first | (simp only [eqV] at h; rw [eqL_eq xs _ h]; done) | (simp only [eqV] at h; cases h; done))
  | .func f xs, y, h => by
    cases y <;> cases f <;> (try (simp only [eqV] at h; cases h; done))
    rename_i f' ys n
    cases f' <;> (try (simp only [eqV] at h; cases h; done))
    simp only [eqV, Bool.and_eq_true, beq_iff_eq] at h
    rw [h.1, eqL_eq xs _ h.2]
  | .mfunc f xs, y, h => by
    cases y <;> cases f <;> (try (simp only [eqV] at h; cases h; done))
    rename_i f' ys n
    cases f' <;> (try (simp only [eqV] at h; cases h; done))
    simp only [eqV, Bool.and_eq_true, beq_iff_eq] at h
    rw [h.1, eqL_eq xs _ h.2]
  | .slice els, y, h => by cases y <;> (simp only [eqV] at h; cases h)
  | .cptr cs, y, h => by cases y <;> (simp only [eqV] at h; cases h)
  | .lit v, y, h => by cases y <;> (simp only [eqV] at h; cases h)
  | .any, y, h => by cases y <;> (simp only [eqV] at h; cases h)
theorem eqL_eq : ∀ (xs ys : List AV), eqL xs ys = true → xs = ys
  | [], ys, h => by cases ys <;> first | rfl | (simp only [eqL] at h; cases h)
  | x :: xs, ys, h => by
    cases ys with
    | nil => simp only [eqL] at h; cases h
    | cons y ys =>
      simp only [eqL, Bool.and_eq_true] at h
      rw [eqV_eq x y h.1, eqL_eq xs ys h.2]
end
def eqR : Option Reg → Option Reg → Bool
  | none, none => true
  | some (.box g xs), some (.box g' ys) => g == g' && eqL xs ys
  | _, _ => false
theorem eqR_eq {x y : Option Reg} (h : eqR x y = true) : x = y := by
  unfold eqR at h
  split at h
  · rfl
  · simp only [Bool.and_eq_true, beq_iff_eq] at h
    rw [h.1, eqL_eq _ _ h.2]
  · cases h

abbrev CallG := FuncId → Nat → List Nat → List AV → Sto → Nat → Option (AV × Sto × List Nat)
section
variable {P : Program} {eqs : TypeId → List AV → List AV → Bool} {L : Nat}
def stepG (P : Program) (eqs : TypeId → List AV → List AV → Bool) (L : Nat) (call : CallG) (st : St) (o : Oper) (c : Nat) : Option (Res × List Nat × Nat) :=
  match pureOp P (opnd st.τ) o.op with
  | some (_, v) => if pOk P eqs (opnd st.τ) o.op = true then some (⟨v, [], []⟩, [], c) else none
  | none => match callOf (opnd st.τ) o.op with
    | some (f, args) =>
      match extB P f args with
      | some r => some (⟨r, [], []⟩, [], c)
      | none =>
        let ls := reachG st.σ 400 (refsL args) []
        match call f st.gen ls args (lend st.σ ls L) c with
        | some (r, σ', κ) => some (⟨r, (ls.filter (fun k => !eqR (σ'.getD k none) ((lend st.σ ls L).getD k none)) ++ κ).map fun k => (k, σ'.getD k none), ls⟩, κ, c + κ.length)
        | none => none
    | none => if allocB o.op = true then
        match memS P (opnd st.τ) st.σ st.gen (some c) o.op with
        | some (true, r) => some (r, [c], c + 1)
        | some (false, _) => none
        | none => match memOp P (opnd st.τ) st.σ st.gen (some c) o.op with
          | some (_, r) => if mOk P (opnd st.τ) st.σ o.op = true then some (r, [c], c + 1) else none
          | none => none
      else match memS P (opnd st.τ) st.σ st.gen o.dst o.op with
        | some (true, r) => some (r, [], c)
        | some (false, _) => none
        | none => match memOp P (opnd st.τ) st.σ st.gen o.dst o.op with
          | some (_, r) => if mOk P (opnd st.τ) st.σ o.op = true then some (r, [], c) else none
          | none => none
theorem stepG_sound (heq : ∀ t xs ys r, eqs t xs ys = true → eqAll xs ys = some r → EqT P t xs ys r) {call : CallG} (hcall : ∀ f γ ls args σ c r σ' κ, call f γ ls args σ c = some (r, σ', κ) → GCalls P f γ κ args σ r σ') {st : St} {o : Oper} {c c' : Nat} {r : Res} {κ : List Nat}
    (h : stepG P eqs L call st o c = some (r, κ, c')) : Exec P κ st o r := by
  unfold stepG at h
  split at h
  · rename_i pre v hp
    split at h
    · rename_i hb
      simp only [Option.some.injEq, Prod.mk.injEq] at h; obtain ⟨rfl, rfl, rfl⟩ := h
      exact .pure hp (pOk_sound heq hp hb)
    · cases h
  · split at h
    · rename_i f args hc
      split at h
      · rename_i r' hE
        simp only [Option.some.injEq, Prod.mk.injEq] at h; obtain ⟨rfl, rfl, rfl⟩ := h
        exact .ext hc hE
      · simp only at h
        split at h
        · rename_i r' σ' κ' hr
          simp only [Option.some.injEq, Prod.mk.injEq] at h; obtain ⟨rfl, rfl, rfl⟩ := h
          refine .gcall hc (hcall _ _ _ _ _ _ _ _ _ hr) fun k hk hn => ?_
          by_cases he : eqR (σ'.getD k none) ((lend st.σ (reachG st.σ 400 (refsL args) []) L).getD k none) = true
          · exact eqR_eq he
          · exact absurd (List.mem_filter.mpr ⟨hk, by rw [Bool.not_eq_true] at he; rw [he]; rfl⟩) hn
        · cases h
    · split at h
      · split at h
        · rename_i r' hm
          simp only [Option.some.injEq, Prod.mk.injEq] at h; obtain ⟨rfl, rfl, rfl⟩ := h
          exact .lay (List.mem_singleton.mpr rfl) hm
        · cases h
        · split at h
          · rename_i pre r' hm
            split at h
            · rename_i hb
              simp only [Option.some.injEq, Prod.mk.injEq] at h; obtain ⟨rfl, rfl, rfl⟩ := h
              exact .layM (List.mem_singleton.mpr rfl) hm (mOk_sound hm hb)
            · cases h
          · cases h
      · rename_i hal
        split at h
        · rename_i r' hm
          simp only [Option.some.injEq, Prod.mk.injEq] at h; obtain ⟨rfl, rfl, rfl⟩ := h
          exact .cell hm (by simpa using hal)
        · cases h
        · split at h
          · rename_i pre r' hm
            split at h
            · rename_i hb
              simp only [Option.some.injEq, Prod.mk.injEq] at h; obtain ⟨rfl, rfl, rfl⟩ := h
              exact .mem hm (mOk_sound hm hb) (fun e => absurd e hal)
            · cases h
          · cases h
def opsG (P : Program) (eqs : TypeId → List AV → List AV → Bool) (L : Nat) (call : CallG) (ops : Array Oper) : List Oper → List Foot → St → Nat → Option (List Foot × List (List Nat) × St × Nat)
  | [], acc, st, c => some (acc.reverse, [], ⟨st.τ, st.σ, st.gen + 1⟩, c)
  | o :: rest, acc, st, c =>
    match o.guard with
    | none => match stepG P eqs L call st o c with
      | some (r, κ, c') => match opsG P eqs L call ops rest (r.foot :: acc) (st.after o.dst r) c' with
        | some (fs, κs, st', c'') => some (fs, κ :: κs, st', c'')
        | none => none
      | none => none
    | some (j, want) => match gval ops st.τ j with
      | some (some b) => if b = want then match stepG P eqs L call st o c with
          | some (r, κ, c') => match opsG P eqs L call ops rest (r.foot :: acc) (st.after o.dst r) c' with
            | some (fs, κs, st', c'') => some (fs, κ :: κs, st', c'')
            | none => none
          | none => none
        else match opsG P eqs L call ops rest (([], []) :: acc) (st.after o.dst skipR) c with
          | some (fs, κs, st', c'') => some (fs, [] :: κs, st', c'')
          | none => none
      | some none => match opsG P eqs L call ops rest (([], []) :: acc) (st.after o.dst skipR) c with
          | some (fs, κs, st', c'') => some (fs, [] :: κs, st', c'')
          | none => none
      | none => none
def atK (κs : List (List Nat)) (i : Nat) : List Nat := κs.getD i []
theorem opsG_sound (heq : ∀ t xs ys r, eqs t xs ys = true → eqAll xs ys = some r → EqT P t xs ys r) {call : CallG} (hcall : ∀ f γ ls args σ c r σ' κ, call f γ ls args σ c = some (r, σ', κ) → GCalls P f γ κ args σ r σ') {ops : Array Oper} {κ : Nat → List Nat} :
    ∀ {l : List Oper} {i : Nat} {acc : List Foot} {st : St} {c : Nat} {fs : List Foot} {κs : List (List Nat)} {st' : St} {c' : Nat}, opsG P eqs L call ops l acc st c = some (fs, κs, st', c') → (∀ j, j < l.length → κ (i + j) = atK κs j) →
      (∀ Q : St → Prop, Q st' → xops P κ ops Q i l st) ∧ (∀ Q : List Foot → St → Prop, Q fs st' → xopsD P κ ops Q i l acc st)
  | [], i, acc, st, c, fs, κs, st', c', h, _ => by
    simp only [opsG, Option.some.injEq, Prod.mk.injEq] at h
    obtain ⟨rfl, _, rfl, _⟩ := h
    exact ⟨fun Q hQ => hQ, fun Q hQ => hQ⟩
  | o :: rest, i, acc, st, c, fs, κs, st', c', h, hκ => by
    have go : ∀ {acc1 : List Foot} {st1 : St} {c1 : Nat} {κ1 : List Nat} {κr : List (List Nat)}, κs = κ1 :: κr → opsG P eqs L call ops rest acc1 st1 c1 = some (fs, κr, st', c') →
        κ i = κ1 ∧ (∀ Q : St → Prop, Q st' → xops P κ ops Q (i + 1) rest st1) ∧ (∀ Q : List Foot → St → Prop, Q fs st' → xopsD P κ ops Q (i + 1) rest acc1 st1) := by
      intro acc1 st1 c1 κ1 κr e hr
      subst e
      refine ⟨by simpa [atK] using hκ 0 (by simp), opsG_sound heq hcall hr fun j hj => ?_⟩
      have := hκ (j + 1) (by simpa using hj)
      rw [show i + (j + 1) = i + 1 + j by omega] at this
      simpa [atK] using this
    have run : ∀ {r : Res} {κ1 : List Nat} {c1 : Nat} {κr : List (List Nat)}, stepG P eqs L call st o c = some (r, κ1, c1) → κs = κ1 :: κr → opsG P eqs L call ops rest (r.foot :: acc) (st.after o.dst r) c1 = some (fs, κr, st', c') →
        (∀ Q : St → Prop, Q st' → ∃ r, Exec P (κ i) st o r ∧ xops P κ ops Q (i + 1) rest (st.after o.dst r)) ∧ (∀ Q : List Foot → St → Prop, Q fs st' → ∃ r, Exec P (κ i) st o r ∧ xopsD P κ ops Q (i + 1) rest (r.foot :: acc) (st.after o.dst r)) := by
      intro r κ1 c1 κr hs e hr
      obtain ⟨h1, h2, h3⟩ := go e hr
      rw [h1]
      exact ⟨fun Q hQ => ⟨_, stepG_sound heq hcall hs, h2 Q hQ⟩, fun Q hQ => ⟨_, stepG_sound heq hcall hs, h3 Q hQ⟩⟩
    simp only [opsG] at h
    simp only [xops, xopsD, gateA]
    split at h
    · rename_i hg
      rw [hg]
      simp only
      split at h
      · rename_i r κ1 c1 hs
        split at h
        · rename_i fs1 κr st1 c2 hr
          simp only [Option.some.injEq, Prod.mk.injEq] at h; obtain ⟨rfl, e, rfl, rfl⟩ := h
          exact run hs e.symm hr
        · cases h
      · cases h
    · rename_i j want hg
      rw [hg]
      simp only
      split at h
      · rename_i b hv
        rw [hv]
        simp only
        split at h
        · rename_i hb
          subst hb
          split at h
          · rename_i r κ1 c1 hs
            split at h
            · rename_i fs1 κr st1 c2 hr
              simp only [Option.some.injEq, Prod.mk.injEq] at h; obtain ⟨rfl, e, rfl, rfl⟩ := h
              refine ⟨fun Q hQ => ⟨fun _ => ?_, fun e => by cases b <;> cases e⟩, fun Q hQ => ⟨fun _ => ?_, fun e => by cases b <;> cases e⟩⟩
              · rw [learn_same hv]; exact (run hs e.symm hr).1 Q hQ
              · rw [learn_same hv]; exact (run hs e.symm hr).2 Q hQ
            · cases h
          · cases h
        · rename_i hb
          have hb' : b = !want := by cases b <;> cases want <;> simp at hb ⊢
          split at h
          · rename_i fs1 κr st1 c2 hr
            simp only [Option.some.injEq, Prod.mk.injEq] at h; obtain ⟨rfl, e, rfl, rfl⟩ := h
            obtain ⟨_, g1, g2⟩ := go e.symm hr
            refine ⟨fun Q hQ => ⟨fun e => absurd e hb, fun _ => ?_⟩, fun Q hQ => ⟨fun e => absurd e hb, fun _ => ?_⟩⟩
            · rw [← hb', learn_same hv]; exact g1 Q hQ
            · rw [← hb', learn_same hv]; exact g2 Q hQ
          · cases h
      · rename_i hv
        rw [hv]
        split at h
        · rename_i fs1 κr st1 c2 hr
          simp only [Option.some.injEq, Prod.mk.injEq] at h; obtain ⟨rfl, e, rfl, rfl⟩ := h
          obtain ⟨_, g1, g2⟩ := go e.symm hr
          exact ⟨g1, g2⟩
        · cases h
      · cases h
def codeG (P : Program) (eqs : TypeId → List AV → List AV → Bool) (L : Nat) (call : CallG) : Nat → Code → St → Nat → Option (Exit × St × Nat)
  | 0, _, _, _ => none
  | n + 1, k, st, c =>
    match k with
    | .skip => some (.normal, st, c)
    | .exit id => some (.exit id, st, c)
    | .ret => some (.ret, st, c)
    | .region _ ops draw =>
      match opsG P eqs L call ops ops.toList [] st c with
      | some (fs, κs, st', c') => if (decide (allocKeys (atK κs) 0 ops.toList).Nodup && (!draw || (backB ops.toList && confB ops.toList fs))) = true then some (.normal, st', c') else none
      | none => none
    | .seq x y => match codeG P eqs L call n x st c with
      | some (.normal, st', c') => codeG P eqs L call n y st' c'
      | r => r
    | .cond b x y => match opnd st.τ b with
      | .bool true => codeG P eqs L call n x st c
      | .bool false => codeG P eqs L call n y st c
      | _ => none
    | .block id x => match codeG P eqs L call n x st c with
      | some (.exit id', st', c') => if id' = id then some (.normal, st', c') else some (.exit id', st', c')
      | r => r
    | .loop x => match codeG P eqs L call n x st c with
      | some (.normal, st', c') => codeG P eqs L call n (.loop x) st' c'
      | r => r
    | .label _ => some (.normal, st, c)
    | .scope x => match codeG P eqs L call n x st c with
      | some (.goto _, _, _) => none
      | r => r
    | _ => none
theorem codeG_sound (hm : P.follows .mixedOrders = true) (heq : ∀ t xs ys r, eqs t xs ys = true → eqAll xs ys = some r → EqT P t xs ys r) {call : CallG} (hcall : ∀ f γ ls args σ c r σ' κ, call f γ ls args σ c = some (r, σ', κ) → GCalls P f γ κ args σ r σ') :
    ∀ (n : Nat) (k : Code) (st : St) (c : Nat) (e : Exit) (st' : St) (c' : Nat), codeG P eqs L call n k st c = some (e, st', c') → ∀ Q : Exit → St → Prop, Q e st' → ASpec P k Q st := by
  intro n
  induction n using Nat.strongRecOn with
  | _ n ih =>
    intro k st c e st' c' h Q hQ
    cases n with
    | zero => cases h
    | succ n =>
      have ihn := ih n (Nat.lt_succ_self n)
      cases k with
      | skip => cases h; exact a_skip hQ
      | exit id => cases h; exact a_exit hQ
      | ret => cases h; exact a_ret hQ
      | region id ops draw =>
        simp only [codeG] at h
        split at h
        · rename_i fs κs st2 c2 ho
          split at h
          · rename_i hb
            cases h
            simp only [Bool.and_eq_true, Bool.or_eq_true, Bool.not_eq_true', decide_eq_true_eq] at hb
            have hs := opsG_sound (κ := atK κs) (i := 0) heq hcall ho (fun j _ => by rw [Nat.zero_add])
            cases draw
            · exact a_xregion hb.1 (hs.1 _ hQ)
            · have hb2 := hb.2.resolve_left (by simp)
              exact a_xdraw hm hb.1 hb2.1 (hs.2 _ ⟨hb2.2, hQ⟩)
          · cases h
        · cases h
      | seq x y =>
        simp only [codeG] at h
        split at h
        · rename_i st2 c2 hx
          exact a_seq (ihn x st _ _ _ _ hx _ (ihn y st2 _ _ _ _ h Q hQ))
        · rename_i hx
          refine a_seq (ihn x st _ _ _ _ h _ ?_)
          cases e <;> first | exact hQ | exact absurd h (hx _ _)
      | cond b x y =>
        simp only [codeG] at h
        split at h
        · rename_i hk; exact a_cond_true hk (ihn x st _ _ _ _ h Q hQ)
        · rename_i hk; exact a_cond_false hk (ihn y st _ _ _ _ h Q hQ)
        · cases h
      | block id x =>
        simp only [codeG] at h
        split at h
        · rename_i id' st2 c2 hx
          refine a_block (ihn x st _ _ _ _ hx _ ?_)
          simp only [blockA]
          split at h
          · rename_i e1; cases h; rw [if_pos e1]; exact hQ
          · rename_i e1; cases h; rw [if_neg e1]; exact hQ
        · rename_i hx
          refine a_block (ihn x st _ _ _ _ h _ ?_)
          cases e <;> first | exact hQ | exact absurd h (hx _ _ _)
      | loop x =>
        refine a_loop (fun m st1 => m ≤ n + 1 ∧ ∃ c1, codeG P eqs L call m (.loop x) st1 c1 = some (e, st', c')) ?_ ⟨Nat.le_refl _, c, h⟩
        rintro m st1 ⟨hm1, c1, h1⟩
        cases m with
        | zero => cases h1
        | succ m =>
          have ihm := ih m (by omega)
          simp only [codeG] at h1
          split at h1
          · rename_i st2 c2 hx
            exact ihm x st1 _ _ _ _ hx _ ⟨m, Nat.lt_succ_self m, by omega, c2, h1⟩
          · rename_i hx
            refine ihm x st1 _ _ _ _ h1 _ ?_
            cases e <;> first | exact hQ | exact absurd h1 (hx _ _)
      | label l => cases h; exact a_label hQ
      | scope x =>
        simp only [codeG] at h
        split at h
        · cases h
        · rename_i hx
          refine a_scope (ihn x st _ _ _ _ h _ ?_)
          cases e <;> first | exact hQ | exact absurd h (hx _ _ _)
      | _ => cases h
def finG (P : Program) (L : Nat) (rs : List ResultVar) (γ : Nat) (ls : List Nat) (σ0 : Sto) (c : Nat) (st : St) : Option (AV × Sto × List Nat) :=
  match resL P st rs with
  | some vs =>
    let π := movesG σ0 st.σ 400 (refsL vs ++ ls.flatMap fun k => refsR (st.σ.getD k none)) [] c
    match renL σ0 γ π vs with
    | some us => if okMoves σ0 (π.map fun p => p.2.2) π = true then some (tupA us, backG L σ0 γ π st.σ, π.map fun p => p.2.2) else none
    | none => none
  | none => none
def runG (P : Program) (eqs : TypeId → List AV → List AV → Bool) (L fuel : Nat) (known : CallG) : Nat → CallG
  | 0, _, _, _, _, _, _ => none
  | n + 1, f, γ, ls, args, σ, c =>
    match known f γ ls args σ c with
    | some x => some x
    | none => match P.funcs[f]? with
      | some fn => match fn.body with
        | some k => if (fn.name == "runtime.NumGoroutine") = false then
            match codeG P eqs L (runG P eqs L fuel known n) fuel k (stG fn.ntmps args σ γ) c with
            | some (.ret, st, _) => finG P L fn.results.toList γ ls σ c st
            | some (.normal, st, _) => finG P L fn.results.toList γ ls σ c st
            | _ => none
          else none
        | none => none
      | none => none
theorem finG_sound {rs : List ResultVar} {γ : Nat} {ls κ : List Nat} {σ0 σ' : Sto} {c : Nat} {st : St} {r : AV} (h : finG P L rs γ ls σ0 c st = some (r, σ', κ)) : retG P σ0 γ κ rs r σ' .ret st ∧ retG P σ0 γ κ rs r σ' .normal st := by
  unfold finG at h
  split at h
  · rename_i vs hv
    simp only at h
    split at h
    · rename_i us hu
      split at h
      · rename_i hok
        simp only [Option.some.injEq, Prod.mk.injEq] at h; obtain ⟨rfl, rfl, rfl⟩ := h
        exact ⟨⟨L, _, vs, us, hv, hu, rfl, rfl, hok⟩, ⟨L, _, vs, us, hv, hu, rfl, rfl, hok⟩⟩
      · cases h
    · cases h
  · cases h
theorem runG_sound (hm : P.follows .mixedOrders = true) (heq : ∀ t xs ys r, eqs t xs ys = true → eqAll xs ys = some r → EqT P t xs ys r) (fuel : Nat) {known : CallG} (hk : ∀ f γ ls args σ c r σ' κ, known f γ ls args σ c = some (r, σ', κ) → GCalls P f γ κ args σ r σ') :
    ∀ (n : Nat) (f : FuncId) (γ : Nat) (ls : List Nat) (args : List AV) (σ : Sto) (c : Nat) (r : AV) (σ' : Sto) (κ : List Nat), runG P eqs L fuel known n f γ ls args σ c = some (r, σ', κ) → GCalls P f γ κ args σ r σ' := by
  intro n
  induction n with
  | zero => intro f γ ls args σ c r σ' κ h; cases h
  | succ n ih =>
    intro f γ ls args σ c r σ' κ h
    simp only [runG] at h
    split at h
    · rename_i x hx
      cases h
      exact hk _ _ _ _ _ _ _ _ _ hx
    · split at h
      · rename_i fn hf
        split at h
        · rename_i k hb
          split at h
          · rename_i hn
            split at h
            · rename_i st c2 hc
              exact gcalls_of hf hb hn (codeG_sound hm heq ih fuel k _ _ _ _ _ hc _ (finG_sound h).1)
            · rename_i st c2 hc
              exact gcalls_of hf hb hn (codeG_sound hm heq ih fuel k _ _ _ _ _ hc _ (finG_sound h).2)
            · cases h
          · cases h
        · cases h
      · cases h
mutual
theorem rep_closed {w : World} {own : Nat → Prop} {β : Nat → Nat → Loc} : ∀ {x : AV} {v : Value}, RepV w own β (fun _ _ => False) x v → RepC w own x v
  | _, _, .closed h => h
  | _, _, .agg h => .agg (rep_closedL h)
  | _, _, .func h => .func (rep_closedL h)
  | _, _, .mfunc h => .mfunc (rep_closedL h)
  | _, _, .tuple h => .tuple (rep_closedL h)
  | _, _, .view h => h.elim
  | _, _, .ptr h => h.elim
  | _, _, .rptr h => h.elim
  | _, _, .mref h => h.elim
  | _, _, .sl h _ _ => h.elim
theorem rep_closedL {w : World} {own : Nat → Prop} {β : Nat → Nat → Loc} : ∀ {xs : List AV} {vs : List Value}, RepVL w own β (fun _ _ => False) xs vs → RepCL w own xs vs
  | _, _, .nil => .nil
  | _, _, .cons h1 h2 => .cons (rep_closed h1) (rep_closedL h2)
end
theorem acalls_g {f : FuncId} {γ : Nat} {args : List AV} {r : AV} {σ σ' : Sto} (hσ : ∀ (t : Nat) (r' : Reg), σ[t]? ≠ some (some r')) (h : GCalls P f γ [] args σ r σ') : ACalls P f args r := by
  obtain ⟨h1, h2⟩ := h
  refine ⟨h1, fun w own vs hown hglob hargs => ?_⟩
  have hless : ∀ b, ownOf own (fun _ _ => default) σ b → own b := by
    rintro b (h3 | ⟨t, r', h3, _⟩)
    · exact h3
    · exact absurd h3 (hσ t r')
  have hs : StRel (fun b => w.heap.size ≤ b) own (fun _ _ => default) (fun _ _ => False) ⟨args, σ, γ⟩ { tmps := vs.toArray, defers := [] } w := by
    refine ⟨?_, fun t r' ht => absurd ht (hσ t r'), fun t t' r1 r2 h1 => absurd h1 (hσ t r1), fun b hb => Nat.not_le.mpr (hown b hb), fun _ h => h, rfl, hglob.mono (Grows.less hless)⟩
    simp only
    refine (hargs.mono (Grows.less ?_)).toV
    rintro b (h3 | ⟨t, r', h3, _⟩)
    · exact h3
    · exact absurd h3 (hσ t r')
  refine (h2 _ _ _ _ vs w hs (fun _ _ h => h.elim) (fun _ h => by cases h)).mono ?_
  rintro e w' ⟨v, β', ok', rfl, h3, h4, _, h5⟩
  have hok : ok' = fun _ _ => False := by
    funext t g
    refine propext ⟨fun hk => ?_, fun h => h.elim⟩
    rcases h4 t g hk with h | ⟨h, _⟩
    · exact h
    · cases h
  subst hok
  refine ⟨v, rfl, ?_, h5.below⟩
  have h6 := h3.temps
  cases h6 with
  | cons h7 _ => exact (rep_closed h7).mono (Grows.less fun b hb => .inl hb)
end
end Go.Ab
end

section
namespace Go.Ab
open Go.RowKit
variable {P : Program}
theorem gcalls_of_acalls {f : FuncId} {γ : Nat} {args : List AV} {σ : Sto} {r : AV} (hcl : closeL (closeV σ 4) args = some (args, [])) (hA : ACalls P f args r) : GCalls P f γ [] args σ r σ := by
  refine ⟨hA.1, fun N ext β ok vs w hst hgen _ => ?_⟩
  have hcl' : RepCL w (ownLess ext β σ []) args vs :=
    closeL_sound (own' := fun ks => ownLess ext β σ ks) (fun x v y ks ks' => closeV_sound hst 4 x v y ks ks') (by simpa using hst.temps) hcl (fun _ hk => hk)
  have hless : ∀ b, ownLess ext β σ [] b → ownOf ext β σ b := ownLess_sub σ []
  have hlt : ∀ b, ownLess ext β σ [] b → b < w.heap.size := by
    rintro b (h1 | ⟨t, r', h1, _, h2, rfl⟩)
    · exact Nat.lt_of_not_le fun hle => hst.extlt _ h1 (hst.n0le _ hle)
    · exact reg_lt hst h1 h2
  refine (hA.2 w (ownLess ext β σ []) vs hlt (hst.glob.mono (Grows.less hless)) hcl').mono ?_
  rintro e w' ⟨v, rfl, hrv, hbel⟩
  have h2 := hst.below hbel
  refine ⟨v, β, ok, rfl, ⟨?_, h2.regs, h2.dist, h2.extlt, h2.n0le, rfl, h2.glob⟩, fun t g hk => .inl hk, fun t g hk => ⟨hk, rfl⟩, .of_below hbel hst.n0le⟩
  exact .cons (.closed (hrv.mono (Grows.less (by
    rintro b (h1 | ⟨t, r', h1, h2⟩)
    · exact .inl h1
    · exact .inr ⟨t, r', h1, by simp, h2⟩)))) .nil
def knownS (tab : List (FuncId × ByteArray × AV)) : CallG := fun f _ _ args σ _ =>
  match args with
  | [.str s] => match tab.find? (fun p => p.1 == f && decide (p.2.1 = s)) with
    | some p => some (p.2.2, σ, [])
    | none => none
  | _ => none
theorem knownS_sound {tab : List (FuncId × ByteArray × AV)} (h : ∀ p ∈ tab, ACalls P p.1 [.str p.2.1] p.2.2) : ∀ f γ ls args σ c r σ' κ, knownS tab f γ ls args σ c = some (r, σ', κ) → GCalls P f γ κ args σ r σ' := by
  intro f γ ls args σ c r σ' κ hk
  unfold knownS at hk
  split at hk
  · rename_i s
    split at hk
    · rename_i p hp
      simp only [Option.some.injEq, Prod.mk.injEq] at hk
      obtain ⟨rfl, rfl, rfl⟩ := hk
      have h1 := List.find?_some hp
      simp only [Bool.and_eq_true, beq_iff_eq, decide_eq_true_eq] at h1
      have h2 := h p (List.mem_of_find?_eq_some hp)
      rw [h1.1, h1.2] at h2
      exact gcalls_of_acalls rfl h2
    · cases hk
  · cases hk
end Go.Ab
end

section
set_option linter.unusedSimpArgs false
set_option linter.unusedVariables false
namespace Go.Ab
open Go.RowKit
def chunkA (es : Nat) : Nat → List AV → List (List AV)
  | 0, _ => []
  | n + 1, xs => xs.take es :: chunkA es n (xs.drop es)
theorem chunkA_flat (es : Nat) : ∀ (n : Nat) (xs : List AV), xs.length = n * es → (chunkA es n xs).flatten = xs ∧ (∀ e ∈ chunkA es n xs, e.length = es) ∧ (chunkA es n xs).length = n
  | 0, xs, h => by
    have : xs = [] := List.length_eq_zero_iff.1 (by simpa using h)
    subst this
    exact ⟨rfl, by simp [chunkA], rfl⟩
  | n + 1, xs, h => by
    rw [Nat.add_mul, Nat.one_mul] at h
    obtain ⟨h1, h2, h3⟩ := chunkA_flat es n (xs.drop es) (by rw [List.length_drop]; omega)
    refine ⟨?_, ?_, by simp [chunkA, h3]⟩
    · simp only [chunkA, List.flatten_cons, h1, List.take_append_drop]
    · intro e he
      simp only [chunkA, List.mem_cons] at he
      rcases he with rfl | he
      · rw [List.length_take]; omega
      · exact h2 e he
def closeWL (f : AV → Option AV) : List AV → Option (List AV)
  | [] => some []
  | x :: xs => match f x, closeWL f xs with
    | some y, some ys => some (y :: ys)
    | _, _ => none
def closeW (σ : Sto) : Nat → AV → Option AV
  | _, .bool b => some (.bool b)
  | _, .int k n => some (.int k n)
  | _, .str s => some (.str s)
  | _, .slice els => some (.slice els)
  | _, .nils => some .nils
  | _, .sl0 => some (.slice [])
  | _, .nilFunc => some .nilFunc
  | n + 1, .agg cs => match closeWL (closeW σ n) cs with | some ys => some (.agg ys) | none => none
  | n + 1, .tuple cs => match closeWL (closeW σ n) cs with | some ys => some (.tuple ys) | none => none
  | n + 1, .sl k g es off len => match lookBox σ k g with
    | some cs => if off + len * es ≤ cs.length then
        match closeWL (closeW σ n) ((cs.drop off).take (len * es)) with | some ys => some (.slice (chunkA es len ys)) | none => none
      else none
    | none => none
  | _, .view k g => match lookRow σ k g with | some (_, els) => some (.slice els) | none => none
  | _, _ => none
section
variable {P : Program} {N : Nat → Prop} {ext : Nat → Prop} {β : Nat → Nat → Loc} {ok : Nat → Nat → Prop} {st : St} {a : Act} {w : World}
theorem ext_less (b : Nat) (h : ext b) : ownOf ext β st.σ b := .inl h
theorem closed_ext {x : AV} {v : Value} (h : RepC w (ownOf ext β st.σ) x v) : RepC w ext x v := h.mono (Grows.less fun _ hb => .inl hb)
theorem closeWL_sound {σ : Sto} {own own' : Nat → Prop} {f : AV → Option AV} (hf : ∀ x v y, RepV w own β ok x v → f x = some y → RepC w own' y v) : ∀ {xs ys : List AV} {vs : List Value}, RepVL w own β ok xs vs → closeWL f xs = some ys → RepCL w own' ys vs
  | [], _, _, h, he => by cases h; cases he; exact .nil
  | x :: xs, _, _, h, he => by
    cases h with
    | cons h1 h2 =>
      simp only [closeWL] at he
      split at he
      · rename_i y ys hy hys
        cases he
        exact .cons (hf _ _ _ h1 hy) (closeWL_sound (σ := σ) hf h2 hys)
      · cases he
theorem closeWL_length {f : AV → Option AV} : ∀ {xs ys : List AV}, closeWL f xs = some ys → ys.length = xs.length
  | [], _, he => by cases he; rfl
  | x :: xs, _, he => by
    simp only [closeWL] at he
    split at he
    · rename_i y ys hy hys
      cases he
      simp [closeWL_length hys]
    · cases he
theorem closeW_sound (h : StRel N ext β ok st a w) : ∀ (n : Nat) (x : AV) (v : Value) (y : AV), RepV w (ownOf ext β st.σ) β ok x v → closeW st.σ n x = some y → RepC w ext y v := by
  intro n
  induction n with
  | zero =>
    intro x v y hx he
    cases x <;> simp only [closeW] at he <;> (try (cases he; done))
    case bool => cases he; rw [hx.bool_open]; exact .bool _
    case int => cases he; rw [hx.int_open]; exact .int _ _
    case str => cases he; rw [hx.str_open]; exact .str _
    case slice => cases he; exact closed_ext (st := st) (β := β) hx.slice_open
    case nils => cases he; rw [hx.nils_open]; exact .nils
    case nilFunc => cases he; rw [hx.nilFunc_open]; exact .nilFunc
    case sl0 =>
      cases he
      obtain ⟨o, rfl⟩ := hx.sl0_open
      cases o with
      | none => exact .slice0
      | some A => exact RepC.slice (els := []) (es := 0) (vs := []) (by simp) .nil ⟨fun h => absurd rfl h, fun j v hj => by simp at hj⟩ (by simp)
    case view k g =>
      split at he
      · rename_i es els hl
        cases he
        obtain ⟨_, rfl⟩ := hx.view_open
        have := row_closed h (lookRow_some hl) (ks := [k]) (by simp)
        exact this.1.mono (Grows.less fun _ hb => .inl hb)
      · cases he
  | succ n ih =>
    intro x v y hx he
    cases x <;> simp only [closeW] at he <;> (try (cases he; done))
    case bool => cases he; rw [hx.bool_open]; exact .bool _
    case int => cases he; rw [hx.int_open]; exact .int _ _
    case str => cases he; rw [hx.str_open]; exact .str _
    case slice => cases he; exact closed_ext (st := st) (β := β) hx.slice_open
    case nils => cases he; rw [hx.nils_open]; exact .nils
    case nilFunc => cases he; rw [hx.nilFunc_open]; exact .nilFunc
    case sl0 =>
      cases he
      obtain ⟨o, rfl⟩ := hx.sl0_open
      cases o with
      | none => exact .slice0
      | some A => exact RepC.slice (els := []) (es := 0) (vs := []) (by simp) .nil ⟨fun h => absurd rfl h, fun j v hj => by simp at hj⟩ (by simp)
    case view k g =>
      split at he
      · rename_i es els hl
        cases he
        obtain ⟨_, rfl⟩ := hx.view_open
        have := row_closed h (lookRow_some hl) (ks := [k]) (by simp)
        exact this.1.mono (Grows.less fun _ hb => .inl hb)
      · cases he
    case agg cs =>
      split at he
      · rename_i ys hys
        cases he
        obtain ⟨vs, rfl, hvs⟩ := hx.agg_open
        exact .agg (closeWL_sound (σ := st.σ) (fun x v y => ih x v y) hvs hys)
      · cases he
    case tuple cs =>
      split at he
      · rename_i ys hys
        cases he
        obtain ⟨vs, rfl, hvs⟩ := hx.tuple_open
        exact .tuple (closeWL_sound (σ := st.σ) (fun x v y => ih x v y) hvs hys)
      · cases he
    case sl k g es off len =>
      split at he
      · rename_i cs hl
        split at he
        · rename_i hfit
          split at he
          · rename_i ys hys
            cases he
            obtain ⟨cap, hokk, hcap, hroom, rfl⟩ := hx.sl_open
            obtain ⟨_, hreg⟩ := h.regs _ _ (lookBox_some hl)
            obtain ⟨hn, hn0, c, ty, vs, rest, hh, hcl, hrep, _⟩ := hreg
            have hsub := (hrep.drop off).take (len * es)
            have hcc := closeWL_sound (σ := st.σ) (fun x v y => ih x v y) hsub hys
            have hyl := closeWL_length hys
            rw [List.length_take, List.length_drop] at hyl
            obtain ⟨c1, c2, c3⟩ := chunkA_flat es len ys (by omega)
            have hat : At w ext ⟨(β k g).block, off, none⟩ ((vs.drop off).take (len * es)) := by
              refine ⟨fun _ => rfl, fun j v hj => ⟨fun hb => h.extlt _ hb hn0, ?_⟩⟩
              rw [List.getElem?_take] at hj
              split at hj
              · rw [List.getElem?_drop] at hj
                have := cells_at hh (off + j) v (prefix_at hcl hj)
                rw [Nat.zero_add] at this; exact this
              · cases hj
            have key := RepC.slice (w := w) (own := ext) (els := chunkA es len ys) (es := es) (cap := cap) (a := ⟨(β k g).block, off, none⟩) (vs := (vs.drop off).take (len * es)) c2 (by rw [c1]; exact hcc) hat (by rw [c3]; exact hcap)
            rw [c3] at key
            exact key
          · cases he
        · cases he
      · cases he
end
def closeF (σ : Sto) : Nat → AV → Option AV
  | _, .bool b => some (.bool b)
  | _, .int k n => some (.int k n)
  | _, .str s => some (.str s)
  | _, .nils => some .nils
  | _, .sl0 => some (.slice [])
  | _, .nilFunc => some .nilFunc
  | n + 1, .agg cs => match closeWL (closeF σ n) cs with | some ys => some (.agg ys) | none => none
  | n + 1, .tuple cs => match closeWL (closeF σ n) cs with | some ys => some (.tuple ys) | none => none
  | n + 1, .sl k g es off len => match lookBox σ k g with
    | some cs => if off + len * es ≤ cs.length then
        match closeWL (closeF σ n) ((cs.drop off).take (len * es)) with | some ys => some (.slice (chunkA es len ys)) | none => none
      else none
    | none => none
  | _, _ => none
section
variable {P : Program} {N : Nat → Prop} {ext : Nat → Prop} {β : Nat → Nat → Loc} {ok : Nat → Nat → Prop} {st : St} {a : Act} {w : World}
theorem closeF_sound (h : StRel N ext β ok st a w) {old : Nat → Prop} (hN : ∀ b, N b → ¬ old b) : ∀ (n : Nat) (x : AV) (v : Value) (y : AV), RepV w (ownOf ext β st.σ) β ok x v → closeF st.σ n x = some y → RepC w old y v := by
  intro n
  induction n with
  | zero =>
    intro x v y hx he
    cases x <;> simp only [closeF] at he <;> (try (cases he; done))
    case bool => cases he; rw [hx.bool_open]; exact .bool _
    case int => cases he; rw [hx.int_open]; exact .int _ _
    case str => cases he; rw [hx.str_open]; exact .str _
    case nils => cases he; rw [hx.nils_open]; exact .nils
    case nilFunc => cases he; rw [hx.nilFunc_open]; exact .nilFunc
    case sl0 =>
      cases he
      obtain ⟨o, rfl⟩ := hx.sl0_open
      cases o with
      | none => exact .slice0
      | some A => exact RepC.slice (els := []) (es := 0) (vs := []) (by simp) .nil ⟨fun h => absurd rfl h, fun j v hj => by simp at hj⟩ (by simp)
  | succ n ih =>
    intro x v y hx he
    cases x <;> simp only [closeF] at he <;> (try (cases he; done))
    case bool => cases he; rw [hx.bool_open]; exact .bool _
    case int => cases he; rw [hx.int_open]; exact .int _ _
    case str => cases he; rw [hx.str_open]; exact .str _
    case nils => cases he; rw [hx.nils_open]; exact .nils
    case nilFunc => cases he; rw [hx.nilFunc_open]; exact .nilFunc
    case sl0 =>
      cases he
      obtain ⟨o, rfl⟩ := hx.sl0_open
      cases o with
      | none => exact .slice0
      | some A => exact RepC.slice (els := []) (es := 0) (vs := []) (by simp) .nil ⟨fun h => absurd rfl h, fun j v hj => by simp at hj⟩ (by simp)
    case agg cs =>
      split at he
      · rename_i ys hys
        cases he
        obtain ⟨vs, rfl, hvs⟩ := hx.agg_open
        exact .agg (closeWL_sound (σ := st.σ) (fun x v y => ih x v y) hvs hys)
      · cases he
    case tuple cs =>
      split at he
      · rename_i ys hys
        cases he
        obtain ⟨vs, rfl, hvs⟩ := hx.tuple_open
        exact .tuple (closeWL_sound (σ := st.σ) (fun x v y => ih x v y) hvs hys)
      · cases he
    case sl k g es off len =>
      split at he
      · rename_i cs hl
        split at he
        · rename_i hfit
          split at he
          · rename_i ys hys
            cases he
            obtain ⟨cap, hokk, hcap, hroom, rfl⟩ := hx.sl_open
            obtain ⟨_, hreg⟩ := h.regs _ _ (lookBox_some hl)
            obtain ⟨hn, hn0, c, ty, vs, rest, hh, hcl, hrep, _⟩ := hreg
            have hsub := (hrep.drop off).take (len * es)
            have hcc := closeWL_sound (σ := st.σ) (fun x v y => ih x v y) hsub hys
            have hyl := closeWL_length hys
            rw [List.length_take, List.length_drop] at hyl
            obtain ⟨c1, c2, c3⟩ := chunkA_flat es len ys (by omega)
            have hat : At w old ⟨(β k g).block, off, none⟩ ((vs.drop off).take (len * es)) := by
              refine ⟨fun _ => rfl, fun j v hj => ⟨fun hb => hN _ hn0 hb, ?_⟩⟩
              rw [List.getElem?_take] at hj
              split at hj
              · rw [List.getElem?_drop] at hj
                have := cells_at hh (off + j) v (prefix_at hcl hj)
                rw [Nat.zero_add] at this; exact this
              · cases hj
            have key := RepC.slice (w := w) (own := old) (els := chunkA es len ys) (es := es) (cap := cap) (a := ⟨(β k g).block, off, none⟩) (vs := (vs.drop off).take (len * es)) c2 (by rw [c1]; exact hcc) hat (by rw [c3]; exact hcap)
            rw [c3] at key
            exact key
          · cases he
        · cases he
      · cases he
end
mutual
def eqW : AV → AV → Bool
  | .bool a, .bool b => a == b
  | .int k a, .int k' b => decide (k = k') && decide (a = b)
  | .str a, .str b => decide (a = b)
  | .agg xs, .agg ys => eqWL xs ys
  | .tuple xs, .tuple ys => eqWL xs ys
  | .nils, .nils => true
  | .slice xs, .slice ys => eqWLL xs ys
  | _, _ => false
def eqWL : List AV → List AV → Bool
  | [], [] => true
  | x :: xs, y :: ys => eqW x y && eqWL xs ys
  | _, _ => false
def eqWLL : List (List AV) → List (List AV) → Bool
  | [], [] => true
  | x :: xs, y :: ys => eqWL x y && eqWLL xs ys
  | _, _ => false
end
mutual
theorem eqW_eq : ∀ (x y : AV), eqW x y = true → x = y
  | .bool a, y, h => by
    cases y <;> (first | (simp only [eqW, beq_iff_eq] at h; rw [h]; done) | (simp only [eqW] at h; cases h; done))
  | .int k a, y, h => by
    cases y <;> (first | (simp only [eqW, Bool.and_eq_true, decide_eq_true_eq] at h; rw [h.1, h.2]; done) | (simp only [eqW] at h; cases h; done))
  | .str a, y, h => by
    cases y <;> (first | (simp only [eqW, decide_eq_true_eq] at h; rw [h]; done) | (simp only [eqW] at h; cases h; done))
  | .nils, y, h => by cases y <;> (first | rfl | (simp only [eqW] at h; cases h; done))
  | .agg xs, y, h => by
    cases y <;> (first | (simp only [eqW] at h; rw [eqWL_eq xs _ h]; done) | (simp only [eqW] at h; cases h; done))
  | .tuple xs, y, h => by
    cases y <;> (first | (simp only [eqW] at h; rw [eqWL_eq xs _ h]; done) | (simp only [eqW] at h; cases h; done))
  | .slice xs, y, h => by
    cases y <;> (first | (simp only [eqW] at h; rw [eqWLL_eq xs _ h]; done) | (simp only [eqW] at h; cases h; done))
  | .view _ _, y, h => by cases y <;> (simp only [eqW] at h; cases h)
  | .ptr _ _ _, y, h => by cases y <;> (simp only [eqW] at h; cases h)
  | .rptr _ _ _ _ _, y, h => by cases y <;> (simp only [eqW] at h; cases h)
  | .mref _ _, y, h => by cases y <;> (simp only [eqW] at h; cases h)
  | .sl _ _ _ _ _, y, h => by cases y <;> (simp only [eqW] at h; cases h)
  | .sl0, y, h => by cases y <;> (simp only [eqW] at h; cases h)
  | .nilFunc, y, h => by cases y <;> (simp only [eqW] at h; cases h)
  | .func _ _, y, h => by cases y <;> (simp only [eqW] at h; cases h)
  | .mfunc _ _, y, h => by cases y <;> (simp only [eqW] at h; cases h)
  | .cptr _, y, h => by cases y <;> (simp only [eqW] at h; cases h)
  | .lit _, y, h => by cases y <;> (simp only [eqW] at h; cases h)
  | .any, y, h => by cases y <;> (simp only [eqW] at h; cases h)
theorem eqWL_eq : ∀ (xs ys : List AV), eqWL xs ys = true → xs = ys
  | [], ys, h => by cases ys <;> first | rfl | (simp only [eqWL] at h; cases h)
  | x :: xs, ys, h => by
    cases ys with
    | nil => simp only [eqWL] at h; cases h
    | cons y ys =>
      simp only [eqWL, Bool.and_eq_true] at h
      rw [eqW_eq x y h.1, eqWL_eq xs ys h.2]
theorem eqWLL_eq : ∀ (xs ys : List (List AV)), eqWLL xs ys = true → xs = ys
  | [], ys, h => by cases ys <;> first | rfl | (simp only [eqWLL] at h; cases h)
  | x :: xs, ys, h => by
    cases ys with
    | nil => simp only [eqWLL] at h; cases h
    | cons y ys =>
      simp only [eqWLL, Bool.and_eq_true] at h
      rw [eqWL_eq x y h.1, eqWLL_eq xs ys h.2]
end
section
variable {P : Program}
theorem gcalls_known {f : FuncId} {γ : Nat} {args args' : List AV} {σ : Sto} {r : AV} (hcl : closeWL (closeW σ 9) args = some args') (hA : ACalls P f args' r) (hs : scalarB r = true) : GCalls P f γ [] args σ r σ := by
  refine ⟨hA.1, fun N ext β ok vs w hst hgen _ => ?_⟩
  have hcl' : RepCL w ext args' vs := closeWL_sound (σ := σ) (fun x v y => closeW_sound hst 9 x v y) (by simpa using hst.temps) hcl
  have hlt : ∀ b, ext b → b < w.heap.size := fun b h1 => Nat.lt_of_not_le fun hle => hst.extlt _ h1 (hst.n0le _ hle)
  refine (hA.2 w ext vs hlt (hst.glob.mono (Grows.less fun _ h => .inl h)) hcl').mono ?_
  rintro e w' ⟨v, rfl, hrv, hbel⟩
  have h2 := hst.below hbel
  exact ⟨v, β, ok, rfl, ⟨.cons (.closed (scalarB_rep hs hrv)) .nil, h2.regs, h2.dist, h2.extlt, h2.n0le, rfl, h2.glob⟩, fun t g hk => .inl hk, fun t g hk => ⟨hk, rfl⟩, .of_below hbel hst.n0le⟩
def knownW (tab : List (FuncId × List AV × AV)) : CallG := fun f _ _ args σ _ =>
  match tab.find? (fun p => p.1 == f) with
  | some _ => match closeWL (closeW σ 9) args with
    | some args' => match tab.find? (fun p => p.1 == f && eqWL args' p.2.1) with
      | some p => some (p.2.2, σ, [])
      | none => none
    | none => none
  | none => none
theorem knownW_sound {tab : List (FuncId × List AV × AV)} (h : ∀ p ∈ tab, ACalls P p.1 p.2.1 p.2.2 ∧ scalarB p.2.2 = true) : ∀ f γ ls args σ c r σ' κ, knownW tab f γ ls args σ c = some (r, σ', κ) → GCalls P f γ κ args σ r σ' := by
  intro f γ ls args σ c r σ' κ hk
  unfold knownW at hk
  split at hk
  · split at hk
    · rename_i args' ha
      split at hk
      · rename_i p hp
        simp only [Option.some.injEq, Prod.mk.injEq] at hk
        obtain ⟨rfl, rfl, rfl⟩ := hk
        have h1 := List.find?_some hp
        simp only [Bool.and_eq_true, beq_iff_eq] at h1
        obtain ⟨h2, h3⟩ := h p (List.mem_of_find?_eq_some hp)
        rw [eqWL_eq _ _ h1.2] at ha
        rw [h1.1] at h2
        exact gcalls_known ha h2 h3
      · cases hk
    · cases hk
  · cases hk
def knownC (tab : List (FuncId × List AV × AV)) : CallG := fun f _ _ args σ _ =>
  match tab.find? (fun p => p.1 == f && eqWL args p.2.1) with
  | some p => match closeL (closeV σ 4) p.2.1 with
    | some (args', []) => if eqWL args' p.2.1 then some (p.2.2, σ, []) else none
    | _ => none
  | none => none
theorem knownC_sound {tab : List (FuncId × List AV × AV)} (h : ∀ p ∈ tab, ACalls P p.1 p.2.1 p.2.2) : ∀ f γ ls args σ c r σ' κ, knownC tab f γ ls args σ c = some (r, σ', κ) → GCalls P f γ κ args σ r σ' := by
  intro f γ ls args σ c r σ' κ hk
  unfold knownC at hk
  split at hk
  · rename_i p hp
    split at hk
    · rename_i args' ha
      split at hk
      · rename_i he
        simp only [Option.some.injEq, Prod.mk.injEq] at hk
        obtain ⟨rfl, rfl, rfl⟩ := hk
        have h1 := List.find?_some hp
        simp only [Bool.and_eq_true, beq_iff_eq] at h1
        have h2 := h p (List.mem_of_find?_eq_some hp)
        rw [eqWL_eq _ _ he] at ha
        rw [← eqWL_eq _ _ h1.2] at h2 ha
        rw [h1.1] at h2
        exact gcalls_of_acalls ha h2
      · cases hk
    · cases hk
  · cases hk
def orG (x y : CallG) : CallG := fun f γ ls args σ c => match x f γ ls args σ c with | some r => some r | none => y f γ ls args σ c
theorem orG_sound {x y : CallG} (hx : ∀ f γ ls args σ c r σ' κ, x f γ ls args σ c = some (r, σ', κ) → GCalls P f γ κ args σ r σ') (hy : ∀ f γ ls args σ c r σ' κ, y f γ ls args σ c = some (r, σ', κ) → GCalls P f γ κ args σ r σ') :
    ∀ f γ ls args σ c r σ' κ, orG x y f γ ls args σ c = some (r, σ', κ) → GCalls P f γ κ args σ r σ' := by
  intro f γ ls args σ c r σ' κ hk
  unfold orG at hk
  split at hk
  · rename_i hq; cases hk; exact hx _ _ _ _ _ _ _ _ _ hq
  · exact hy _ _ _ _ _ _ _ _ _ hk
theorem acalls_gc {f : FuncId} {γ : Nat} {args : List AV} {r y : AV} {σ σ' : Sto} {κ : List Nat} (hσ : ∀ (t : Nat) (r' : Reg), σ[t]? ≠ some (some r')) (h : GCalls P f γ κ args σ r σ') (hy : closeW σ' 9 r = some y) : ACalls P f args y := by
  obtain ⟨h1, h2⟩ := h
  refine ⟨h1, fun w own vs hown hglob hargs => ?_⟩
  have hless : ∀ b, ownOf own (fun _ _ => default) σ b → own b := by
    rintro b (h3 | ⟨t, r', h3, _⟩)
    · exact h3
    · exact absurd h3 (hσ t r')
  have hs : StRel (fun b => w.heap.size ≤ b) own (fun _ _ => default) (fun _ _ => False) ⟨args, σ, γ⟩ { tmps := vs.toArray, defers := [] } w := by
    refine ⟨?_, fun t r' ht => absurd ht (hσ t r'), fun t t' r1 r2 h1 => absurd h1 (hσ t r1), fun b hb => Nat.not_le.mpr (hown b hb), fun _ h => h, rfl, hglob.mono (Grows.less hless)⟩
    simp only
    refine (hargs.mono (Grows.less ?_)).toV
    rintro b (h3 | ⟨t, r', h3, _⟩)
    · exact h3
    · exact absurd h3 (hσ t r')
  refine (h2 _ _ _ _ vs w hs (fun _ _ h => h.elim) (fun _ _ h => h.elim)).mono ?_
  rintro e w' ⟨v, β', ok', rfl, h3, _, _, h5⟩
  refine ⟨v, rfl, ?_, h5.below⟩
  have h6 := h3.temps
  cases h6 with
  | cons h7 _ => exact closeW_sound h3 9 r v y h7 hy
def NCalls (P : Program) (f : FuncId) (args : List AV) (r : AV) : Prop :=
  callable P f = true ∧ ∀ (w : World) (own : Nat → Prop) (vs : List Value), (∀ b, own b → b < w.heap.size) → GlobOk w own → RepCL w own args vs →
    Calls P f vs.toArray w fun e w' => ∃ v, e = .returned v ∧ RepC w' (fun b => b < w.heap.size) r v ∧ RowKit.Below w.heap.size w w'
theorem NCalls.acalls {f : FuncId} {args : List AV} {r : AV} (h : NCalls P f args r) : ACalls P f args r := by
  refine ⟨h.1, fun w own vs ho hg ha => (h.2 w own vs ho hg ha).mono ?_⟩
  rintro e w' ⟨v, rfl, hr, hB⟩
  exact ⟨v, rfl, hr.mono (Grows.less fun b hb => ho b hb), hB⟩
theorem gcalls_new {f : FuncId} {γ : Nat} {args args' : List AV} {σ : Sto} {r : AV} (hcl : closeWL (closeW σ 9) args = some args') (hA : NCalls P f args' r) : GCalls P f γ [] args σ r σ := by
  refine ⟨hA.1, fun N ext β ok vs w hst hgen _ => ?_⟩
  have hcl' : RepCL w ext args' vs := closeWL_sound (σ := σ) (fun x v y => closeW_sound hst 9 x v y) (by simpa using hst.temps) hcl
  have hlt : ∀ b, ext b → b < w.heap.size := fun b h1 => Nat.lt_of_not_le fun hle => hst.extlt _ h1 (hst.n0le _ hle)
  refine (hA.2 w ext vs hlt (hst.glob.mono (Grows.less fun _ h => .inl h)) hcl').mono ?_
  rintro e w' ⟨v, rfl, hrv, hbel⟩
  have h2 := hst.below hbel
  refine ⟨v, β, ok, rfl, ⟨.cons (.closed (hrv.mono (Grows.less ?_))) .nil, h2.regs, h2.dist, h2.extlt, h2.n0le, rfl, h2.glob⟩, fun t g hk => .inl hk, fun t g hk => ⟨hk, rfl⟩, .of_below hbel hst.n0le⟩
  rintro b (h3 | ⟨t, r', h3, h4⟩)
  · exact hlt b h3
  · exact (h4.2 ▸ reg_lt hst h3 h4.1)
def knownN (tab : List (FuncId × List AV × AV)) : CallG := fun f _ _ args σ _ =>
  match tab.find? (fun p => p.1 == f) with
  | some _ => match closeWL (closeW σ 9) args with
    | some args' => match tab.find? (fun p => p.1 == f && eqWL args' p.2.1) with
      | some p => some (p.2.2, σ, [])
      | none => none
    | none => none
  | none => none
theorem knownN_sound {tab : List (FuncId × List AV × AV)} (h : ∀ p ∈ tab, NCalls P p.1 p.2.1 p.2.2) : ∀ f γ ls args σ c r σ' κ, knownN tab f γ ls args σ c = some (r, σ', κ) → GCalls P f γ κ args σ r σ' := by
  intro f γ ls args σ c r σ' κ hk
  unfold knownN at hk
  split at hk
  · split at hk
    · rename_i args' ha
      split at hk
      · rename_i p hp
        simp only [Option.some.injEq, Prod.mk.injEq] at hk
        obtain ⟨rfl, rfl, rfl⟩ := hk
        have h1 := List.find?_some hp
        simp only [Bool.and_eq_true, beq_iff_eq] at h1
        have h2 := h p (List.mem_of_find?_eq_some hp)
        rw [eqWL_eq _ _ h1.2] at ha
        rw [h1.1] at h2
        exact gcalls_new ha h2
      · cases hk
    · cases hk
  · cases hk
theorem ncalls_gc {f : FuncId} {γ : Nat} {args : List AV} {r y : AV} {σ σ' : Sto} {κ : List Nat} (hσ : ∀ (t : Nat) (r' : Reg), σ[t]? ≠ some (some r')) (h : GCalls P f γ κ args σ r σ') (hy : closeF σ' 9 r = some y) : NCalls P f args y := by
  obtain ⟨h1, h2⟩ := h
  refine ⟨h1, fun w own vs hown hglob hargs => ?_⟩
  have hless : ∀ b, ownOf own (fun _ _ => default) σ b → own b := by
    rintro b (h3 | ⟨t, r', h3, _⟩)
    · exact h3
    · exact absurd h3 (hσ t r')
  have hs : StRel (fun b => w.heap.size ≤ b) own (fun _ _ => default) (fun _ _ => False) ⟨args, σ, γ⟩ { tmps := vs.toArray, defers := [] } w := by
    refine ⟨?_, fun t r' ht => absurd ht (hσ t r'), fun t t' r1 r2 h1 => absurd h1 (hσ t r1), fun b hb => Nat.not_le.mpr (hown b hb), fun _ h => h, rfl, hglob.mono (Grows.less hless)⟩
    simp only
    refine (hargs.mono (Grows.less ?_)).toV
    rintro b (h3 | ⟨t, r', h3, _⟩)
    · exact h3
    · exact absurd h3 (hσ t r')
  refine (h2 _ _ _ _ vs w hs (fun _ _ h => h.elim) (fun _ _ h => h.elim)).mono ?_
  rintro e w' ⟨v, β', ok', rfl, h3, _, _, h5⟩
  refine ⟨v, rfl, ?_, h5.below⟩
  have h6 := h3.temps
  cases h6 with
  | cons h7 _ => exact closeF_sound h3 (fun b hb => Nat.not_lt.2 hb) 9 r v y h7 hy
def evalN (P : Program) (eqs : TypeId → List AV → List AV → Bool) (L fuel : Nat) (known : CallG) (n : Nat) (f : FuncId) (args : List AV) (c : Nat) : Option AV :=
  match runG P eqs L fuel known n f 0 [] args (List.replicate L none) c with
  | some (r, σ', _) => closeF σ' 9 r
  | none => none
theorem evalN_sound (hm : P.follows .mixedOrders = true) {eqs : TypeId → List AV → List AV → Bool} {L fuel : Nat} (heq : ∀ t xs ys r, eqs t xs ys = true → eqAll xs ys = some r → EqT P t xs ys r) {known : CallG} (hk : ∀ f γ ls args σ c r σ' κ, known f γ ls args σ c = some (r, σ', κ) → GCalls P f γ κ args σ r σ')
    {n : Nat} {f : FuncId} {args : List AV} {c : Nat} {y : AV} (h : evalN P eqs L fuel known n f args c = some y) : NCalls P f args y := by
  unfold evalN at h
  split at h
  · rename_i r σ' κ hr
    refine ncalls_gc (σ := List.replicate L none) ?_ (runG_sound hm heq fuel hk n f 0 [] args _ c r σ' κ hr) h
    intro t r' ht
    rw [List.getElem?_replicate] at ht
    split at ht
    · cases ht
    · cases ht
  · cases h
def evalW (P : Program) (eqs : TypeId → List AV → List AV → Bool) (L fuel : Nat) (known : CallG) (n : Nat) (f : FuncId) (args : List AV) (c : Nat) : Option AV :=
  match runG P eqs L fuel known n f 0 [] args (List.replicate L none) c with
  | some (r, σ', _) => closeW σ' 9 r
  | none => none
theorem evalW_sound (hm : P.follows .mixedOrders = true) {eqs : TypeId → List AV → List AV → Bool} {L fuel : Nat} (heq : ∀ t xs ys r, eqs t xs ys = true → eqAll xs ys = some r → EqT P t xs ys r) {known : CallG} (hk : ∀ f γ ls args σ c r σ' κ, known f γ ls args σ c = some (r, σ', κ) → GCalls P f γ κ args σ r σ')
    {n : Nat} {f : FuncId} {args : List AV} {c : Nat} {y : AV} (h : evalW P eqs L fuel known n f args c = some y) : ACalls P f args y := by
  unfold evalW at h
  split at h
  · rename_i r σ' κ hr
    refine acalls_gc (σ := List.replicate L none) ?_ (runG_sound hm heq fuel hk n f 0 [] args _ c r σ' κ hr) h
    intro t r' ht
    rw [List.getElem?_replicate] at ht
    split at ht
    · cases ht
    · cases ht
  · cases h
end
end Go.Ab
end

section
set_option linter.unusedSimpArgs false
set_option linter.unusedVariables false
namespace Go.Ab
open Go.RowKit
def leafK : AV → Nat
  | .int _ _ => 1
  | .bool _ => 2
  | .str _ => 3
  | _ => 0
def descK (P : Program) (t : TypeId) : Nat :=
  match P.underlying t with
  | some (.int _) => 1
  | some .bool => 2
  | some .string => 3
  | _ => 0
def flatB (P : Program) : Nat → List Field → List Nat → Bool
  | _, [], [] => true
  | i, f :: fs, k :: ks => decide (f.offset = i) && (decide (f.name ≠ "_") && (P.plainKey f.type && (decide (descK P f.type = k) && (decide (k ≠ 0) && flatB P (i + 1) fs ks))))
  | _, _, _ => false
def structB (P : Program) (t : TypeId) : Bool := (match P.underlying t with | some (.struct _) => true | _ => false) && (!P.stoodInHeld t && !P.eqGuardType P.depth t)
def tabB (P : Program) (tab : List (TypeId × List Nat)) : Bool := tab.all fun p => structB P p.1 && (flatB P 0 (P.fieldsOf p.1).toList p.2 && decide (p.2 ≠ []))
def eqsL (tab : List (TypeId × List Nat)) (t : TypeId) (xs ys : List AV) : Bool := tab.any fun p => p.1 == t && (decide (xs.map leafK = p.2) && decide (ys.map leafK = p.2))
theorem struct_fields {P : Program} {t : TypeId} (h : (match P.underlying t with | some (.struct _) => true | _ => false) = true) : P.underlying t = some (.struct (P.fieldsOf t)) := by
  unfold Program.fieldsOf
  split at h
  · rename_i fs hu; rw [hu]
  · cases h
theorem leaf_equal {P : Program} {w : World} {own own' : Nat → Prop} {x y : AV} {u v : Value} {t : TypeId} {k : Nat} (d : Nat) (hx : RepC w own x u) (hy : RepC w own' y v) (kx : leafK x = k) (ky : leafK y = k) (ht : descK P t = k) (h0 : k ≠ 0) {r : Bool} (hr : leafEq x y = some r) :
    (Op.equalIn (d + 1) t u v).run P w = .ok r w := by
  unfold descK at ht
  split at ht
  · rename_i ik hu
    subst ht
    cases x <;> simp [leafK] at kx
    cases y <;> simp [leafK] at ky
    cases hx; cases hy
    rename_i k1 n1 k2 n2
    simp only [leafEq] at hr
    split at hr
    · rename_i e
      subst e
      cases hr
      rw [run_equalIn_int w d t k1 ik n1 n2 hu]
      by_cases e : n1 = n2 <;> simp [e]
    · cases hr
  · rename_i hu
    subst ht
    cases x <;> simp [leafK] at kx
    cases y <;> simp [leafK] at ky
    cases hx; cases hy
    cases hr
    exact run_equalIn_bool' w d t _ _ hu
  · rename_i hu
    subst ht
    cases x <;> simp [leafK] at kx
    cases y <;> simp [leafK] at ky
    cases hx; cases hy
    cases hr
    rw [run_equalIn_string w d t _ _ hu, str_eq]
  · exact absurd ht.symm h0
theorem eqAll_cons {x y : AV} {xs ys : List AV} {r : Bool} (h : eqAll (x :: xs) (y :: ys) = some r) : ∃ a b, leafEq x y = some a ∧ eqAll xs ys = some b ∧ r = (a && b) := by
  cases xs with
  | nil =>
    cases ys with
    | nil => exact ⟨r, true, h, rfl, by simp⟩
    | cons z zs =>
      simp only [eqAll] at h
      split at h
      · rename_i hb; cases hb
      · cases h
  | cons u us =>
    cases ys with
    | nil =>
      simp only [eqAll] at h
      split at h
      · rename_i hb; cases hb
      · cases h
    | cons z zs =>
      simp only [eqAll] at h
      split at h
      · rename_i a b ha hb
        cases h
        exact ⟨a, b, ha, hb, rfl⟩
      · cases h
theorem flat_fields {P : Program} {w : World} {own own' : Nat → Prop} (d : Nat) {vs us : List Value} : ∀ (fs : List Field) (ks : List Nat) (i : Nat) (xs ys : List AV) (r : Bool), flatB P i fs ks = true → xs.map leafK = ks → ys.map leafK = ks → RepCL w own xs (vs.drop i) → RepCL w own' ys (us.drop i) → eqAll xs ys = some r →
    (Op.eqFields (d + 1) vs.toArray us.toArray fs).run P w = .ok r w
  | [], [], i, xs, ys, r, _, hx, hy, _, _, he => by
    have h1 : xs = [] := List.map_eq_nil_iff.1 hx
    have h2 : ys = [] := List.map_eq_nil_iff.1 hy
    subst h1; subst h2
    cases he
    rfl
  | [], k :: ks, i, _, _, _, h, _, _, _, _, _ => by simp [flatB] at h
  | f :: fs, [], i, _, _, _, h, _, _, _, _, _ => by simp [flatB] at h
  | f :: fs, k :: ks, i, xs, ys, r, h, hx, hy, rx, ry, he => by
    simp only [flatB, Bool.and_eq_true, decide_eq_true_eq] at h
    obtain ⟨h1, h2, h3, h4, h5, h6⟩ := h
    cases xs with
    | nil => simp at hx
    | cons x xs =>
      cases ys with
      | nil => simp at hy
      | cons y ys =>
        simp only [List.map_cons, List.cons.injEq] at hx hy
        obtain ⟨a, b, ha, hb, rfl⟩ := eqAll_cons he
        generalize hv : vs.drop i = vd at rx
        generalize hu : us.drop i = ud at ry
        cases rx with
        | @cons _ v _ vr rv rvs =>
          cases ry with
          | @cons _ u _ ur ru rus =>
            have ev : vs[i]? = some v := by
              have : (vs.drop i)[0]? = some v := by rw [hv]; rfl
              rw [List.getElem?_drop] at this
              simpa using this
            have eu : us[i]? = some u := by
              have : (us.drop i)[0]? = some u := by rw [hu]; rfl
              rw [List.getElem?_drop] at this
              simpa using this
            have dv : vs.drop (i + 1) = vr := by
              rw [show i + 1 = i + 1 from rfl, ← List.drop_drop, hv]; rfl
            have du : us.drop (i + 1) = ur := by
              rw [← List.drop_drop, hu]; rfl
            have p1 : (part f.type vs.toArray f.offset).run P w = .ok v w := run_part_plain w h3 (by rw [h1]; simpa using ev)
            have p2 : (part f.type us.toArray f.offset).run P w = .ok u w := run_part_plain w h3 (by rw [h1]; simpa using eu)
            have e1 := leaf_equal (P := P) (w := w) d rv ru hx.1 hy.1 h4 h5 ha
            have ih := flat_fields d fs ks (i + 1) xs ys b h6 hx.2 hy.2 (by rw [dv]; exact rvs) (by rw [du]; exact rus) hb
            simp only [Op.eqFields, if_pos h2, Sem.run_bind, p1, p2, e1, Result.andThen_ok, Sem.run_ite, ih]
            cases a <;> simp
theorem eqsL_sound {P : Program} {tab : List (TypeId × List Nat)} (ht : tabB P tab = true) : ∀ t xs ys r, eqsL tab t xs ys = true → eqAll xs ys = some r → EqT P t xs ys r := by
  intro t xs ys r h he w own vs us hv hu
  unfold eqsL at h
  obtain ⟨p, hp, h1⟩ := List.any_eq_true.1 h
  simp only [Bool.and_eq_true, beq_iff_eq, decide_eq_true_eq] at h1
  obtain ⟨rfl, hx, hy⟩ := h1
  have hb := List.all_eq_true.1 ht p hp
  simp only [structB, Bool.and_eq_true, Bool.not_eq_true', decide_eq_true_eq] at hb
  obtain ⟨⟨h2, h3, h4⟩, h5, h6⟩ := hb
  have hf := struct_fields h2
  refine ⟨fun x y => run_eqGuard_agg w _ _ _ _ _ _ h4, fun x y => run_eqGuard_agg w _ _ _ _ _ _ h4, ?_⟩
  show (Op.equalIn 10000 _ _ _).run P w = _
  rw [run_equalIn_agg w 9999 _ _ _ hf h3]
  exact flat_fields 9998 _ _ 0 xs ys r h5 hx hy (by simpa using hv) (by simpa using hu) he
end Go.Ab
end
