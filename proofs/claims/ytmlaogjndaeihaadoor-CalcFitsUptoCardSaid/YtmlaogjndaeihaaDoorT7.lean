/- Values and outs: comparing them whole. -/
import Derived.Test.YtmlaogjndaeihaaDoorT6
import Derived.ChangeKeysEq
namespace Go.Proofs.YtmlaogjndaeihaaDoor
open Go Go.Ab
def vEq (a b : Val) : Bool := decide (a.kind = b.kind) && (decide (a.int = b.int) && decide (a.text = b.text))
def oEq (a b : Outv) : Bool := decide (a.v.kind = b.v.kind) && (decide (a.v.int = b.v.int) && (decide (a.v.text = b.v.text) && decide (a.err = b.err)))
theorem fields33 : ∃ f1 f2 f3, (Tryd.prog.fieldsOf 33).toList = [f1, f2, f3] ∧ f1.type = 24 ∧ f1.offset = 0 ∧ f1.name ≠ "_" ∧ f2.type = 2 ∧ f2.offset = 1 ∧ f2.name ≠ "_" ∧ f3.type = 9 ∧ f3.offset = 2 ∧ f3.name ≠ "_" :=
  ⟨(Tryd.prog.fieldsOf 33).toList[0]!, (Tryd.prog.fieldsOf 33).toList[1]!, (Tryd.prog.fieldsOf 33).toList[2]!, by kernel_rfl, by kernel_rfl, by kernel_rfl, of_decide_eq_true (by kernel_rfl), by kernel_rfl, by kernel_rfl, of_decide_eq_true (by kernel_rfl), by kernel_rfl, by kernel_rfl, of_decide_eq_true (by kernel_rfl)⟩
theorem fields35 : ∃ f1 f2, (Tryd.prog.fieldsOf 35).toList = [f1, f2] ∧ f1.type = 33 ∧ f1.offset = 0 ∧ f1.name ≠ "_" ∧ f2.type = 25 ∧ f2.offset = 3 ∧ f2.name ≠ "_" :=
  ⟨(Tryd.prog.fieldsOf 35).toList[0]!, (Tryd.prog.fieldsOf 35).toList[1]!, by kernel_rfl, by kernel_rfl, by kernel_rfl, of_decide_eq_true (by kernel_rfl), by kernel_rfl, by kernel_rfl, of_decide_eq_true (by kernel_rfl)⟩
theorem toList_beq (a b : ByteArray) : (a.toList == b.toList) = decide (a = b) := by
  rw [Bool.eq_iff_iff]
  simp only [beq_iff_eq, decide_eq_true_eq]
  rw [ByteArray.toList_eq, ByteArray.toList_eq]
  constructor
  · intro h
    obtain ⟨⟨x⟩⟩ := a
    obtain ⟨⟨y⟩⟩ := b
    simpa using h
  · rintro rfl; rfl
theorem eqIn33 (w : World) (d : Nat) (k k' n n' : Int) (s s' : ByteArray) : (Op.equalIn (d + 2) 33 (.agg #[.int .u8 k, .int .i64 n, .string s]) (.agg #[.int .u8 k', .int .i64 n', .string s'])).run Tryd.prog w = .ok (decide (k = k') && (decide (n = n') && decide (s = s'))) w := by
  obtain ⟨f1, f2, f3, hf, t1, o1, n1, t2, o2, n2, t3, o3, n3⟩ := fields33
  rw [run_equalIn_agg w (d + 1) _ _ _ (by kernel_rfl) (by kernel_rfl), hf]
  have p1 : ∀ x y z : Value, (part f1.type #[x, y, z] f1.offset).run Tryd.prog w = .ok x w := fun x y z => by rw [t1, o1]; exact run_part_plain w (by kernel_rfl) rfl
  have p2 : ∀ x y z : Value, (part f2.type #[x, y, z] f2.offset).run Tryd.prog w = .ok y w := fun x y z => by rw [t2, o2]; exact run_part_plain w (by kernel_rfl) rfl
  have p3 : ∀ x y z : Value, (part f3.type #[x, y, z] f3.offset).run Tryd.prog w = .ok z w := fun x y z => by rw [t3, o3]; exact run_part_plain w (by kernel_rfl) rfl
  have e1 : ∀ a b, (Op.equalIn (d + 1) f1.type (.int .u8 a) (.int .u8 b)).run Tryd.prog w = .ok (a == b) w := fun a b => by rw [t1]; exact run_equalIn_int w d _ .u8 .u8 a b (by kernel_rfl)
  have e2 : ∀ a b, (Op.equalIn (d + 1) f2.type (.int .i64 a) (.int .i64 b)).run Tryd.prog w = .ok (a == b) w := fun a b => by rw [t2]; exact run_equalIn_int w d _ .i64 .i64 a b (by kernel_rfl)
  have e3 : ∀ a b, (Op.equalIn (d + 1) f3.type (.string a) (.string b)).run Tryd.prog w = .ok (a.toList == b.toList) w := fun a b => by rw [t3]; exact run_equalIn_string w d _ a b (by kernel_rfl)
  simp only [Op.eqFields, if_pos n1, if_pos n2, if_pos n3, Sem.run_bind, p1, p2, p3, e1, e2, e3, Result.andThen_ok, Sem.run_ite, toList_beq]
  by_cases h1 : k = k' <;> by_cases h2 : n = n' <;> by_cases h3 : s = s' <;> simp [h1, h2, h3]
theorem eqT_of {P : Program} {t : TypeId} {xs ys : List AV} {r r' : Bool} (h : EqT P t xs ys r) (e : r = r') : EqT P t xs ys r' := e ▸ h
theorem eq33 (k k' n n' : Int) (s s' : ByteArray) : EqT Tryd.prog 33 [.int .u8 k, .int .i64 n, .str s] [.int .u8 k', .int .i64 n', .str s'] (decide (k = k') && (decide (n = n') && decide (s = s'))) := by
  intro w own vs us h1 h2
  obtain _ | ⟨a1, h1⟩ := h1; obtain _ | ⟨a2, h1⟩ := h1; obtain _ | ⟨a3, h1⟩ := h1; obtain _ | _ := h1
  obtain _ | ⟨b1, h2⟩ := h2; obtain _ | ⟨b2, h2⟩ := h2; obtain _ | ⟨b3, h2⟩ := h2; obtain _ | _ := h2
  cases a1; cases a2; cases a3; cases b1; cases b2; cases b3
  refine ⟨fun x y => run_eqGuard_agg w _ _ _ _ _ _ (by kernel_rfl), fun x y => run_eqGuard_agg w _ _ _ _ _ _ (by kernel_rfl), ?_⟩
  exact eqIn33 w 9998 k k' n n' s s'
theorem eq35 (k k' n n' e e' : Int) (s s' : ByteArray) : EqT Tryd.prog 35 [.int .u8 k, .int .i64 n, .str s, .int .i64 e] [.int .u8 k', .int .i64 n', .str s', .int .i64 e'] (decide (k = k') && (decide (n = n') && (decide (s = s') && decide (e = e')))) := by
  intro w own vs us h1 h2
  obtain _ | ⟨a1, h1⟩ := h1; obtain _ | ⟨a2, h1⟩ := h1; obtain _ | ⟨a3, h1⟩ := h1; obtain _ | ⟨a4, h1⟩ := h1; obtain _ | _ := h1
  obtain _ | ⟨b1, h2⟩ := h2; obtain _ | ⟨b2, h2⟩ := h2; obtain _ | ⟨b3, h2⟩ := h2; obtain _ | ⟨b4, h2⟩ := h2; obtain _ | _ := h2
  cases a1; cases a2; cases a3; cases a4; cases b1; cases b2; cases b3; cases b4
  refine ⟨fun x y => run_eqGuard_agg w _ _ _ _ _ _ (by kernel_rfl), fun x y => run_eqGuard_agg w _ _ _ _ _ _ (by kernel_rfl), ?_⟩
  show (Op.equalIn 10000 _ _ _).run Tryd.prog w = _
  obtain ⟨f1, f2, hf, t1, o1, n1, t2, o2, n2⟩ := fields35
  rw [run_equalIn_agg w 9999 _ _ _ (by kernel_rfl) (by kernel_rfl), hf]
  have hu : ∃ d, Tryd.prog.underlying 33 = some d ∧ aggD d = true := by
    obtain ⟨d, h3, h4⟩ := ti_und (P := Tryd.prog) (t := 33) (by rw [ti33]; simp)
    exact ⟨d, h3, by rw [← h4, ti33]⟩
  obtain ⟨d, hu, hag⟩ := hu
  obtain ⟨i, hi, hsz, _⟩ := ti_info (P := Tryd.prog) (t := 33) (by rw [ti33]; simp)
  rw [ti33] at hsz
  have p1 : ∀ x y z u : Value, (part f1.type #[x, y, z, u] f1.offset).run Tryd.prog w = .ok (.agg #[x, y, z]) w := fun x y z u => by
    rw [t1, o1]
    simp only [part, Sem.run_bind, run_isAgg hu, hag, Result.andThen_ok, if_true, Go.Ab.run_sizeOf hi, hsz]
    rfl
  have p2 : ∀ x y z u : Value, (part f2.type #[x, y, z, u] f2.offset).run Tryd.prog w = .ok u w := fun x y z u => by rw [t2, o2]; exact run_part_plain w (by kernel_rfl) rfl
  have e2 : ∀ a b, (Op.equalIn 9999 f2.type (.int .i64 a) (.int .i64 b)).run Tryd.prog w = .ok (a == b) w := fun a b => by rw [t2]; exact run_equalIn_int w 9998 _ .i64 .i64 a b (by kernel_rfl)
  have e1 := eqIn33 w 9997 k k' n n' s s'
  rw [← t1] at e1
  simp only [Op.eqFields, if_pos n1, if_pos n2, Sem.run_bind, p1, p2, e1, e2, Result.andThen_ok, Sem.run_ite]
  by_cases h1 : k = k' <;> by_cases h2 : n = n' <;> by_cases h3 : s = s' <;> by_cases h4 : e = e' <;> simp [h1, h2, h3, h4]
end Go.Proofs.YtmlaogjndaeihaaDoor
