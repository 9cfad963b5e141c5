/- A law's arguments by their types: domains. -/
import Derived.Test.YtoggbjfjmbjegaaGreatDoorCG
import Derived.Test.YtoggbjfjmbjegaaGreatDoorFA
set_option linter.unusedSimpArgs false
set_option linter.unusedVariables false
namespace Go.Proofs.YtoggbjfjmbjegaaGreatDoor
open Go Go.Ab
@[reducible] def ttV : TT := .fields [.int .u8, .int .i64, .str]
@[reducible] def ttO : TT := .fields [ttV, .int .i64]

def Val.In (v : Val) : Prop := 0 ≤ v.kind ∧ InI v.int ∧ v.text.size ≤ reachBytes
def Outv.In (o : Outv) : Prop := o.v.In ∧ InI o.err
section
variable {H : Type}
theorem ty_u8 (d : DataW H) (e : List AV) (h : Ty (.int .u8) d e) : ∃ a : Int, e = kd a ∧ 0 ≤ a := by
  cases h with
  | int hw =>
    rename_i n
    refine ⟨n, rfl, ?_⟩
    simp only [Lit.wf, Bool.and_eq_true, decide_eq_true_eq] at hw
    have h := hw.1
    rw [show IntKind.u8.min = 0 from rfl] at h
    exact h
theorem ty_i64 (d : DataW H) (e : List AV) (h : Ty (.int .i64) d e) : ∃ a : Int, e = [.int .i64 a] ∧ InI a := by
  cases h with
  | int hw =>
    rename_i n
    refine ⟨n, rfl, ?_⟩
    simp only [Lit.wf, Bool.and_eq_true, decide_eq_true_eq] at hw
    obtain ⟨h1, h2⟩ := hw
    rw [show IntKind.i64.min = -9223372036854775808 from rfl] at h1
    rw [show IntKind.i64.max = 9223372036854775807 from rfl] at h2
    exact ⟨h1, h2⟩
theorem ty_str (d : DataW H) (e : List AV) (h : Ty .str d e) : ∃ a : ByteArray, e = [.str a] ∧ a.size ≤ reachBytes := by
  cases h with
  | str hw => exact ⟨_, rfl, hw⟩
theorem ty_cons {t : TT} {ts : List TT} {d : DataW H} {e : List AV} (h : Ty (.fields (t :: ts)) d e) : ∃ (d1 : DataW H) (ds : List (DataW H)) (xs ys : List AV), e = xs ++ ys ∧ Ty t d1 xs ∧ Ty (.fields ts) (.agg ds) ys := by
  cases h with
  | fcons h1 h2 => exact ⟨_, _, _, _, rfl, h1, h2⟩
theorem ty_nil {d : DataW H} {e : List AV} (h : Ty (.fields []) d e) : e = [] := by
  cases h with
  | fnil => rfl
theorem ty_val (d : DataW H) (e : List AV) (h : Ty ttV d e) : ∃ v : Val, e = v.enc ∧ v.In := by
  obtain ⟨d1, ds1, x1, y1, rfl, h1, h2⟩ := ty_cons h
  obtain ⟨d2, ds2, x2, y2, rfl, h3, h4⟩ := ty_cons h2
  obtain ⟨d3, ds3, x3, y3, rfl, h5, h6⟩ := ty_cons h4
  obtain rfl := ty_nil h6
  obtain ⟨k, rfl, hk⟩ := ty_u8 _ _ h1
  obtain ⟨n, rfl, hn⟩ := ty_i64 _ _ h3
  obtain ⟨s, rfl, hs⟩ := ty_str _ _ h5
  exact ⟨⟨k, n, s⟩, rfl, hk, hn, hs⟩
theorem ty_out (d : DataW H) (e : List AV) (h : Ty ttO d e) : ∃ o : Outv, e = o.enc ∧ o.In := by
  obtain ⟨d1, ds1, x1, y1, rfl, h1, h2⟩ := ty_cons h
  obtain ⟨d2, ds2, x2, y2, rfl, h3, h4⟩ := ty_cons h2
  obtain rfl := ty_nil h4
  obtain ⟨v, rfl, hv⟩ := ty_val _ _ h1
  obtain ⟨n, rfl, hn⟩ := ty_i64 _ _ h3
  exact ⟨⟨v, n⟩, rfl, hv, hn⟩
@[reducible] def ttD : TT := .fields [.int .u8, .bool, .bool, .bool, .int .i64, .int .i64]
theorem ty_bool (d : DataW H) (e : List AV) (h : Ty .bool d e) : ∃ b : Bool, e = [.bool b] := by
  cases h with
  | bool => exact ⟨_, rfl⟩
theorem ty_dom (d : DataW H) (e : List AV) (h : Ty ttD d e) : ∃ x : Dom, e = x.enc ∧ x.In := by
  obtain ⟨d1, ds1, x1, y1, rfl, h1, h2⟩ := ty_cons h
  obtain ⟨d2, ds2, x2, y2, rfl, h3, h4⟩ := ty_cons h2
  obtain ⟨d3, ds3, x3, y3, rfl, h5, h6⟩ := ty_cons h4
  obtain ⟨d4, ds4, x4, y4, rfl, h7, h8⟩ := ty_cons h6
  obtain ⟨d5, ds5, x5, y5, rfl, h9, h10⟩ := ty_cons h8
  obtain ⟨d6, ds6, x6, y6, rfl, h11, h12⟩ := ty_cons h10
  obtain rfl := ty_nil h12
  obtain ⟨k, rfl, hk⟩ := ty_u8 _ _ h1
  obtain ⟨n, rfl⟩ := ty_bool _ _ h3
  obtain ⟨f, rfl⟩ := ty_bool _ _ h5
  obtain ⟨s, rfl⟩ := ty_bool _ _ h7
  obtain ⟨lo, rfl, hlo⟩ := ty_i64 _ _ h9
  obtain ⟨hi, rfl, hhi⟩ := ty_i64 _ _ h11
  exact ⟨⟨k, n, f, s, lo, hi⟩, rfl, hk, hlo, hhi⟩
theorem reach_lt : reachBytes < 2 ^ 47 := by decide
end
end Go.Proofs.YtoggbjfjmbjegaaGreatDoor
