/- PropsLies: what its call answers. -/
import Derived.Test.YtleadljchhkiiaaGreatDoorCG1
import Derived.Test.YtleadljchhkiiaaGreatDoorQ1
set_option linter.unusedSimpArgs false
set_option linter.unusedVariables false
namespace Go.Proofs.YtleadljchhkiiaaGreatDoor
open Go Go.Ab
set_option maxRecDepth 100000 in
theorem propsLies_returns (os : Os) (started : os.Started) (H : Type) (enc : TypeId × Value → H) (F : Stop.Interp) :
    ReturnsInHanded {} Tryz.checked os 4 .any (Rows.propsLiesRow.pre enc Tryz.prog Tryz.f4 (OpenSpec.ofChange Rows.propsLiesSpec)) (((OpenSpec.ofChange Rows.propsLiesSpec).at F).post enc Tryz.prog Tryz.f4 false true false false) := by
  refine law_returns (C := Tryz.checked) (fn := Tryz.f4) (s := (OpenSpec.ofChange Rows.propsLiesSpec)) (c := Rows.propsLiesRow) (F := F) (tb := 4) (K := fun W ds gs => GlobOk W (fun _ => False) ∧ True ∧ (DataW.weightsEach Tryz.prog (Tryz.f4.params.toList ++ (OpenSpec.ofChange Rows.propsLiesSpec).bare.plain.varTypes Tryz.prog) (ds ++ gs)).all (· ≤ reachBytes) = true) (fun w args h => all_pre rfl rfl rfl h) (fun w tape i ds gs h => ⟨glob_call h.1, h.2⟩) seatOwn started (by kernel_rfl) Tryz.func4 seatLaidOut (by kernel_rfl) (by kernel_rfl) (by kernel_rfl) rfl ?_ ?_
  · exact law_witness (P := Tryz.prog) rfl rfl rfl #[.agg #[.int .u8 0, .int .i64 0, .string ⟨#[]⟩, .int .i64 0], .agg #[.int .u8 0, .bool false, .bool false, .bool false, .int .i64 0, .int .i64 0]] 8 (y := ([.agg [.agg [.lit (.int .u8 0), .lit (.int .i64 0), .lit (.string [])], .lit (.int .i64 0)], .agg [.lit (.int .u8 0), .lit (.bool false), .lit (.bool false), .lit (.bool false), .lit (.int .i64 0), .lit (.int .i64 0)]], [], [])) (World.shaped_of_ZipB (by kernel_rfl) (by kernel_rfl)) (by kernel_rfl) (by kernel_rfl) (fun k hk => by cases hk) (by kernel_rfl)
      (by rw [MakeChecks.laidMetH_plain _ _ _ (by kernel_rfl)]; exact laidMet_laidAll _ (by kernel_rfl) (by kernel_rfl))
  · intro W base args ds gs before hval0 hW hK
    have hval : ∀ (j : Nat) t v, Tryz.f4.params[j]? = some t → args[j]? = some v → Value.okWide Tryz.prog W .any base t v := hval0
    obtain ⟨p, q, hA0, hV, rfl, _, _⟩ := hW
    have hA : DataW.TrodAll enc Tryz.prog W 0 (fun _ => true) true Tryz.f4.params.toList args.toList ds p := hA0
    rw [Tryz.params4] at hA hval
    have hw := hK.2.2
    rw [Tryz.params4] at hw
    obtain ⟨v0, v1, d0, d1, p0, p1, rfl, rfl, rfl, h0, h1⟩ := ChangeShapes.trodAll_two hA
    obtain ⟨rfl, rfl⟩ := ChangeShapes.trodVars_none hV
    obtain ⟨w0, w1⟩ := weights_two hw
    obtain ⟨xs0, ty0, r0⟩ := open_arg (n := 9) (T := ttO) (by kernel_rfl) (hval 0 42 v0 rfl rfl) h0 w0
    obtain ⟨xs1, ty1, r1⟩ := open_arg (n := 9) (T := ttD) (by kernel_rfl) (hval 1 33 v1 rfl rfl) h1 w1
    obtain ⟨x, rfl, hx⟩ := ty_out _ _ ty0
    obtain ⟨y, rfl, hy⟩ := ty_dom _ _ ty1
    exact ⟨rfl, calls_of_acalls (law_lies x y hx.1.2.1 hy.1) hK.1 (.cons r0 (.cons r1 .nil))⟩
end Go.Proofs.YtleadljchhkiiaaGreatDoor

