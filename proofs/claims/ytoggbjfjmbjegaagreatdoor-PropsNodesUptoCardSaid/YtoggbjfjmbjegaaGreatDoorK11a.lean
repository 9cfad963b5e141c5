/- PropsNodes: what its call answers. -/
import Derived.Test.YtoggbjfjmbjegaaGreatDoorCG1
import Derived.Test.YtoggbjfjmbjegaaGreatDoorHE
set_option linter.unusedSimpArgs false
set_option linter.unusedVariables false
namespace Go.Proofs.YtoggbjfjmbjegaaGreatDoor
open Go Go.Ab
set_option maxRecDepth 100000 in
theorem propsNodesUpto_returns (os : Os) (started : os.Started) (H : Type) (enc : TypeId × Value → H) (F : Stop.Interp) :
    ReturnsInHanded {} Tryz.checked os 3 .any (Rows.propsNodesUptoRow.pre enc Tryz.prog Tryz.f3 (Rows.OpenSpec.upto Rows.propsNodesSpec)) (((Rows.OpenSpec.upto Rows.propsNodesSpec).at F).post enc Tryz.prog Tryz.f3 false true false false) := by
  refine law_returns (C := Tryz.checked) (fn := Tryz.f3) (s := (Rows.OpenSpec.upto Rows.propsNodesSpec)) (c := Rows.propsNodesUptoRow) (F := F) (tb := 4) (K := fun W ds gs => GlobOk W (fun _ => False) ∧ Rows.uptoSmall H (ds ++ gs) = true ∧ (DataW.weightsEach Tryz.prog (Tryz.f3.params.toList ++ (Rows.OpenSpec.upto Rows.propsNodesSpec).bare.plain.varTypes Tryz.prog) (ds ++ gs)).all (· ≤ reachBytes) = true) (fun w args h => upto_pre rfl rfl rfl h) (fun w tape i ds gs h => ⟨glob_call h.1, h.2⟩) seatOwn started (by kernel_rfl) Tryz.func3 seatLaidOut (by kernel_rfl) (by kernel_rfl) (by kernel_rfl) rfl ?_ ?_
  · exact law_witness (P := Tryz.prog) rfl rfl rfl #[.int .u8 0, .slice none 0 0] 8 (y := ([.lit (.int .u8 0), .nil], [], [])) (World.shaped_of_ZipB (by kernel_rfl) (by kernel_rfl)) (by kernel_rfl) (by kernel_rfl) (fun k hk => by cases hk; rfl) (by kernel_rfl)
      (by rw [MakeChecks.laidMetH_plain _ _ _ (by kernel_rfl)]; exact laidMet_laidAll _ (by kernel_rfl) (by kernel_rfl))
  · intro W base args ds gs before hval0 hW hK
    have hval : ∀ (j : Nat) t v, Tryz.f3.params[j]? = some t → args[j]? = some v → Value.okWide Tryz.prog W .any base t v := hval0
    obtain ⟨p, q, hA0, hV, rfl, _, _⟩ := hW
    have hA : DataW.TrodAll enc Tryz.prog W 0 (fun _ => true) true Tryz.f3.params.toList args.toList ds p := hA0
    rw [Tryz.params3] at hA hval
    have hw := hK.2.2
    rw [Tryz.params3] at hw
    obtain ⟨v0, v1, d0, d1, p0, p1, rfl, rfl, rfl, h0, h1⟩ := ChangeShapes.trodAll_two hA
    obtain ⟨rfl, rfl⟩ := ChangeShapes.trodVars_none hV
    obtain ⟨w0, w1⟩ := weights_two hw
    obtain ⟨xs0, ty0, r0⟩ := open_arg (n := 9) (T := .int .u8) (by kernel_rfl) (hval 0 22 v0 rfl rfl) h0 w0
    obtain ⟨xs1, ty1, r1⟩ := open_arg (n := 9) (T := .slice 6 ttD) (by kernel_rfl) (hval 1 23 v1 rfl rfl) h1 w1
    obtain ⟨x, rfl, hx⟩ := ty_u8 _ _ ty0
    obtain ⟨y, rfl, hy, ly⟩ := ty_list Dom.enc Dom.In (fun d e h => ty_dom d e h) ty1
    have ny : y.length ≤ 1048576 := by
      have h2 := (uptoSmall_two hK.2.1).2
      have h3 := uptoBulk_slice ty1
      simp only [List.length_map] at h3
      omega
    exact ⟨rfl, calls_of_acalls (law_nodes x hx y ny hy) hK.1 (.cons r0 (.cons r1 .nil))⟩
end Go.Proofs.YtoggbjfjmbjegaaGreatDoor

