/- The closed facts of the row of PropsNodesUpto, joined. PropsNodes: the row. -/
import Derived.Test.YtoggbjfjmbjegaaGreatDoorKNa0
import Derived.Test.YtoggbjfjmbjegaaGreatDoorKNa1
import Derived.Test.YtoggbjfjmbjegaaGreatDoorKNa2
import Derived.Test.YtoggbjfjmbjegaaGreatDoorKNa3
import Derived.Test.YtoggbjfjmbjegaaGreatDoorKNa4
import Derived.Test.YtoggbjfjmbjegaaGreatDoorKNa5
import Derived.Test.YtoggbjfjmbjegaaGreatDoorKNa6
import Derived.Test.YtoggbjfjmbjegaaGreatDoorKNa7
import Derived.JoinedCond
import Derived.Test.YtoggbjfjmbjegaaGreatDoorK11a
set_option linter.unusedSimpArgs false
set_option linter.unusedVariables false
section
namespace Go.Proofs.YtoggbjfjmbjegaaGreatDoor
open Go
set_option maxRecDepth 100000
theorem and2 {a b : Bool} (h : a = true) (k : b = true) : (a && b) = true := by rw [h, k]; rfl
theorem propsNodesUpto_facts : joinedFacts Tryz.prog 3 Tryz.f3 ((Rows.OpenSpec.upto Rows.propsNodesSpec).bare) (Rows.propsNodesUptoRow) = true := (and2 (and2 (and2 (and2 (and2 (and2 (and2 (and2 (and2 (and2 (and2 (and2 (and2 (and2 (and2 (and2 (and2 (and2 (and2 (and2 (and2 (and2 (and2 (and2 (and2 (and2 (and2 (and2 (and2 (and2 (and2 propsNodesUpto_k0 propsNodesUpto_k1) propsNodesUpto_k2) propsNodesUpto_k3) propsNodesUpto_k4) propsNodesUpto_k5) propsNodesUpto_k6) propsNodesUpto_k7) propsNodesUpto_k8) propsNodesUpto_k9) propsNodesUpto_k10) propsNodesUpto_k11) propsNodesUpto_k12) propsNodesUpto_k13) propsNodesUpto_k14) propsNodesUpto_k15) propsNodesUpto_k16) propsNodesUpto_k17) propsNodesUpto_k18) propsNodesUpto_k19) propsNodesUpto_k20) propsNodesUpto_k21) propsNodesUpto_k22) propsNodesUpto_k23) propsNodesUpto_k24) propsNodesUpto_k25) propsNodesUpto_k26) propsNodesUpto_k27) propsNodesUpto_k28) propsNodesUpto_k29) propsNodesUpto_k30) propsNodesUpto_k31)
end Go.Proofs.YtoggbjfjmbjegaaGreatDoor
end

section
namespace Go.Proofs.YtoggbjfjmbjegaaGreatDoor
open Go Go.Ab
theorem propsNodesUpto_holds : Rows.PropsNodesUptoSaid :=
  OpenClaim.holds_of_cond 3 Tryz.f3 rfl rfl rfl rfl rfl rfl rfl ⟨rfl, rfl, rfl, rfl, rfl⟩ rfl rfl rfl rfl rfl (by kernel_rfl) Tryz.func3 propsNodesUpto_facts
    (of_decide_eq_true (by kernel_rfl)) (by unfold Func.isWrapper; first | (rw [if_pos (by decide +kernel)]; kernel_rfl) | (rw [if_neg (by decide +kernel)]; exact ⟨rfl, rfl⟩))
    (fun os started H enc _ F => propsNodesUpto_returns os started H enc F)
end Go.Proofs.YtoggbjfjmbjegaaGreatDoor

end
