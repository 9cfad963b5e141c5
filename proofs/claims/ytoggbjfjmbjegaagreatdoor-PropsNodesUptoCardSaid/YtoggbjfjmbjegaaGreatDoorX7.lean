/- The document's examples of chapter 12 hold. -/
import Derived.Test.YtoggbjfjmbjegaaGreatDoorX1
import Derived.Test.YtoggbjfjmbjegaaGreatDoorX2
import Derived.Test.YtoggbjfjmbjegaaGreatDoorX3
import Derived.Test.YtoggbjfjmbjegaaGreatDoorX4
import Derived.Test.YtoggbjfjmbjegaaGreatDoorX6
set_option linter.unusedSimpArgs false
set_option linter.unusedVariables false
namespace Go.Proofs.YtoggbjfjmbjegaaGreatDoor
open Go Go.Ab
def tabA : List (FuncId × List AV × AV) := [(6, [schA, divA, rows], domR), (18, [schA, neA, rows], refR), (19, [schA, gtA, rows, .slice [[.int .i64 1]]], rejR), (20, [schA, .agg filtA, .nils], filtR), (20, [schA, .agg scanA, .nils], scanR)]
theorem tabA_sound : ∀ f γ ls args σ c r σ' κ, orG knownJ (knownN tabA) f γ ls args σ c = some (r, σ', κ) → GCalls Tryz.prog f γ κ args σ r σ' := by
  refine orG_sound knownJ_sound (knownN_sound ?_)
  intro p hp
  simp only [tabA, List.mem_cons, List.not_mem_nil, or_false] at hp
  rcases hp with rfl | rfl | rfl | rfl | rfl
  · exact ex_domain
  · exact ex_refine
  · exact ex_rejects
  · exact ex_filter
  · exact ex_scan
theorem law_awake : ACalls Tryz.prog 8 [] (.bool true) := evalJ (L := 300) (n := 60) tabA_sound (by kernel_rfl)
end Go.Proofs.YtoggbjfjmbjegaaGreatDoor
