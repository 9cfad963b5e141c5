/- The document's examples of chapter 12 hold. -/
import Derived.Test.YtleadljchhkiiaaGreatDoorX1
import Derived.Test.YtleadljchhkiiaaGreatDoorX2
import Derived.Test.YtleadljchhkiiaaGreatDoorX3
import Derived.Test.YtleadljchhkiiaaGreatDoorX4
import Derived.Test.YtleadljchhkiiaaGreatDoorX6
set_option linter.unusedSimpArgs false
set_option linter.unusedVariables false
namespace Go.Proofs.YtleadljchhkiiaaGreatDoor
open Go Go.Ab
def tabA : List (FuncId × List AV × AV) := [(7, [schA, divA, rows], domR), (21, [schA, neA, rows], refR), (22, [schA, gtA, rows, .slice [[.int .i64 1]]], rejR), (23, [schA, .agg filtA, .nils], filtR), (23, [schA, .agg scanA, .nils], scanR)]
theorem tabA_sound : ∀ f γ ls args σ c r σ' κ, orG knownJ (knownN tabA) f γ ls args σ c = some (r, σ', κ) → GCalls Tryz.prog f γ κ args σ r σ' := by
  refine orG_sound knownJ_sound (knownN_sound ?_)
  intro p hp
  simp only [tabA, List.mem_cons, List.not_mem_nil, or_false] at hp
  rcases hp with rfl | rfl | rfl | rfl | rfl
  · exact ex_domain
  · exact ex_refine
  · exact ex_rejects
  · exact ex_filter
  · exact ex_scan
theorem law_awake : ACalls Tryz.prog 9 [] (.bool true) := evalJ (L := 300) (n := 60) tabA_sound (by kernel_rfl)
end Go.Proofs.YtleadljchhkiiaaGreatDoor
