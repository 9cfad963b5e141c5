/- The example's fourth answer: what is known of a filter. -/
import Derived.Test.YtoggbjfjmbjegaaGreatDoorX5
set_option linter.unusedSimpArgs false
set_option linter.unusedVariables false
namespace Go.Proofs.YtoggbjfjmbjegaaGreatDoor
open Go Go.Ab
def tabF : List (FuncId × List AV × AV) := [(33, [schA], .bool true), (45, [schA, .agg filtA, .nils], ok0)]
def tabG : List (FuncId × List AV × AV) := [(170, [.agg [schA, .nils], .agg scanA], planR)]
def tabN : List (FuncId × List AV × AV) := [(87, [.agg [schA, rows], condF], domsR), (93, [.agg [schA, rows], condF], .slice rowF), (345, [condF, set0], .tuple [set1, set1])]
theorem tabF_sound : ∀ f γ ls args σ c r σ' κ, orG (orG (orG knownJ (knownC tabG)) (knownW tabF)) (knownN tabN) f γ ls args σ c = some (r, σ', κ) → GCalls Tryz.prog f γ κ args σ r σ' := by
  refine orG_sound (orG_sound (orG_sound knownJ_sound (knownC_sound ?_)) (knownW_sound ?_)) (knownN_sound ?_)
  · intro p hp
    simp only [tabG, List.mem_cons, List.not_mem_nil, or_false] at hp
    rw [hp]; exact ex_plan
  · intro p hp
    simp only [tabF, List.mem_cons, List.not_mem_nil, or_false] at hp
    rcases hp with rfl | rfl
    · exact ⟨ex_valid, rfl⟩
    · exact ⟨ex_check, rfl⟩
  · intro p hp
    simp only [tabN, List.mem_cons, List.not_mem_nil, or_false] at hp
    rcases hp with rfl | rfl | rfl
    · exact ex_domains
    · exact ex_refined
    · exact ex_pinned
theorem ex_filter : NCalls Tryz.prog 20 [schA, .agg filtA, .nils] filtR := evalNJ (L := 300) (n := 60) tabF_sound (by kernel_rfl)
end Go.Proofs.YtoggbjfjmbjegaaGreatDoor
