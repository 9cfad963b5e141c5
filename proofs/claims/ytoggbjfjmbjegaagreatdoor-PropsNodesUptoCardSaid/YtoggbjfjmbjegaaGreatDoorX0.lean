/- The document's example of chapter 12: its arguments, its answers, what structs are compared. -/
import Derived.Test.YtoggbjfjmbjegaaGreatDoorIU
import Derived.Test.YtoggbjfjmbjegaaGreatDoorAb26
import Derived.Test.YtoggbjfjmbjegaaGreatDoorProg
set_option linter.unusedSimpArgs false
set_option linter.unusedVariables false
namespace Go.Proofs.YtoggbjfjmbjegaaGreatDoor
open Go Go.Ab
def intC : List AV := [.str ⟨#[97]⟩, .int .u8 1, .bool true, .int .i64 0, .int .i64 9]
def intD : List AV := [.str ⟨#[98]⟩, .int .u8 1, .bool false, .int .i64 (-5), .int .i64 5]
def schA : AV := .slice [[.str ⟨#[116]⟩, .slice [intC, intD], .slice [[.slice [[.int .i64 0]]]], .nils, .nils]]
def emp0 : ByteArray := ⟨#[]⟩
def lf (op k n up c : Int) : List AV := [.int .u8 op, .int .u8 k, .int .i64 n, .str emp0, .int .i64 up, .int .i64 c, .nils, .nils]
def nd (op : Int) (kids : List (List AV)) : List AV := [.int .u8 op, .int .u8 0, .int .i64 0, .str emp0, .int .i64 0, .int .i64 0, .slice kids, .nils]
def ten : List AV := lf 0 1 10 0 0
def zer : List AV := lf 0 1 0 0 0
def col (n : Int) : List AV := lf 2 0 0 0 n
def dm (k : Int) (n f s : Bool) (lo hi : Int) : List AV := [.int .u8 k, .bool n, .bool f, .bool s, .int .i64 lo, .int .i64 hi]
def rowA : List (List AV) := [dm 1 false false true 0 9, dm 1 true false true (-5) 5]
def rowB : List (List AV) := [dm 1 false false true 1 9, dm 1 true false true (-5) 5]
def rows : AV := .slice [[.slice rowA]]
def divA : AV := .agg (nd 8 [ten, col 0])
def neA : AV := .slice [nd 13 [col 0, zer]]
def gtA : AV := .agg (nd 16 [col 1, zer])
def pl (op : Int) (conds kids : AV) : List AV := [.int .u8 op, .int .i64 0, .nils, .nils, conds, .nils, .nils, .nils, .nils, .int .i64 0, .int .i64 0, kids]
def scanA : List AV := pl 1 .nils .nils
def filtA : List AV := pl 2 (.slice [nd 12 [col 0, ten]]) (.slice [scanA])
def ok0 : AV := .int .i64 0
def domR : AV := .tuple [.agg (dm 1 false true true 1 10), ok0]
def refR : AV := .tuple [.slice rowB, ok0]
def rejR : AV := .tuple [.bool true, ok0]
def scanR : AV := .tuple [.agg [.slice rowA, .slice [[.slice [[.int .i64 0]]]], .nils, .slice [[.int .i64 1, .int .i64 0], [.int .i64 1, .int .i64 1]], .slice [[.int .i64 0]], .int .i64 0, .int .i64 1000, .bool true], ok0]
def filtR : AV := .tuple [.agg [.slice [dm 1 false false false 0 0, dm 1 false false false 0 0], .slice [[.slice []]], .nils, .slice [[.int .i64 1, .int .i64 0], [.int .i64 1, .int .i64 1]], .slice [[.int .i64 0]], .int .i64 0, .int .i64 0, .bool true], ok0]
def planR : AV := .agg [.slice rowA, .slice [[.int .u64 1, .int .u64 0]], .nils, .slice [[.int .i64 1, .int .i64 0], [.int .i64 1, .int .i64 1]], .slice [[.int .i64 0]], .int .i64 0, .int .i64 1000, .bool true]
def condF : AV := .slice [nd 12 [col 0, ten]]
def rowF : List (List AV) := [dm 1 false false false 0 0, dm 1 true false true (-5) 5]
def domsR : AV := .slice [dm 3 false false true 0 0]
def set0 : AV := .agg [.int .u64 0, .int .u64 0]
def set1 : AV := .agg [.int .u64 1, .int .u64 0]
def tabJ : List (TypeId × List Nat) := [(26, [1, 1, 3]), (33, [1, 2, 2, 2, 1, 1]), (215, [1, 1]), (187, [1, 1, 2])]
theorem tabJ_ok : tabB Tryz.prog tabJ = true := by kernel_rfl
theorem evalJ {L n : Nat} {known : CallG} (hk : ∀ f γ ls args σ c r σ' κ, known f γ ls args σ c = some (r, σ', κ) → GCalls Tryz.prog f γ κ args σ r σ') {f : FuncId} {args : List AV} {y : AV} (h : evalW Tryz.prog (eqsL tabJ) L 2000 known n f args 40 = some y) : ACalls Tryz.prog f args y :=
  evalW_sound mixed (eqsL_sound tabJ_ok) hk h
theorem evalNJ {L n : Nat} {known : CallG} (hk : ∀ f γ ls args σ c r σ' κ, known f γ ls args σ c = some (r, σ', κ) → GCalls Tryz.prog f γ κ args σ r σ') {f : FuncId} {args : List AV} {y : AV} (h : evalN Tryz.prog (eqsL tabJ) L 2000 known n f args 40 = some y) : NCalls Tryz.prog f args y :=
  evalN_sound mixed (eqsL_sound tabJ_ok) hk h
end Go.Proofs.YtoggbjfjmbjegaaGreatDoor
