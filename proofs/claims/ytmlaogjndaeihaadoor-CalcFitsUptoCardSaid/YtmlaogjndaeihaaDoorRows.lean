/-
  NARROWER THAN 'FOR EVERY INPUT', by the rows' own cells (each row's printed sentence says how): CalcKinds: laid · CalcFits: laid · CalcLazy: laid · CalcCompares: laid · CalcIn: laid · CalcChains: laid · CalcDrops: laid · CalcSubs: laid.
  DERIVED. THE GIVEN ROWS OF THIS SEAT. 8 by the template 'for every input the law returns true; each argument reads behind the call as it read before'; 0 by the template 'total and deterministic' (their statements: YtmlaogjndaeihaaDoorTotals.lean).
  GIVEN WITH THE SEED: the statements are not yours to turn. If you find one false, say at which input.
  Laid BY PROGRAM, IN A SANDBOX (cutbox-rows.mjs): the forced cells as the released guide's own fill.sh prints them over the translation 1b2ee0414c91645f… (all of the seat's roots in one cut). By AI agents, Wed Nov 11 2026. No macro, syntax, notation, axiom, sorry.
-/
import Derived.Test.YtmlaogjndaeihaaDoorChecked
import GoSem.PinnedTables
import GoSem.Claim
import GoSem.ClaimJoined
import GoSem.ClaimMapViews
import Derived.JoinedTies
import Derived.KernelRfl
namespace Go.Proofs.YtmlaogjndaeihaaDoor
/- THE CELL 'sum', in the pinned program and in every row, IS THE sha256 OF THE DUMP (.gsa) THAT YtmlaogjndaeihaaDoorProg.lean LOADS. Nothing in Lean hashes anything: it is a label: what it is worth is what the hold of that sum in a sandbox is worth. -/
noncomputable def Tryd.pinned : Pinned := { name := "ytmlaogjndaeihaadoor", sum := "1b2ee0414c91645f2ab1004d4a3c6a31d3a60bd3f8f0cd619f6917b39a0811a3", checked := Tryd.checked }
namespace Rows
def none {H : Type} : Left H := { results := [], args := [] }

/- WHAT THE LISTED PACKAGE-LEVEL VARIABLES READ AS WHEN THE CALL BEGINS. Each datum BY PROGRAM (the guide's laid-datum.mjs) off the statement by which the dump's own 'gosem.cut.vars' lays the variable. In a bare row this is a premise. The card (YtmlaogjndaeihaaDoorCards.lean) ties it to the program's text. -/
def laid_unicode_utf8_acceptRanges {H : Type} : DataW H := .agg [.agg [.lit (.int .u8 128), .lit (.int .u8 191)], .agg [.lit (.int .u8 160), .lit (.int .u8 191)], .agg [.lit (.int .u8 128), .lit (.int .u8 159)], .agg [.lit (.int .u8 144), .lit (.int .u8 191)], .agg [.lit (.int .u8 128), .lit (.int .u8 143)], .agg [.lit (.int .u8 0), .lit (.int .u8 0)], .agg [.lit (.int .u8 0), .lit (.int .u8 0)], .agg [.lit (.int .u8 0), .lit (.int .u8 0)], .agg [.lit (.int .u8 0), .lit (.int .u8 0)], .agg [.lit (.int .u8 0), .lit (.int .u8 0)], .agg [.lit (.int .u8 0), .lit (.int .u8 0)], .agg [.lit (.int .u8 0), .lit (.int .u8 0)], .agg [.lit (.int .u8 0), .lit (.int .u8 0)], .agg [.lit (.int .u8 0), .lit (.int .u8 0)], .agg [.lit (.int .u8 0), .lit (.int .u8 0)], .agg [.lit (.int .u8 0), .lit (.int .u8 0)]]
/-- One of Go's own tables, pinned by name: the form's constant. -/
def laid_unicode_utf8_first : DataW Unit := Go.Pinned.utf8First

/-- 'jointerlaw05.CalcKinds': WHATEVER THE INPUT: true; the input reads as it did. -/
def calcKindsSpec : ChangeSpec := { name := "calcKinds", fn := fun _ => fun
  | [d1, d2] => { results := [.lit (.bool true)], args := [d1, d2] }
  | _ => none }
def calcKindsRow : OpenClaim := { program := "ytmlaogjndaeihaadoor", sum := "1b2ee0414c91645f2ab1004d4a3c6a31d3a60bd3f8f0cd619f6917b39a0811a3", func := "jointer/jointerlaw05.CalcKinds", spec := "calcKinds", inPlace := ["internal/bytealg.IndexByteString", "internal/bytealg.IndexString", "internal/bytealg.abigen_runtime_cmpstring"], unfollowed := true, recurses := true, named := ["unicode/utf8.first", "unicode/utf8.acceptRanges", "internal/bytealg.MaxLen"], apart := false, laid := [("unicode/utf8.acceptRanges", laid_unicode_utf8_acceptRanges), ("unicode/utf8.first", laid_unicode_utf8_first)] }
def CalcKindsSaid : Prop := calcKindsRow.holds Tryd.pinned (OpenSpec.ofChange calcKindsSpec)

/-- ITS FALSE NEIGHBOUR: 'it returns false'. Refute it at one input. -/
def calcKindsWrong : ChangeSpec := { name := "calcKinds", fn := fun _ => fun
  | [d1, d2] => { results := [.lit (.bool false)], args := [d1, d2] }
  | _ => none }
def CalcKindsWrongFalsely : Prop := calcKindsRow.holds Tryd.pinned (OpenSpec.ofChange calcKindsWrong)

/-- 'jointerlaw05.CalcFits': WHATEVER THE INPUT: true; the input reads as it did. -/
def calcFitsSpec : ChangeSpec := { name := "calcFits", fn := fun _ => fun
  | [d1, d2] => { results := [.lit (.bool true)], args := [d1, d2] }
  | _ => none }
def calcFitsRow : OpenClaim := { program := "ytmlaogjndaeihaadoor", sum := "1b2ee0414c91645f2ab1004d4a3c6a31d3a60bd3f8f0cd619f6917b39a0811a3", func := "jointer/jointerlaw05.CalcFits", spec := "calcFits", inPlace := ["internal/bytealg.IndexByteString", "internal/bytealg.IndexString", "internal/bytealg.abigen_runtime_cmpstring"], unfollowed := true, recurses := true, named := ["unicode/utf8.first", "unicode/utf8.acceptRanges", "internal/bytealg.MaxLen"], apart := false, laid := [("unicode/utf8.acceptRanges", laid_unicode_utf8_acceptRanges), ("unicode/utf8.first", laid_unicode_utf8_first)] }
def CalcFitsSaid : Prop := calcFitsRow.holds Tryd.pinned (OpenSpec.ofChange calcFitsSpec)

/-- ITS FALSE NEIGHBOUR: 'it returns false'. Refute it at one input. -/
def calcFitsWrong : ChangeSpec := { name := "calcFits", fn := fun _ => fun
  | [d1, d2] => { results := [.lit (.bool false)], args := [d1, d2] }
  | _ => none }
def CalcFitsWrongFalsely : Prop := calcFitsRow.holds Tryd.pinned (OpenSpec.ofChange calcFitsWrong)

/-- 'jointerlaw05.CalcLazy': WHATEVER THE INPUT: true; the input reads as it did. -/
def calcLazySpec : ChangeSpec := { name := "calcLazy", fn := fun _ => fun
  | [d1, d2] => { results := [.lit (.bool true)], args := [d1, d2] }
  | _ => none }
def calcLazyRow : OpenClaim := { program := "ytmlaogjndaeihaadoor", sum := "1b2ee0414c91645f2ab1004d4a3c6a31d3a60bd3f8f0cd619f6917b39a0811a3", func := "jointer/jointerlaw05.CalcLazy", spec := "calcLazy", inPlace := ["internal/bytealg.IndexByteString", "internal/bytealg.IndexString", "internal/bytealg.abigen_runtime_cmpstring"], unfollowed := true, recurses := true, named := ["unicode/utf8.first", "unicode/utf8.acceptRanges", "internal/bytealg.MaxLen"], apart := false, laid := [("unicode/utf8.acceptRanges", laid_unicode_utf8_acceptRanges), ("unicode/utf8.first", laid_unicode_utf8_first)] }
def CalcLazySaid : Prop := calcLazyRow.holds Tryd.pinned (OpenSpec.ofChange calcLazySpec)

/-- ITS FALSE NEIGHBOUR: 'it returns false'. Refute it at one input. -/
def calcLazyWrong : ChangeSpec := { name := "calcLazy", fn := fun _ => fun
  | [d1, d2] => { results := [.lit (.bool false)], args := [d1, d2] }
  | _ => none }
def CalcLazyWrongFalsely : Prop := calcLazyRow.holds Tryd.pinned (OpenSpec.ofChange calcLazyWrong)

/-- 'jointerlaw05.CalcCompares': WHATEVER THE INPUT: true; the input reads as it did. -/
def calcComparesSpec : ChangeSpec := { name := "calcCompares", fn := fun _ => fun
  | [d1, d2] => { results := [.lit (.bool true)], args := [d1, d2] }
  | _ => none }
def calcComparesRow : OpenClaim := { program := "ytmlaogjndaeihaadoor", sum := "1b2ee0414c91645f2ab1004d4a3c6a31d3a60bd3f8f0cd619f6917b39a0811a3", func := "jointer/jointerlaw05.CalcCompares", spec := "calcCompares", inPlace := ["internal/bytealg.IndexByteString", "internal/bytealg.IndexString", "internal/bytealg.abigen_runtime_cmpstring"], unfollowed := true, recurses := true, named := ["unicode/utf8.first", "unicode/utf8.acceptRanges", "internal/bytealg.MaxLen"], apart := false, laid := [("unicode/utf8.acceptRanges", laid_unicode_utf8_acceptRanges), ("unicode/utf8.first", laid_unicode_utf8_first)] }
def CalcComparesSaid : Prop := calcComparesRow.holds Tryd.pinned (OpenSpec.ofChange calcComparesSpec)

/-- ITS FALSE NEIGHBOUR: 'it returns false'. Refute it at one input. -/
def calcComparesWrong : ChangeSpec := { name := "calcCompares", fn := fun _ => fun
  | [d1, d2] => { results := [.lit (.bool false)], args := [d1, d2] }
  | _ => none }
def CalcComparesWrongFalsely : Prop := calcComparesRow.holds Tryd.pinned (OpenSpec.ofChange calcComparesWrong)

/-- 'jointerlaw05.CalcIn': WHATEVER THE INPUT: true; the input reads as it did. -/
def calcInSpec : ChangeSpec := { name := "calcIn", fn := fun _ => fun
  | [d1, d2] => { results := [.lit (.bool true)], args := [d1, d2] }
  | _ => none }
def calcInRow : OpenClaim := { program := "ytmlaogjndaeihaadoor", sum := "1b2ee0414c91645f2ab1004d4a3c6a31d3a60bd3f8f0cd619f6917b39a0811a3", func := "jointer/jointerlaw05.CalcIn", spec := "calcIn", inPlace := ["internal/bytealg.IndexByteString", "internal/bytealg.IndexString", "internal/bytealg.abigen_runtime_cmpstring"], unfollowed := true, recurses := true, named := ["unicode/utf8.first", "unicode/utf8.acceptRanges", "internal/bytealg.MaxLen"], apart := false, laid := [("unicode/utf8.acceptRanges", laid_unicode_utf8_acceptRanges), ("unicode/utf8.first", laid_unicode_utf8_first)] }
def CalcInSaid : Prop := calcInRow.holds Tryd.pinned (OpenSpec.ofChange calcInSpec)

/-- ITS FALSE NEIGHBOUR: 'it returns false'. Refute it at one input. -/
def calcInWrong : ChangeSpec := { name := "calcIn", fn := fun _ => fun
  | [d1, d2] => { results := [.lit (.bool false)], args := [d1, d2] }
  | _ => none }
def CalcInWrongFalsely : Prop := calcInRow.holds Tryd.pinned (OpenSpec.ofChange calcInWrong)

/-- 'jointerlaw05.CalcChains': WHATEVER THE INPUT: true; the input reads as it did. -/
def calcChainsSpec : ChangeSpec := { name := "calcChains", fn := fun _ => fun
  | [d1, d2] => { results := [.lit (.bool true)], args := [d1, d2] }
  | _ => none }
def calcChainsRow : OpenClaim := { program := "ytmlaogjndaeihaadoor", sum := "1b2ee0414c91645f2ab1004d4a3c6a31d3a60bd3f8f0cd619f6917b39a0811a3", func := "jointer/jointerlaw05.CalcChains", spec := "calcChains", inPlace := ["internal/bytealg.IndexByteString", "internal/bytealg.IndexString", "internal/bytealg.abigen_runtime_cmpstring"], unfollowed := true, recurses := true, named := ["unicode/utf8.first", "unicode/utf8.acceptRanges", "internal/bytealg.MaxLen"], apart := false, laid := [("unicode/utf8.acceptRanges", laid_unicode_utf8_acceptRanges), ("unicode/utf8.first", laid_unicode_utf8_first)] }
def CalcChainsSaid : Prop := calcChainsRow.holds Tryd.pinned (OpenSpec.ofChange calcChainsSpec)

/-- ITS FALSE NEIGHBOUR: 'it returns false'. Refute it at one input. -/
def calcChainsWrong : ChangeSpec := { name := "calcChains", fn := fun _ => fun
  | [d1, d2] => { results := [.lit (.bool false)], args := [d1, d2] }
  | _ => none }
def CalcChainsWrongFalsely : Prop := calcChainsRow.holds Tryd.pinned (OpenSpec.ofChange calcChainsWrong)

/-- 'jointerlaw05.CalcDrops': WHATEVER THE INPUT: true; the input reads as it did. -/
def calcDropsSpec : ChangeSpec := { name := "calcDrops", fn := fun _ => fun
  | [d1, d2] => { results := [.lit (.bool true)], args := [d1, d2] }
  | _ => none }
def calcDropsRow : OpenClaim := { program := "ytmlaogjndaeihaadoor", sum := "1b2ee0414c91645f2ab1004d4a3c6a31d3a60bd3f8f0cd619f6917b39a0811a3", func := "jointer/jointerlaw05.CalcDrops", spec := "calcDrops", inPlace := ["internal/bytealg.IndexByteString", "internal/bytealg.IndexString", "internal/bytealg.abigen_runtime_cmpstring"], unfollowed := true, recurses := true, named := ["unicode/utf8.first", "unicode/utf8.acceptRanges", "internal/bytealg.MaxLen"], apart := false, laid := [("unicode/utf8.acceptRanges", laid_unicode_utf8_acceptRanges), ("unicode/utf8.first", laid_unicode_utf8_first)] }
def CalcDropsSaid : Prop := calcDropsRow.holds Tryd.pinned (OpenSpec.ofChange calcDropsSpec)

/-- ITS FALSE NEIGHBOUR: 'it returns false'. Refute it at one input. -/
def calcDropsWrong : ChangeSpec := { name := "calcDrops", fn := fun _ => fun
  | [d1, d2] => { results := [.lit (.bool false)], args := [d1, d2] }
  | _ => none }
def CalcDropsWrongFalsely : Prop := calcDropsRow.holds Tryd.pinned (OpenSpec.ofChange calcDropsWrong)

/-- 'jointerlaw05.CalcSubs': WHATEVER THE INPUT: true; the input reads as it did. -/
def calcSubsSpec : ChangeSpec := { name := "calcSubs", fn := fun _ => fun
  | [d1, d2] => { results := [.lit (.bool true)], args := [d1, d2] }
  | _ => none }
def calcSubsRow : OpenClaim := { program := "ytmlaogjndaeihaadoor", sum := "1b2ee0414c91645f2ab1004d4a3c6a31d3a60bd3f8f0cd619f6917b39a0811a3", func := "jointer/jointerlaw05.CalcSubs", spec := "calcSubs", inPlace := ["internal/bytealg.IndexByteString", "internal/bytealg.IndexString", "internal/bytealg.abigen_runtime_cmpstring"], unfollowed := true, recurses := true, named := ["unicode/utf8.first", "unicode/utf8.acceptRanges", "internal/bytealg.MaxLen"], apart := false, laid := [("unicode/utf8.acceptRanges", laid_unicode_utf8_acceptRanges), ("unicode/utf8.first", laid_unicode_utf8_first)] }
def CalcSubsSaid : Prop := calcSubsRow.holds Tryd.pinned (OpenSpec.ofChange calcSubsSpec)

/-- ITS FALSE NEIGHBOUR: 'it returns false'. Refute it at one input. -/
def calcSubsWrong : ChangeSpec := { name := "calcSubs", fn := fun _ => fun
  | [d1, d2] => { results := [.lit (.bool false)], args := [d1, d2] }
  | _ => none }
def CalcSubsWrongFalsely : Prop := calcSubsRow.holds Tryd.pinned (OpenSpec.ofChange calcSubsWrong)

/- THE SECOND FORM. 'bulk': how many values and letters a reading holds, each counted each time it is reached (what is shared counts as often as it is met; a slice's spare places count too). A statement '..UptoSaid' is the law's where the arguments, and the package variables that the reading takes, are together of bulk at most 1048576: NARROWER than '..Said'. Prove '..Said' where nothing that the law and all that it calls make is longer than what came in: it says more and counts as full. Else prove '..UptoSaid'. A law counts once. -/
mutual
def uptoBulk {H : Type} : DataW H → Nat
  | .lit (.string bytes) => bytes.length + 1
  | .lit _ => 1
  | .nil => 1
  | .ptr d => uptoBulk d + 1
  | .slice elems spare => uptoBulkAll elems + uptoBulkAll spare + 1
  | .agg parts => uptoBulkAll parts + 1
  | .iface _ d => uptoBulk d + 1
  | .map entries => uptoBulkEntries entries + 1
  | .held _ => 1
def uptoBulkAll {H : Type} : List (DataW H) → Nat
  | [] => 0
  | d :: r => uptoBulk d + uptoBulkAll r
def uptoBulkEntries {H : Type} : List (Lit × DataW H) → Nat
  | [] => 0
  | x :: r => uptoBulkEntry x + uptoBulkEntries r
def uptoBulkEntry {H : Type} : Lit × DataW H → Nat
  | (.string bytes, d) => bytes.length + uptoBulk d + 1
  | (_, d) => uptoBulk d + 1
 end
def uptoSmall : (H : Type) → List (DataW H) → Bool := fun _ ds => decide (uptoBulkAll ds ≤ 1048576)
def OpenSpec.upto (s : _root_.Go.ChangeSpec) : _root_.Go.OpenSpec := { _root_.Go.OpenSpec.ofChange s with cond := some uptoSmall }

/-- 'jointerlaw05.CalcKinds', WHERE WHAT IT READS IS OF BULK AT MOST 1048576: true; the input reads as it did. -/
def calcKindsUptoRow : OpenClaim := { program := "ytmlaogjndaeihaadoor", sum := "1b2ee0414c91645f2ab1004d4a3c6a31d3a60bd3f8f0cd619f6917b39a0811a3", func := "jointer/jointerlaw05.CalcKinds", spec := "calcKinds", inPlace := ["internal/bytealg.IndexByteString", "internal/bytealg.IndexString", "internal/bytealg.abigen_runtime_cmpstring"], unfollowed := true, recurses := true, named := ["unicode/utf8.first", "unicode/utf8.acceptRanges", "internal/bytealg.MaxLen"], apart := false, laid := [("unicode/utf8.acceptRanges", laid_unicode_utf8_acceptRanges), ("unicode/utf8.first", laid_unicode_utf8_first)], narrowed := true }
def CalcKindsUptoSaid : Prop := calcKindsUptoRow.holds Tryd.pinned (OpenSpec.upto calcKindsSpec)

/-- 'jointerlaw05.CalcFits', WHERE WHAT IT READS IS OF BULK AT MOST 1048576: true; the input reads as it did. -/
def calcFitsUptoRow : OpenClaim := { program := "ytmlaogjndaeihaadoor", sum := "1b2ee0414c91645f2ab1004d4a3c6a31d3a60bd3f8f0cd619f6917b39a0811a3", func := "jointer/jointerlaw05.CalcFits", spec := "calcFits", inPlace := ["internal/bytealg.IndexByteString", "internal/bytealg.IndexString", "internal/bytealg.abigen_runtime_cmpstring"], unfollowed := true, recurses := true, named := ["unicode/utf8.first", "unicode/utf8.acceptRanges", "internal/bytealg.MaxLen"], apart := false, laid := [("unicode/utf8.acceptRanges", laid_unicode_utf8_acceptRanges), ("unicode/utf8.first", laid_unicode_utf8_first)], narrowed := true }
def CalcFitsUptoSaid : Prop := calcFitsUptoRow.holds Tryd.pinned (OpenSpec.upto calcFitsSpec)

/-- 'jointerlaw05.CalcLazy', WHERE WHAT IT READS IS OF BULK AT MOST 1048576: true; the input reads as it did. -/
def calcLazyUptoRow : OpenClaim := { program := "ytmlaogjndaeihaadoor", sum := "1b2ee0414c91645f2ab1004d4a3c6a31d3a60bd3f8f0cd619f6917b39a0811a3", func := "jointer/jointerlaw05.CalcLazy", spec := "calcLazy", inPlace := ["internal/bytealg.IndexByteString", "internal/bytealg.IndexString", "internal/bytealg.abigen_runtime_cmpstring"], unfollowed := true, recurses := true, named := ["unicode/utf8.first", "unicode/utf8.acceptRanges", "internal/bytealg.MaxLen"], apart := false, laid := [("unicode/utf8.acceptRanges", laid_unicode_utf8_acceptRanges), ("unicode/utf8.first", laid_unicode_utf8_first)], narrowed := true }
def CalcLazyUptoSaid : Prop := calcLazyUptoRow.holds Tryd.pinned (OpenSpec.upto calcLazySpec)

/-- 'jointerlaw05.CalcCompares', WHERE WHAT IT READS IS OF BULK AT MOST 1048576: true; the input reads as it did. -/
def calcComparesUptoRow : OpenClaim := { program := "ytmlaogjndaeihaadoor", sum := "1b2ee0414c91645f2ab1004d4a3c6a31d3a60bd3f8f0cd619f6917b39a0811a3", func := "jointer/jointerlaw05.CalcCompares", spec := "calcCompares", inPlace := ["internal/bytealg.IndexByteString", "internal/bytealg.IndexString", "internal/bytealg.abigen_runtime_cmpstring"], unfollowed := true, recurses := true, named := ["unicode/utf8.first", "unicode/utf8.acceptRanges", "internal/bytealg.MaxLen"], apart := false, laid := [("unicode/utf8.acceptRanges", laid_unicode_utf8_acceptRanges), ("unicode/utf8.first", laid_unicode_utf8_first)], narrowed := true }
def CalcComparesUptoSaid : Prop := calcComparesUptoRow.holds Tryd.pinned (OpenSpec.upto calcComparesSpec)

/-- 'jointerlaw05.CalcIn', WHERE WHAT IT READS IS OF BULK AT MOST 1048576: true; the input reads as it did. -/
def calcInUptoRow : OpenClaim := { program := "ytmlaogjndaeihaadoor", sum := "1b2ee0414c91645f2ab1004d4a3c6a31d3a60bd3f8f0cd619f6917b39a0811a3", func := "jointer/jointerlaw05.CalcIn", spec := "calcIn", inPlace := ["internal/bytealg.IndexByteString", "internal/bytealg.IndexString", "internal/bytealg.abigen_runtime_cmpstring"], unfollowed := true, recurses := true, named := ["unicode/utf8.first", "unicode/utf8.acceptRanges", "internal/bytealg.MaxLen"], apart := false, laid := [("unicode/utf8.acceptRanges", laid_unicode_utf8_acceptRanges), ("unicode/utf8.first", laid_unicode_utf8_first)], narrowed := true }
def CalcInUptoSaid : Prop := calcInUptoRow.holds Tryd.pinned (OpenSpec.upto calcInSpec)

/-- 'jointerlaw05.CalcChains', WHERE WHAT IT READS IS OF BULK AT MOST 1048576: true; the input reads as it did. -/
def calcChainsUptoRow : OpenClaim := { program := "ytmlaogjndaeihaadoor", sum := "1b2ee0414c91645f2ab1004d4a3c6a31d3a60bd3f8f0cd619f6917b39a0811a3", func := "jointer/jointerlaw05.CalcChains", spec := "calcChains", inPlace := ["internal/bytealg.IndexByteString", "internal/bytealg.IndexString", "internal/bytealg.abigen_runtime_cmpstring"], unfollowed := true, recurses := true, named := ["unicode/utf8.first", "unicode/utf8.acceptRanges", "internal/bytealg.MaxLen"], apart := false, laid := [("unicode/utf8.acceptRanges", laid_unicode_utf8_acceptRanges), ("unicode/utf8.first", laid_unicode_utf8_first)], narrowed := true }
def CalcChainsUptoSaid : Prop := calcChainsUptoRow.holds Tryd.pinned (OpenSpec.upto calcChainsSpec)

/-- 'jointerlaw05.CalcDrops', WHERE WHAT IT READS IS OF BULK AT MOST 1048576: true; the input reads as it did. -/
def calcDropsUptoRow : OpenClaim := { program := "ytmlaogjndaeihaadoor", sum := "1b2ee0414c91645f2ab1004d4a3c6a31d3a60bd3f8f0cd619f6917b39a0811a3", func := "jointer/jointerlaw05.CalcDrops", spec := "calcDrops", inPlace := ["internal/bytealg.IndexByteString", "internal/bytealg.IndexString", "internal/bytealg.abigen_runtime_cmpstring"], unfollowed := true, recurses := true, named := ["unicode/utf8.first", "unicode/utf8.acceptRanges", "internal/bytealg.MaxLen"], apart := false, laid := [("unicode/utf8.acceptRanges", laid_unicode_utf8_acceptRanges), ("unicode/utf8.first", laid_unicode_utf8_first)], narrowed := true }
def CalcDropsUptoSaid : Prop := calcDropsUptoRow.holds Tryd.pinned (OpenSpec.upto calcDropsSpec)

/-- 'jointerlaw05.CalcSubs', WHERE WHAT IT READS IS OF BULK AT MOST 1048576: true; the input reads as it did. -/
def calcSubsUptoRow : OpenClaim := { program := "ytmlaogjndaeihaadoor", sum := "1b2ee0414c91645f2ab1004d4a3c6a31d3a60bd3f8f0cd619f6917b39a0811a3", func := "jointer/jointerlaw05.CalcSubs", spec := "calcSubs", inPlace := ["internal/bytealg.IndexByteString", "internal/bytealg.IndexString", "internal/bytealg.abigen_runtime_cmpstring"], unfollowed := true, recurses := true, named := ["unicode/utf8.first", "unicode/utf8.acceptRanges", "internal/bytealg.MaxLen"], apart := false, laid := [("unicode/utf8.acceptRanges", laid_unicode_utf8_acceptRanges), ("unicode/utf8.first", laid_unicode_utf8_first)], narrowed := true }
def CalcSubsUptoSaid : Prop := calcSubsUptoRow.holds Tryd.pinned (OpenSpec.upto calcSubsSpec)

end Rows
end Go.Proofs.YtmlaogjndaeihaaDoor
