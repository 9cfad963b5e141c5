/- The types of the program, in short. -/
import Derived.Test.YtmlaogjndaeihaaDoorAb18
import Derived.Test.YtmlaogjndaeihaaDoorProg
namespace Go.Proofs.YtmlaogjndaeihaaDoor
open Go Go.Ab
theorem ti2 : ti Tryd.prog 2 = ⟨(.int .i64), 1, 8, false, some [.int .i64 0]⟩ := by kernel_rfl
theorem ti3 : ti Tryd.prog 3 = ⟨(.int .i64), 1, 8, false, some [.int .i64 0]⟩ := by kernel_rfl
theorem ti4 : ti Tryd.prog 4 = ⟨.bool, 1, 1, false, some [.bool false]⟩ := by kernel_rfl
theorem ti5 : ti Tryd.prog 5 = ⟨(.int .u8), 1, 1, false, some [.int .u8 0]⟩ := by kernel_rfl
theorem ti9 : ti Tryd.prog 9 = ⟨.str, 1, 16, false, some [.str ⟨#[]⟩]⟩ := by kernel_rfl
theorem ti21 : ti Tryd.prog 21 = ⟨(.int .i32), 1, 4, false, some [.int .i32 0]⟩ := by kernel_rfl
theorem ti22 : ti Tryd.prog 22 = ⟨(.int .u8), 1, 1, false, some [.int .u8 0]⟩ := by kernel_rfl
theorem ti23 : ti Tryd.prog 23 = ⟨(.slice 24), 1, 24, false, some [.nils]⟩ := by kernel_rfl
theorem ti24 : ti Tryd.prog 24 = ⟨(.int .u8), 1, 1, false, some [.int .u8 0]⟩ := by kernel_rfl
theorem ti25 : ti Tryd.prog 25 = ⟨(.int .i64), 1, 8, false, some [.int .i64 0]⟩ := by kernel_rfl
theorem ti30 : ti Tryd.prog 30 = ⟨(.slice 35), 1, 24, false, some [.nils]⟩ := by kernel_rfl
theorem ti33 : ti Tryd.prog 33 = ⟨(.struct [(0, 1, false), (1, 1, false), (2, 1, false)]), 3, 32, true, some [.int .u8 0, .int .i64 0, .str ⟨#[]⟩]⟩ := by kernel_rfl
theorem ti35 : ti Tryd.prog 35 = ⟨(.struct [(0, 3, true), (3, 1, false)]), 4, 40, true, some [.int .u8 0, .int .i64 0, .str ⟨#[]⟩, .int .i64 0]⟩ := by kernel_rfl
theorem ti41 : ti Tryd.prog 41 = ⟨.func, 1, 8, false, some [.nilFunc]⟩ := by kernel_rfl
theorem ti44 : ti Tryd.prog 44 = ⟨(.slice 33), 1, 24, false, some [.nils]⟩ := by kernel_rfl
theorem ti45 : ti Tryd.prog 45 = ⟨(.slice 46), 1, 24, false, some [.nils]⟩ := by kernel_rfl
theorem ti46 : ti Tryd.prog 46 = ⟨(.slice 33), 1, 24, false, some [.nils]⟩ := by kernel_rfl
theorem ti49 : ti Tryd.prog 49 = ⟨(.struct [(0, 1, false), (1, 1, false)]), 2, 32, true, some [.nils, .int .i64 0]⟩ := by kernel_rfl
theorem ti56 : ti Tryd.prog 56 = ⟨(.int .i64), 1, 8, false, some [.int .i64 0]⟩ := by kernel_rfl
theorem ti62 : ti Tryd.prog 62 = ⟨(.struct [(0, 1, false), (1, 1, false), (2, 1, false), (3, 1, false)]), 4, 24, true, some [.int .i64 0, .int .i64 0, .int .u8 0, .int .u8 0]⟩ := by kernel_rfl
theorem ti66 : ti Tryd.prog 66 = ⟨.func, 1, 8, false, some [.nilFunc]⟩ := by kernel_rfl
theorem ti81 : ti Tryd.prog 81 = ⟨(.int .i64), 1, 8, false, some [.int .i64 0]⟩ := by kernel_rfl
theorem ti89 : ti Tryd.prog 89 = ⟨.func, 1, 8, false, some [.nilFunc]⟩ := by kernel_rfl
theorem ti93 : ti Tryd.prog 93 = ⟨(.map 22 4), 1, 8, false, some [.lit (.map none)]⟩ := by kernel_rfl
theorem ti96 : ti Tryd.prog 96 = ⟨(.int .u64), 1, 8, false, some [.int .u64 0]⟩ := by kernel_rfl
theorem ti99 : ti Tryd.prog 99 = ⟨(.map 22 89), 1, 8, false, some [.lit (.map none)]⟩ := by kernel_rfl
theorem ti116 : ti Tryd.prog 116 = ⟨(.slice 3), 1, 24, false, some [.nils]⟩ := by kernel_rfl

theorem mixed : Tryd.prog.follows .mixedOrders = true := by kernel_rfl
end Go.Proofs.YtmlaogjndaeihaaDoor
