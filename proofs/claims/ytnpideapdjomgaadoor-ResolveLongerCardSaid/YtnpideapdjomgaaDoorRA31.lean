/- Texts that lead to the claim, one behind the other: What the library's variables hold, out of what the row says of them and out of the world's shape. No conditions. -/
import Derived.Test.YtnpideapdjomgaaDoorRows
import Derived.Test.YtnpideapdjomgaaDoorRA30
import Derived.Lib.LaidU8T
import Derived.Shelf.Vars
import Derived.Stop.LaidErr
namespace Go.Proofs.YtnpideapdjomgaaDoor
open Go.RowKit Go.Shelf Go.ChangeShapes Go.WideShapes Go.Deep Go.Lib

def u8Ren : Ren := ⟨fun n => n, fun | 5 => 5 | 119 => 41 | 138 => 123 | 139 => 124 | n => n, fun | 3 => 1 | 4 => 2 | n => n⟩
theorem u8Types : U8Types Tryd.prog u8Ren := ⟨Tryd.underlying5, Tryd.underlying41, Tryd.underlying123, Tryd.underlying124⟩
theorem d3_22 : Lib.firstData = Rows.laid_unicode_utf8_first := by kernel_rfl
theorem d4_22 : Lib.acceptData = Rows.laid_unicode_utf8_acceptRanges := by kernel_rfl
theorem env_of {W : World} (h : laidMetH Tryd.prog [("unicode/utf8.acceptRanges", Rows.laid_unicode_utf8_acceptRanges), ("unicode/utf8.first", Rows.laid_unicode_utf8_first)] W) (hs : W.ShapedOpen Tryd.prog) : Env22 W :=
  ⟨utf8Tabs_of_readsT u8Types ⟨by kernel_rfl, by kernel_rfl, by kernel_rfl, by kernel_rfl, by kernel_rfl, by kernel_rfl, by kernel_rfl⟩ (by rw [d3_22]; exact Lib.laidMet.reads h (.tail _ (.head _))) (by rw [d4_22]; exact Lib.laidMet.reads h (.head _)),
    cell_of_shapedOpen_int (g := 0) (t := 3) (zero := #[.int .i64 0]) hs (of_decide_eq_true (by kernel_rfl)) (by kernel_rfl) rfl (by kernel_rfl) (by kernel_rfl) Tryd.underlying3⟩
end Go.Proofs.YtnpideapdjomgaaDoor
