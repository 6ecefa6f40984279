/- The element type of a list of bytes. No conditions. -/
import Derived.Test.YtfmaaempcpjpkaaDoorProg
import Derived.Test.YtfmaaempcpjpkaaDoorMem
import Derived.WalkKit
namespace Go.Proofs.YtfmaaempcpjpkaaDoor
open Go.RowKit
theorem stBytes : SliceType Tryd.prog 23 5 1 1 := SliceType.mk' (z := .int .u8 0) Tryd.underlying23 (by kernel_rfl) rfl (by omega)
end Go.Proofs.YtfmaaempcpjpkaaDoor
