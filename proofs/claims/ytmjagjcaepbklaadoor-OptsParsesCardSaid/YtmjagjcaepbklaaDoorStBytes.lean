/- The element type of a list of bytes. No conditions. -/
import Derived.Test.YtmjagjcaepbklaaDoorProg
import Derived.Test.YtmjagjcaepbklaaDoorMem
import Derived.WalkKit
namespace Go.Proofs.YtmjagjcaepbklaaDoor
open Go.RowKit
theorem stBytes : SliceType Tryd.prog 68 5 1 1 := SliceType.mk' (z := .int .u8 0) Tryd.underlying68 (by kernel_rfl) rfl (by omega)
end Go.Proofs.YtmjagjcaepbklaaDoor
