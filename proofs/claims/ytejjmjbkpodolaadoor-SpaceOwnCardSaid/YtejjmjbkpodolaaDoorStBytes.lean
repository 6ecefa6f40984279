/- The element type of a list of bytes. No conditions. -/
import Derived.Test.YtejjmjbkpodolaaDoorProg
import Derived.Test.YtejjmjbkpodolaaDoorMem
import Derived.WalkKit
namespace Go.Proofs.YtejjmjbkpodolaaDoor
open Go.RowKit
theorem stBytes : SliceType Tryd.prog 55 5 1 1 := SliceType.mk' (z := .int .u8 0) Tryd.underlying55 (by kernel_rfl) rfl (by omega)
end Go.Proofs.YtejjmjbkpodolaaDoor
