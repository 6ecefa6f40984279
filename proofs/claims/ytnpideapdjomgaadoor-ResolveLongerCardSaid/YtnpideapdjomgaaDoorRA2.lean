/- Texts that lead to the claim, one behind the other: The element type of a list of bytes. No conditions. -/
import Derived.Test.YtnpideapdjomgaaDoorProg
import Derived.Test.YtnpideapdjomgaaDoorRA0
import Derived.WalkKit
namespace Go.Proofs.YtnpideapdjomgaaDoor
open Go.RowKit
theorem stBytes : SliceType Tryd.prog 39 5 1 1 := SliceType.mk' (z := .int .u8 0) Tryd.underlying39 (by kernel_rfl) rfl (by omega)
end Go.Proofs.YtnpideapdjomgaaDoor
