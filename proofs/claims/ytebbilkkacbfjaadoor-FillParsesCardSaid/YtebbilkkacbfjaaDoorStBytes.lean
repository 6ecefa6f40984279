/- The element type of a list of bytes. No conditions. -/
import Derived.Test.YtebbilkkacbfjaaDoorProg
import Derived.Test.YtebbilkkacbfjaaDoorMem
import Derived.WalkKit
namespace Go.Proofs.YtebbilkkacbfjaaDoor
open Go.RowKit
theorem stBytes : SliceType Tryd.prog 58 5 1 1 := SliceType.mk' (z := .int .u8 0) Tryd.underlying58 (by kernel_rfl) rfl (by omega)
end Go.Proofs.YtebbilkkacbfjaaDoor
