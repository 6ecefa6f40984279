/- The element type of a list of bytes. No conditions. -/
import Derived.Test.YtooempbgpfhdcaaDoorProg
import Derived.Test.YtooempbgpfhdcaaDoorMem
import Derived.WalkKit
namespace Go.Proofs.YtooempbgpfhdcaaDoor
open Go.RowKit
theorem stBytes : SliceType Tryd.prog 23 5 1 1 := SliceType.mk' (z := .int .u8 0) Tryd.underlying23 (by kernel_rfl) rfl (by omega)
end Go.Proofs.YtooempbgpfhdcaaDoor
