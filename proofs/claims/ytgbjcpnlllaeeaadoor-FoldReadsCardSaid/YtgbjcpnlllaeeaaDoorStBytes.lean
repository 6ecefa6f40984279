/- The element type of a list of bytes. No conditions. -/
import Derived.Test.YtgbjcpnlllaeeaaDoorProg
import Derived.Test.YtgbjcpnlllaeeaaDoorMem
import Derived.WalkKit
namespace Go.Proofs.YtgbjcpnlllaeeaaDoor
open Go.RowKit
theorem stBytes : SliceType Tryd.prog 22 5 1 1 := SliceType.mk' (z := .int .u8 0) Tryd.underlying22 (by kernel_rfl) rfl (by omega)
end Go.Proofs.YtgbjcpnlllaeeaaDoor
