/- The element type of a list of bytes. No conditions. -/
import Derived.Test.YtfbaaccnnogajaaProg
import Derived.Test.YtfbaaccnnogajaaMem
import Derived.WalkKit
namespace Go.Proofs.Ytfbaaccnnogajaa
open Go.RowKit
theorem stBytes : SliceType Try.prog 23 5 1 1 := SliceType.mk' (z := .int .u8 0) Try.underlying23 (by kernel_rfl) rfl (by omega)
end Go.Proofs.Ytfbaaccnnogajaa
