/- Texts that lead to the claim, one behind the other: The element type of a list of bytes. No conditions. -/
import Derived.Test.YtfommpbblpnljaaProg
import Derived.Test.YtfommpbblpnljaaWH0
import Derived.WalkKit
namespace Go.Proofs.Ytfommpbblpnljaa
open Go.RowKit
theorem stBytes : SliceType Try.prog 32 5 1 1 := SliceType.mk' (z := .int .u8 0) Try.underlying32 (by kernel_rfl) rfl (by omega)
end Go.Proofs.Ytfommpbblpnljaa
