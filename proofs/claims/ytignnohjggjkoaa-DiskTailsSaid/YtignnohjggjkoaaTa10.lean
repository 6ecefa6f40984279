/- Texts that lead to the claim, one behind the other: The element type of a list of bytes. No conditions. -/
import Derived.Test.YtignnohjggjkoaaProg
import Derived.Test.YtignnohjggjkoaaTa0
import Derived.WalkKit
namespace Go.Proofs.Ytignnohjggjkoaa
open Go.RowKit
theorem stBytes : SliceType Try.prog 22 5 1 1 := SliceType.mk' (z := .int .u8 0) Try.underlying22 (by kernel_rfl) rfl (by omega)
end Go.Proofs.Ytignnohjggjkoaa
