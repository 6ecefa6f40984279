/- Texts that lead to the claim, one behind the other: The element type of a list of bytes. No conditions. -/
import Derived.Test.YtncpeogkccjmcaaProg
import Derived.Test.YtncpeogkccjmcaaTR0
import Derived.WalkKit
namespace Go.Proofs.Ytncpeogkccjmcaa
open Go.RowKit
theorem stBytes : SliceType Try.prog 50 5 1 1 := SliceType.mk' (z := .int .u8 0) Try.underlying50 (by kernel_rfl) rfl (by omega)
end Go.Proofs.Ytncpeogkccjmcaa
