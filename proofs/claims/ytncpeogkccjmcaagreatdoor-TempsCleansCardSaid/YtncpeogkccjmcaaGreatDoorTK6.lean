/- Texts that lead to the claim, one behind the other: The element type of a list of bytes. No conditions. -/
import Derived.Test.YtncpeogkccjmcaaGreatDoorProg
import Derived.Test.YtncpeogkccjmcaaGreatDoorTK0
import Derived.WalkKit
namespace Go.Proofs.YtncpeogkccjmcaaGreatDoor
open Go.RowKit
theorem stBytes : SliceType Tryz.prog 67 5 1 1 := SliceType.mk' (z := .int .u8 0) Tryz.underlying67 (by kernel_rfl) rfl (by omega)
end Go.Proofs.YtncpeogkccjmcaaGreatDoor
