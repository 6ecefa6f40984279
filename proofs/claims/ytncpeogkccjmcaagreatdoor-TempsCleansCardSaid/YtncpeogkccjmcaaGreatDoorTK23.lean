/- Texts that lead to the claim, one behind the other: A number from 0 to most: the walk of galleyref03.Left. No conditions. -/
import Derived.Test.YtncpeogkccjmcaaGreatDoorTK18
namespace Go.Proofs.YtncpeogkccjmcaaGreatDoor
open Go.RowKit Go.ChangeShapes Go.WideShapes Go.Deep
theorem left_any (n : Int) (most : Nat) (w : World) : Calls Tryz.prog 96 #[.int .i64 n, .int .i64 most] w fun e w' => e = .returned (.int .i64 (Disk.St.left n most : Nat)) ∧ w' = w := by
  rcases (show n < 0 ∨ (0 ≤ n ∧ (most : Int) < n) ∨ (0 ≤ n ∧ n ≤ most) from by omega) with h | ⟨h0, h⟩ | ⟨h0, h⟩
  · have he : (Disk.St.left n most : Int) = 0 := by unfold Disk.St.left; omega
    rw [he]
    clear he
    go_enter Tryz.func96, Tryz.ntmps96
    go_wp2_with fail
    go_ret
    exact ⟨rfl, rfl⟩
  · have he : (Disk.St.left n most : Int) = most := by unfold Disk.St.left; omega
    rw [he]
    clear he
    go_enter Tryz.func96, Tryz.ntmps96
    go_wp2_with fail
    go_ret
    exact ⟨rfl, rfl⟩
  · have he : (Disk.St.left n most : Int) = n := by unfold Disk.St.left; omega
    rw [he]
    clear he
    go_enter Tryz.func96, Tryz.ntmps96
    go_wp2_with fail
    go_ret
    exact ⟨rfl, rfl⟩
end Go.Proofs.YtncpeogkccjmcaaGreatDoor
