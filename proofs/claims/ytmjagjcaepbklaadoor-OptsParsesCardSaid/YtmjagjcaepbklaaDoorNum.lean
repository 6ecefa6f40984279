/- The mark of a place: the walk of galleyref00.num. Condition: room. -/
import Derived.Test.YtmjagjcaepbklaaDoorProg
import Derived.WalkKit
import Derived.Deep.QuietTactic
namespace Go.Proofs.YtmjagjcaepbklaaDoor
open Go.RowKit

theorem num_any (a b : Nat) (w : World) (ha : a ≤ 1048576) (hb : b ≤ 2199023255552) : Calls Tryd.prog 58 #[.int .i64 a, .int .i64 b] w fun e w' => e = .returned (.int .i64 (1048576 * (a : Int) + b + 1)) ∧ w = w' := by
  go_enter Tryd.func58, Tryd.ntmps58
  go_wp2
  go_ret
  exact ⟨rfl, rfl⟩
theorem num9 (b : Nat) (w : World) (hb : b ≤ 1099511627776) : Calls Tryd.prog 58 #[.int .i64 9, .int .i64 b] w fun e w' => e = .returned (.int .i64 (9437184 + b + 1)) ∧ w = w' := by
  refine (num_any 9 b w (by omega) (by omega)).mono ?_
  rintro e w' ⟨rfl, rfl⟩
  refine ⟨?_, rfl⟩
  congr 2
theorem quiet_left {P : Program} {f : FuncId} {args : Array Value} {w : World} {n : Nat} {v : Value}
    (h : Calls P f args (w.drewN n) fun e w' => e = .returned v ∧ w.drewN n = w') : Calls P f args (w.drewN n) fun e w'' => e = .returned v ∧ ∃ m, w'' = w.drewN m :=
  h.mono fun _ _ ⟨he, hm⟩ => ⟨he, n, hm.symm⟩
end Go.Proofs.YtmjagjcaepbklaaDoor
