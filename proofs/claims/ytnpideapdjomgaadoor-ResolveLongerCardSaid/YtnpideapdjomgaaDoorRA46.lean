/- Texts that lead to the claim, one behind the other: A list of bytes of one's own: the walk of galleyref00.CopyBytes. Condition: at most 2^47 bytes. -/
import Derived.Test.YtnpideapdjomgaaDoorProg
import Derived.Test.YtnpideapdjomgaaDoorRA2
import Derived.WalkKit
import Derived.WalkSpells
import Derived.Lib.Hide
namespace Go.Proofs.YtnpideapdjomgaaDoor
open Go.RowKit

set_option maxHeartbeats 400000 in
theorem copyBytes (A : Option Addr) (n c : Nat) (l : List UInt8) (w : World) (S : Blocks) (hn : n = l.length) (hl : SliceAt Rep.byte w S A c l) (hb : n ≤ 140737488355328) :
    Calls Tryd.prog 42 #[.slice A n c] w fun e w' => ∃ v, e = .returned v ∧ Own Rep.byte 5 w' w.heap.size nob v l ∧ Below w.heap.size w w' := by
  have HN := Lib.hid hn
  have HL := Lib.hid hl
  clear hn hl
  go_enter Tryd.func42, Tryd.ntmps42
  go_wp2_with (at_builtin; refine wpList_append_bytes _ rfl (.tmp 4) (.tmp 5) 39 rfl w.heap.size 5 stBytes _ [] rfl (Own.nil _ _ _ _) _ _ _ _ _ rfl HL.out HN.out.symm (by simp; omega) (Nat.le_refl _) ?_; intro v1 w1 hown1 hg1 hat1)
  go_ret
  exact ⟨_, rfl, by simpa using hown1, below_own (Below.refl _ _) (Own.nil Rep.byte 5 _ _) hg1 (Nat.le_refl _)⟩
end Go.Proofs.YtnpideapdjomgaaDoor
