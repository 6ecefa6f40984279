/- Small contracts for laws over rows of bytes: EqBytes, CopyBytes, Long. Condition: room. -/
import Derived.Test.YtfmaaempcpjpkaaDoorProg
import Derived.Test.YtfmaaempcpjpkaaDoorEqBytes
import Derived.Test.YtfmaaempcpjpkaaDoorCopyBytes
import Derived.Test.YtfmaaempcpjpkaaDoorRws
namespace Go.Proofs.YtfmaaempcpjpkaaDoor
open Go.RowKit

theorem eqN (A B : Option Addr) (n c m d : Nat) (xs ys : List UInt8) (w : World) (r : Bool) (hn : n = xs.length) (hm : m = ys.length) (hr : decide (xs = ys) = r) (S S' : Blocks) (hx : SliceAt Rep.byte w S A c xs) (hy : SliceAt Rep.byte w S' B d ys) :
    Calls Tryd.prog 12 #[.slice A n c, .slice B m d] w fun e w' => e = .returned (.bool r) ∧ Hid (Below w.heap.size w w') := by
  subst hn
  subst hm
  refine (eqBytes A B c d xs ys w S S' hx hy).mono ?_
  rintro e w' ⟨rfl, k, rfl⟩
  exact ⟨by rw [hr], Lib.hid ⟨rfl, rfl, rfl, Nat.le_refl _, fun _ _ => rfl⟩⟩
theorem cpB (A : Option Addr) (n c : Nat) (l : List UInt8) (w : World) (S : Blocks) (hn : n = l.length) (hl : SliceAt Rep.byte w S A c l) (hb : n ≤ 140737488355328) :
    Calls Tryd.prog 21 #[.slice A n c] w fun e w' => ∃ A' n' c', e = .returned (.slice A' n' c') ∧ Hid (Own Rep.byte 5 w' w.heap.size nob (.slice A' n' c') l) ∧ Hid (n' = l.length) ∧ n' ≤ c' ∧ c' ≤ 9223372036854775807 ∧ Hid (Below w.heap.size w w') := by
  refine (copyBytes A n c l w S hn hl hb).mono ?_
  rintro e w' ⟨v, rfl, ho, hb⟩
  obtain ⟨A1, n1, c1, rfl, hn1, h1, h2⟩ := ho.form
  exact ⟨A1, n1, c1, rfl, Lib.hid ho, hn1, h1, h2, Lib.hid hb⟩
set_option maxRecDepth 100000 in
theorem longY (n : Nat) (w : World) (h : 2147483647 < n) : Calls Tryd.prog 9 #[.int .i64 n] w fun e w' => e = .returned (.bool true) ∧ w = w' := by
  have h' : (2147483647 : Int) < n := by omega
  go_enter Tryd.func9, Tryd.ntmps9
  go_wp2
  go_ret
  exact ⟨by simp, rfl⟩
set_option maxRecDepth 100000 in
theorem longN (n : Nat) (w : World) (h : n ≤ 2147483647) : Calls Tryd.prog 9 #[.int .i64 n] w fun e w' => e = .returned (.bool false) ∧ w = w' := by
  have h' : decide ((2147483647 : Int) < n) = false := decide_eq_false (by omega)
  go_enter Tryd.func9, Tryd.ntmps9
  go_wp2
  go_ret
  exact ⟨by simp, rfl⟩
end Go.Proofs.YtfmaaempcpjpkaaDoor
