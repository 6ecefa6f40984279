/- Small contracts for laws over rows of bytes: the calls' answers as slices of the call's own. Condition: room. -/
import Derived.Test.YtgbjcpnlllaeeaaDoorProg
import Derived.Test.YtgbjcpnlllaeeaaDoorRefFold
import Derived.Test.YtgbjcpnlllaeeaaDoorWideBytes
import Derived.Test.YtgbjcpnlllaeeaaDoorCopyBytes
import Derived.Test.YtgbjcpnlllaeeaaDoorBag
import Derived.Test.YtgbjcpnlllaeeaaDoorRws
namespace Go.Proofs.YtgbjcpnlllaeeaaDoor
open Go.RowKit

theorem eqN (A B : Option Addr) (n c m d : Nat) (xs ys : List UInt8) (w : World) (r : Bool) (hn : n = xs.length) (hm : m = ys.length) (hr : decide (xs = ys) = r) (S S' : Blocks) (hx : SliceAt Rep.byte w S A c xs) (hy : SliceAt Rep.byte w S' B d ys) :
    Calls Tryd.prog 11 #[.slice A n c, .slice B m d] w fun e w' => e = .returned (.bool r) ∧ Below w.heap.size w w' := by
  subst hn
  subst hm
  refine (eqBytes A B c d xs ys w S S' hx hy).mono ?_
  rintro e w' ⟨rfl, k, rfl⟩
  exact ⟨by rw [hr], ⟨rfl, rfl, rfl, Nat.le_refl _, fun _ _ => rfl⟩⟩
theorem spareB (g n base : Nat) (l : List UInt8) (w : World) (hn : n = l.length) (hown : Own Rep.byte 5 w base nob (.slice (some ⟨g, 0, none⟩) (n + 64) (n + 64)) (l ++ marksW n)) (hb : n ≤ 1099511627712) :
    Calls Tryd.prog 15 #[.slice (some ⟨g, 0, none⟩) n (n + 64)] w fun e w' => e = .returned (.bool true) ∧ Below w.heap.size w w' := by
  refine (spareBytes_any g n base l w hn hown hb).mono ?_
  rintro e w' ⟨rfl, k, rfl⟩
  exact ⟨rfl, ⟨rfl, rfl, rfl, Nat.le_refl _, fun _ _ => rfl⟩⟩
theorem fRow (A : Option Addr) (n ca W : Nat) (width : Int) (b : List UInt8) (w : World) (hn : n = b.length) (hb : SliceAt Rep.byte w (under w.heap.size) A ca b) (hL : Hid (Ltrs w)) (h0 : 0 < w.heap.size) (hsize : n ≤ 4294967296) (hW : (W : Int) = max width 4) :
    Calls Tryd.prog 10 #[.slice A n ca, .int .i64 width] w fun e w' => ∃ A' n' c', e = .returned (.slice A' n' c') ∧ Hid (Own Rep.byte 5 w' w.heap.size nob (.slice A' n' c') (Fold.Row W b)) ∧ n' ≤ c' ∧ c' ≤ 9223372036854775807 ∧ Hid (Below w.heap.size w w') := by
  refine (row_any A n ca W width b w (Lib.hid hn) hb hL h0 hsize hW).mono ?_
  rintro e w' ⟨v, rfl, ho, hb⟩
  obtain ⟨A1, n1, c1, rfl, -, h1, h2⟩ := ho.form
  exact ⟨A1, n1, c1, rfl, Lib.hid ho, h1, h2, Lib.hid hb⟩
theorem rRow (A : Option Addr) (n ca W : Nat) (width : Int) (b : List UInt8) (w : World) (hn : n = b.length) (hb : SliceAt Rep.byte w (under w.heap.size) A ca b) (hsize : n ≤ 4294967296) (hW : (W : Int) = max width 4) :
    Calls Tryd.prog 14 #[.slice A n ca, .int .i64 width] w fun e w' => ∃ A' n' c', e = .returned (.slice A' n' c') ∧ Hid (Own Rep.byte 5 w' w.heap.size nob (.slice A' n' c') (Fold.Row W b)) ∧ n' ≤ c' ∧ c' ≤ 9223372036854775807 ∧ Hid (Below w.heap.size w w') := by
  refine (refRow_any A n ca W width b w (Lib.hid hn) hb hsize hW).mono ?_
  rintro e w' ⟨v, rfl, ho, hb⟩
  obtain ⟨A1, n1, c1, rfl, -, h1, h2⟩ := ho.form
  exact ⟨A1, n1, c1, rfl, Lib.hid ho, h1, h2, Lib.hid hb⟩
theorem cpB (A : Option Addr) (n c : Nat) (l : List UInt8) (w : World) (S : Blocks) (hn : n = l.length) (hl : SliceAt Rep.byte w S A c l) (hb : n ≤ 140737488355328) :
    Calls Tryd.prog 16 #[.slice A n c] w fun e w' => ∃ A' n' c', e = .returned (.slice A' n' c') ∧ Hid (Own Rep.byte 5 w' w.heap.size nob (.slice A' n' c') l) ∧ n' ≤ c' ∧ c' ≤ 9223372036854775807 ∧ Hid (Below w.heap.size w w') := by
  refine (copyBytes A n c l w S hn hl hb).mono ?_
  rintro e w' ⟨v, rfl, ho, hb⟩
  obtain ⟨A1, n1, c1, rfl, -, h1, h2⟩ := ho.form
  exact ⟨A1, n1, c1, rfl, Lib.hid ho, h1, h2, Lib.hid hb⟩
end Go.Proofs.YtgbjcpnlllaeeaaDoor
