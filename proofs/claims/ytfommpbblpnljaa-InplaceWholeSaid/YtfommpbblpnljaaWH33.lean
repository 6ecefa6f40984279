/- Texts that lead to the claim, one behind the other: Disks that are none: what Read answers there. No conditions. -/
import Derived.Test.YtfommpbblpnljaaWH0
import Derived.Test.YtfommpbblpnljaaWH2
import Derived.Test.YtfommpbblpnljaaProg
import Derived.WalkKit
import Derived.WalkSpells
import Derived.WalkMore
namespace Go.Proofs.Ytfommpbblpnljaa
open Go.RowKit Go.ChangeShapes Go.WideShapes Go.Deep

/-- A disk that is none: 'ours' says so, here and later. -/
def ND (p : Value) (w : World) : Prop := ∀ W, Below w.heap.size w W → Calls Try.prog 47 #[p] W fun e w' => e = .returned (.bool false) ∧ W = w'
theorem ND.far {p : Value} {w w' : World} (h : ND p w) (hb : Below w.heap.size w w') : ND p w' := fun W hW => h W (hb.trans (hW.mono hb.size))
theorem nd_nil (w : World) : ND (.pointer none) w := by
  intro W hW
  go_enter Try.func47, Try.ntmps47
  go_wp2
  go_ret
  exact ⟨rfl, rfl⟩
theorem nd_zero (w : World) (g : Nat) (hg : w.heap[g]? = some (.cells #[.map none, .map none, .slice none 0 0, .bool false, .bool false, .int .i64 0, .slice none 0 0, .int .i64 0, .int .i64 0] 29)) : ND (.pointer (some ⟨g, 0, none⟩)) w := by
  intro W hW
  have hgl : g < w.heap.size := (Array.getElem?_eq_some_iff.1 hg).1
  have h2 : W.cell? ⟨g, 3, none⟩ = some (.bool false) := (hW.cell (p := ⟨g, 3, none⟩) hgl).trans (cell_of_row w _ 3 _ _ (0, 0) hg)
  go_enter Try.func47, Try.ntmps47
  go_wp2
  go_ret
  exact ⟨rfl, rfl⟩
section
variable (p : Value) (w : World)
set_option maxRecDepth 100000 in
theorem looked_nd (s v : Value) (h : Hid (ND p w)) : Calls Try.prog 61 #[p, s, v] w fun e w' => e = .returned (.tuple #[.pointer none, .int .i64 1]) ∧ w = w' := by
  go_enter Try.func61, Try.ntmps61
  go_wp2_with fail
  refine (h.out _ (Below.refl _ _)).mono ?_
  rintro e w1 ⟨rfl, rfl⟩
  go_wp2_with fail
  go_ret2
  exact ⟨rfl, rfl⟩
set_option maxRecDepth 100000 in
theorem read_nd (s : ByteArray) (h : Hid (ND p w)) : Calls Try.prog 24 #[p, .string s] w fun e w' => e = .returned (.tuple #[.slice none 0 0, .int .i64 1]) ∧ Below w.heap.size w w' := by
  go_enter Try.func24, Try.ntmps24
  go_wp2_with fail
  refine (looked_nd p _ _ _ (Lib.hid (h.out.far (Below.alloc (Below.refl _ _) (Nat.le_refl _) _)))).mono ?_
  rintro e w1 ⟨rfl, rfl⟩
  go_wp2_with fail
  go_ret2
  exact ⟨rfl, Below.alloc (Below.refl _ _) (Nat.le_refl _) _⟩
end
end Go.Proofs.Ytfommpbblpnljaa
