/- Spaces that are none: what the program's calls answer there. No conditions. -/
import Derived.Test.YtejjmjbkpodolaaDoorWorks25
namespace Go.Proofs.YtejjmjbkpodolaaDoor
open Go.RowKit Go.ChangeShapes Go.WideShapes Go.Deep

/-- A space that is none: 'none' says so, here and later. -/
def NN (p : Value) (w : World) : Prop := ∀ W, Below w.heap.size w W → Calls Tryd.prog 26 #[p] W fun e w' => e = .returned (.bool true) ∧ W = w'
theorem NN.far {p : Value} {w w' : World} (h : NN p w) (hb : Below w.heap.size w w') : NN p w' := fun W hW => h W (hb.trans (hW.mono hb.size))
theorem nn_nil (w : World) : NN (.pointer none) w := by
  intro W hW
  go_enter Tryd.func26, Tryd.ntmps26
  go_wp2
  go_ret
  exact ⟨rfl, rfl⟩
theorem nn_zero (w : World) (g : Nat) (hg : w.heap[g]? = some (.cells #[.slice none 0 0, .slice none 0 0, .int .i64 0, .bool false] 68)) : NN (.pointer (some ⟨g, 0, none⟩)) w := by
  intro W hW
  have hgl : g < w.heap.size := (Array.getElem?_eq_some_iff.1 hg).1
  have h2 : W.cell? ⟨g, 3, none⟩ = some (.bool false) := (hW.cell (p := ⟨g, 3, none⟩) hgl).trans (cell_of_row w _ 3 _ _ (0, 0) hg)
  go_enter Tryd.func26, Tryd.ntmps26
  go_wp2
  go_ret
  exact ⟨rfl, rfl⟩
section
variable (p : Value) (w : World)
set_option maxRecDepth 100000 in
theorem put_nn (v : Value) (h : Hid (NN p w)) : Calls Tryd.prog 16 #[p, v] w fun e w' => e = .returned (.int .i64 1) ∧ w = w' := by
  go_enter Tryd.func16, Tryd.ntmps16
  go_wp2_with fail
  refine (h.out _ (Below.refl _ _)).mono ?_
  rintro e w1 ⟨rfl, rfl⟩
  go_wp2_with fail
  go_ret
  exact ⟨rfl, rfl⟩
set_option maxRecDepth 100000 in
theorem join_nn (v : Value) (h : Hid (NN p w)) : Calls Tryd.prog 21 #[p, v] w fun e w' => e = .returned (.int .i64 1) ∧ w = w' := by
  go_enter Tryd.func21, Tryd.ntmps21
  go_wp2_with fail
  refine (h.out _ (Below.refl _ _)).mono ?_
  rintro e w1 ⟨rfl, rfl⟩
  go_wp2_with fail
  go_ret
  exact ⟨rfl, rfl⟩
set_option maxRecDepth 100000 in
theorem do_nn (x : Int) (h : Hid (NN p w)) : Calls Tryd.prog 17 #[p, .int .u8 x] w fun e w' => e = .returned (.int .i64 1) ∧ w = w' := by
  go_enter Tryd.func17, Tryd.ntmps17
  go_wp2_with fail
  refine (h.out _ (Below.refl _ _)).mono ?_
  rintro e w1 ⟨rfl, rfl⟩
  go_wp2_with fail
  go_ret
  exact ⟨rfl, rfl⟩
set_option maxRecDepth 100000 in
theorem first_nn (h : Hid (NN p w)) : Calls Tryd.prog 11 #[p] w fun e w' => e = .returned (.tuple #[.slice none 0 0, .bool false]) ∧ w = w' := by
  go_enter Tryd.func11, Tryd.ntmps11
  go_wp2_with fail
  refine (h.out _ (Below.refl _ _)).mono ?_
  rintro e w1 ⟨rfl, rfl⟩
  go_wp2_with fail
  go_ret2
  exact ⟨rfl, rfl⟩
set_option maxRecDepth 100000 in
theorem cut_nn (h : Hid (NN p w)) : Calls Tryd.prog 18 #[p] w fun e w' => e = .returned (.bool false) ∧ w = w' := by
  go_enter Tryd.func18, Tryd.ntmps18
  go_wp2_with fail
  refine (h.out _ (Below.refl _ _)).mono ?_
  rintro e w1 ⟨rfl, rfl⟩
  go_wp2_with fail
  go_ret
  exact ⟨rfl, rfl⟩
set_option maxRecDepth 100000 in
theorem pattern_nn (h : Hid (NN p w)) : Calls Tryd.prog 9 #[p] w fun e w' => e = .returned (.slice none 0 0) ∧ w = w' := by
  go_enter Tryd.func9, Tryd.ntmps9
  go_wp2_with fail
  refine (h.out _ (Below.refl _ _)).mono ?_
  rintro e w1 ⟨rfl, rfl⟩
  go_wp2_with fail
  go_ret
  exact ⟨rfl, rfl⟩
set_option maxRecDepth 100000 in
theorem hold_nn (h : Hid (NN p w)) : Calls Tryd.prog 10 #[p] w fun e w' => e = .returned (.slice none 0 0) ∧ w = w' := by
  go_enter Tryd.func10, Tryd.ntmps10
  go_wp2_with fail
  refine (h.out _ (Below.refl _ _)).mono ?_
  rintro e w1 ⟨rfl, rfl⟩
  go_wp2_with fail
  go_ret
  exact ⟨rfl, rfl⟩
end
end Go.Proofs.YtejjmjbkpodolaaDoor
