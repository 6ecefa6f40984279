/- The walk of the law SpaceNil: nil spaces, plain ones, sizes. No conditions. -/
import Derived.Test.YtejjmjbkpodolaaWorks25
namespace Go.Proofs.Ytejjmjbkpodolaa
open Go.RowKit Go.ChangeShapes Go.WideShapes Go.Deep

/-- A space that is none: 'none' says so, here and later. -/
def NN (p : Value) (w : World) : Prop := ∀ W, Below w.heap.size w W → Calls Try.prog 27 #[p] W fun e w' => e = .returned (.bool true) ∧ W = w'
theorem NN.far {p : Value} {w w' : World} (h : NN p w) (hb : Below w.heap.size w w') : NN p w' := fun W hW => h W (hb.trans (hW.mono hb.size))
theorem nn_nil (w : World) : NN (.pointer none) w := by
  intro W hW
  go_enter Try.func27, Try.ntmps27
  go_wp2
  go_ret
  exact ⟨rfl, rfl⟩
theorem nn_zero (w : World) (g : Nat) (hg : w.heap[g]? = some (.cells #[.slice none 0 0, .slice none 0 0, .int .i64 0, .bool false] 48)) : NN (.pointer (some ⟨g, 0, none⟩)) w := by
  intro W hW
  have hgl : g < w.heap.size := (Array.getElem?_eq_some_iff.1 hg).1
  have h2 : W.cell? ⟨g, 3, none⟩ = some (.bool false) := (hW.cell (p := ⟨g, 3, none⟩) hgl).trans (cell_of_row w _ 3 _ _ (0, 0) hg)
  go_enter Try.func27, Try.ntmps27
  go_wp2
  go_ret
  exact ⟨rfl, rfl⟩
section
variable (p : Value) (w : World)
set_option maxRecDepth 100000 in
theorem put_nn (v : Value) (h : Hid (NN p w)) : Calls Try.prog 9 #[p, v] w fun e w' => e = .returned (.int .i64 1) ∧ w = w' := by
  go_enter Try.func9, Try.ntmps9
  go_wp2_with fail
  refine (h.out _ (Below.refl _ _)).mono ?_
  rintro e w1 ⟨rfl, rfl⟩
  go_wp2_with fail
  go_ret
  exact ⟨rfl, rfl⟩
set_option maxRecDepth 100000 in
theorem join_nn (v : Value) (h : Hid (NN p w)) : Calls Try.prog 22 #[p, v] w fun e w' => e = .returned (.int .i64 1) ∧ w = w' := by
  go_enter Try.func22, Try.ntmps22
  go_wp2_with fail
  refine (h.out _ (Below.refl _ _)).mono ?_
  rintro e w1 ⟨rfl, rfl⟩
  go_wp2_with fail
  go_ret
  exact ⟨rfl, rfl⟩
set_option maxRecDepth 100000 in
theorem do_nn (x : Int) (h : Hid (NN p w)) : Calls Try.prog 10 #[p, .int .u8 x] w fun e w' => e = .returned (.int .i64 1) ∧ w = w' := by
  go_enter Try.func10, Try.ntmps10
  go_wp2_with fail
  refine (h.out _ (Below.refl _ _)).mono ?_
  rintro e w1 ⟨rfl, rfl⟩
  go_wp2_with fail
  go_ret
  exact ⟨rfl, rfl⟩
set_option maxRecDepth 100000 in
theorem first_nn (h : Hid (NN p w)) : Calls Try.prog 24 #[p] w fun e w' => e = .returned (.tuple #[.slice none 0 0, .bool false]) ∧ w = w' := by
  go_enter Try.func24, Try.ntmps24
  go_wp2_with fail
  refine (h.out _ (Below.refl _ _)).mono ?_
  rintro e w1 ⟨rfl, rfl⟩
  go_wp2_with fail
  go_ret2
  exact ⟨rfl, rfl⟩
set_option maxRecDepth 100000 in
theorem cut_nn (h : Hid (NN p w)) : Calls Try.prog 23 #[p] w fun e w' => e = .returned (.bool false) ∧ w = w' := by
  go_enter Try.func23, Try.ntmps23
  go_wp2_with fail
  refine (h.out _ (Below.refl _ _)).mono ?_
  rintro e w1 ⟨rfl, rfl⟩
  go_wp2_with fail
  go_ret
  exact ⟨rfl, rfl⟩
set_option maxRecDepth 100000 in
theorem pattern_nn (h : Hid (NN p w)) : Calls Try.prog 12 #[p] w fun e w' => e = .returned (.slice none 0 0) ∧ w = w' := by
  go_enter Try.func12, Try.ntmps12
  go_wp2_with fail
  refine (h.out _ (Below.refl _ _)).mono ?_
  rintro e w1 ⟨rfl, rfl⟩
  go_wp2_with fail
  go_ret
  exact ⟨rfl, rfl⟩
set_option maxRecDepth 100000 in
theorem hold_nn (h : Hid (NN p w)) : Calls Try.prog 13 #[p] w fun e w' => e = .returned (.slice none 0 0) ∧ w = w' := by
  go_enter Try.func13, Try.ntmps13
  go_wp2_with fail
  refine (h.out _ (Below.refl _ _)).mono ?_
  rintro e w1 ⟨rfl, rfl⟩
  go_wp2_with fail
  go_ret
  exact ⟨rfl, rfl⟩
end
set_option maxRecDepth 100000 in
set_option maxHeartbeats 2000000 in
theorem nothing_any (p : Value) (w : World) (a b x : Int) (A : Option Addr) (n c : Nat) (h : Hid (NN p w)) :
    Calls Try.prog 20 #[p, .agg #[.int .i64 a, .int .i64 b, .int .u8 x, .slice A n c]] w fun e' w' => e' = .returned (.bool true) ∧ Below w.heap.size w w' := by
  go_enter Try.func20, Try.ntmps20
  obtain ⟨W0, hW0⟩ : ∃ W0, W0 = w.alloc (.cells #[.int .i64 a, .int .i64 b, .int .u8 x, .slice A n c] 43) := ⟨_, rfl⟩
  have hb0 : Below w.heap.size w W0 := by rw [hW0]; exact (Below.refl _ _).alloc (Nat.le_refl _) _
  have hc2 : W0.cell? ⟨w.heap.size, 2, none⟩ = some (.int .u8 x) := by rw [hW0]; exact cell_of_row _ _ 2 _ _ (0, 0) (heap_alloc_new _ _)
  have hc3 : W0.cell? ⟨w.heap.size, 3, none⟩ = some (.slice A n c) := by rw [hW0]; exact cell_of_row _ _ 3 _ _ (0, 0) (heap_alloc_new _ _)
  have HN := Lib.hid (h.out.far hb0)
  have HB0 := Lib.hid hb0
  have HW0 := Lib.hid hW0
  clear hb0 hW0
  go_wp2_with fail
  rw [← HW0.out]
  clear HW0
  refine (put_nn p W0 _ HN).mono ?_
  rintro e' w1 ⟨rfl, rfl⟩
  go_wp2_with fail
  refine (join_nn p W0 _ HN).mono ?_
  rintro e' w1 ⟨rfl, rfl⟩
  go_wp2_with fail
  refine (do_nn p W0 x HN).mono ?_
  rintro e' w1 ⟨rfl, rfl⟩
  go_wp2_with fail
  refine (do_nn p W0 120 HN).mono ?_
  rintro e' w1 ⟨rfl, rfl⟩
  go_wp2_with fail
  refine (first_nn p W0 HN).mono ?_
  rintro e' w1 ⟨rfl, rfl⟩
  go_wp2_with fail
  refine (cut_nn p W0 HN).mono ?_
  rintro e' w1 ⟨rfl, rfl⟩
  go_wp2_with fail
  refine (pattern_nn p W0 HN).mono ?_
  rintro e' w1 ⟨rfl, rfl⟩
  go_wp2_with fail
  refine (hold_nn p W0 HN).mono ?_
  rintro e' w1 ⟨rfl, rfl⟩
  go_wp2_with fail
  go_ret
  exact ⟨rfl, HB0.out⟩
set_option maxRecDepth 100000 in
set_option maxHeartbeats 2000000 in
theorem spaceNil_any (w : World) (most a b x : Int) (A : Option Addr) (n c : Nat) :
    Calls Try.prog 5 #[.int .i64 most, .agg #[.int .i64 a, .int .i64 b, .int .u8 x, .slice A n c]] w fun e' w' => e' = .returned (.bool true) ∧ Below w.heap.size w w' := by
  go_enter Try.func5, Try.ntmps5
  obtain ⟨W0, hW0⟩ : ∃ W0, W0 = w.alloc (.cells #[.int .i64 a, .int .i64 b, .int .u8 x, .slice A n c] 43) := ⟨_, rfl⟩
  have hb0 : Below w.heap.size w W0 := by rw [hW0]; exact (Below.refl _ _).alloc (Nat.le_refl _) _
  have hsz : w.heap.size < W0.heap.size := by rw [hW0]; simp
  have hh : W0.heap[w.heap.size]? = some (.cells #[.int .i64 a, .int .i64 b, .int .u8 x, .slice A n c] 43) := by rw [hW0]; exact heap_alloc_new _ _
  have HC : Hid (∀ W, Below W0.heap.size W0 W → W.heap[w.heap.size]? = some (.cells #[.int .i64 a, .int .i64 b, .int .u8 x, .slice A n c] 43)) := Lib.hid fun W hW => (hW.block _ hsz).trans hh
  have HB0 := Lib.hid hb0
  have HW0 := Lib.hid hW0
  clear hsz hb0 hW0 hh
  go_wp2_with fail
  rw [← HW0.out]
  clear HW0
  refine (nothing_any _ W0 a b x A n c (Lib.hid (nn_nil W0))).mono ?_
  rintro e' w1 ⟨rfl, hb1⟩
  have HB1 := Lib.hid hb1
  have h1 := HC.out _ (hb1.alloc hb1.size (.cells #[.slice none 0 0, .slice none 0 0, .int .i64 0, .bool false] 48))
  have k0 := cell_of_row _ w.heap.size 0 _ _ (0, 0) h1
  have k1 := cell_of_row _ w.heap.size 1 _ _ (0, 0) h1
  have k2 := cell_of_row _ w.heap.size 2 _ _ (0, 0) h1
  have k3 := cell_of_row _ w.heap.size 3 _ _ (0, 0) h1
  simp at k0 k1 k2 k3
  clear hb1 h1
  go_wp2_with fail
  refine (nothing_any _ _ a b x A n c (Lib.hid (nn_zero _ w1.heap.size (heap_alloc_new _ _)))).mono ?_
  rintro e' w2 ⟨rfl, hb2⟩
  have HB2 := Lib.hid (HB0.out.trans ((HB1.out.trans ((((Below.refl w1.heap.size w1).alloc (Nat.le_refl _) _).trans (hb2.mono (by simp))).mono HB1.out.size)).mono HB0.out.size))
  clear hb2 k0 k1 k2 k3 HB1 HC HB0
  go_wp2_with fail
  rcases Int.lt_or_le most 0 with h0 | h0
  · have d0 : decide (0 ≤ most) = false := decide_eq_false (by omega)
    refine (new_no w2 most (.inl h0)).mono ?_
    rintro e' w3 ⟨rfl, rfl⟩
    clear h0
    go_wp2_with fail
    refine (works25_any w2).mono ?_
    rintro e' w3 ⟨rfl, hb3⟩
    have HB3 := Lib.hid hb3
    go_wp2_with fail
    go_ret
    exact ⟨rfl, bfar HB2.out HB3.out⟩
  have d0 : decide (0 ≤ most) = true := decide_eq_true h0
  rcases Int.lt_or_le 1048576 most with h2 | h2
  · have d1 : decide (most ≤ 1048576) = false := decide_eq_false (by omega)
    refine (new_no w2 most (.inr h2)).mono ?_
    rintro e' w3 ⟨rfl, rfl⟩
    clear h0 h2
    go_wp2_with fail
    refine (works25_any w2).mono ?_
    rintro e' w3 ⟨rfl, hb3⟩
    have HB3 := Lib.hid hb3
    go_wp2_with fail
    go_ret
    exact ⟨rfl, bfar HB2.out HB3.out⟩
  · have d1 : decide (most ≤ 1048576) = true := decide_eq_true h2
    obtain ⟨m, rfl⟩ := Int.eq_ofNat_of_zero_le h0
    refine (xnew w2 m (by omega)).mono ?_
    rintro e' w3 ⟨g, rfl, hg, HS, HB3⟩
    go_wp2_with fail
    refine (works25_any w3).mono ?_
    rintro e' w4 ⟨rfl, hb4⟩
    have HB4 := Lib.hid hb4
    clear hb4
    go_wp2_with fail
    go_ret
    exact ⟨rfl, bfar HB2.out (bfar HB3.out HB4.out)⟩
end Go.Proofs.Ytejjmjbkpodolaa
