/- The walk of the law WordsNil: nil words, plain ones. No conditions. -/
import Derived.Test.YtooempbgpfhdcaaDoorWorks19
namespace Go.Proofs.YtooempbgpfhdcaaDoor
open Go.RowKit Go.ChangeShapes Go.WideShapes Go.Deep

/-- Words that are none: 'none' says so, here and later. -/
def NN (p : Value) (w : World) : Prop := ∀ W, Below w.heap.size w W → Calls Tryd.prog 16 #[p] W fun e w' => e = .returned (.bool true) ∧ W = w'
theorem NN.far {p : Value} {w w' : World} (h : NN p w) (hb : Below w.heap.size w w') : NN p w' := fun W hW => h W (hb.trans (hW.mono hb.size))
theorem nn_nil (w : World) : NN (.pointer none) w := by
  intro W hW
  go_enter Tryd.func16, Tryd.ntmps16
  go_wp2
  go_ret
  exact ⟨rfl, rfl⟩
theorem nn_zero (w : World) (g : Nat) (hg : w.heap[g]? = some (.cells #[.slice none 0 0, .int .i64 0, .bool false] 37)) : NN (.pointer (some ⟨g, 0, none⟩)) w := by
  intro W hW
  have hgl : g < w.heap.size := (Array.getElem?_eq_some_iff.1 hg).1
  have h2 : W.cell? ⟨g, 2, none⟩ = some (.bool false) := (hW.cell (p := ⟨g, 2, none⟩) hgl).trans (cell_of_row w _ 2 _ _ (0, 0) hg)
  go_enter Tryd.func16, Tryd.ntmps16
  go_wp2
  go_ret
  exact ⟨rfl, rfl⟩
section
variable (p : Value) (w : World)
set_option maxRecDepth 100000 in
theorem peek_nn (h : Hid (NN p w)) : Calls Tryd.prog 18 #[p] w fun e w' => e = .returned (.tuple #[.int .u8 0, .bool false]) ∧ Below w.heap.size w w' := by
  have HQ : Hid (∀ m, Calls Tryd.prog 16 #[p] (w.drewN m) fun e w' => e = .returned (.bool true) ∧ w.drewN m = w') := Lib.hid fun m => h.out _ (below_drewN w m)
  go_enter Tryd.func18, Tryd.ntmps18
  go_wp2_with fail
  go_quiet ((go_at_call 16; exact quietL (HQ.out _)))
  generalize hW : w.drewN _ = W
  have HB : Hid (Below w.heap.size w W) := Lib.hid (hW ▸ below_drewN w _)
  clear hW
  go_wp2_with fail
  go_ret2
  exact ⟨rfl, HB.out⟩
set_option maxRecDepth 100000 in
theorem take_nn (h : Hid (NN p w)) : Calls Tryd.prog 12 #[p] w fun e w' => e = .returned (.tuple #[.int .u8 0, .bool false]) ∧ Below w.heap.size w w' := by
  go_enter Tryd.func12, Tryd.ntmps12
  go_wp2_with fail
  refine (peek_nn p w h).mono ?_
  rintro e w1 ⟨rfl, hb⟩
  have HB := Lib.hid hb
  clear hb
  go_wp2_with fail
  go_ret2
  exact ⟨rfl, HB.out⟩
set_option maxRecDepth 100000 in
theorem number_nn (m : Int) (h : Hid (NN p w)) : Calls Tryd.prog 11 #[p, .int .i64 m] w fun e w' => e = .returned (.tuple #[.int .i64 0, .int .i64 1]) ∧ Below w.heap.size w w' := by
  go_enter Tryd.func11, Tryd.ntmps11
  go_wp2_with fail
  refine (h.out _ ((Below.refl _ _).alloc (Nat.le_refl _) _)).mono ?_
  rintro e w1 ⟨rfl, rfl⟩
  go_wp2_with fail
  go_ret2
  exact ⟨rfl, (Below.refl _ _).alloc (Nat.le_refl _) _⟩
set_option maxRecDepth 100000 in
theorem part_nn (d : Int) (b : Bool) (h : Hid (NN p w)) : Calls Tryd.prog 13 #[p, .int .u8 d, .bool b] w fun e w' => e = .returned (.tuple #[.slice none 0 0, .int .i64 1]) ∧ w = w' := by
  go_enter Tryd.func13, Tryd.ntmps13
  go_wp2_with fail
  refine (h.out _ (Below.refl _ _)).mono ?_
  rintro e w1 ⟨rfl, rfl⟩
  go_wp2_with fail
  go_ret2
  exact ⟨rfl, rfl⟩
set_option maxRecDepth 100000 in
theorem text_nn (h : Hid (NN p w)) : Calls Tryd.prog 7 #[p] w fun e w' => e = .returned (.tuple #[.slice none 0 0, .int .i64 1]) ∧ w = w' := by
  go_enter Tryd.func7, Tryd.ntmps7
  go_wp2_with fail
  refine (h.out _ (Below.refl _ _)).mono ?_
  rintro e w1 ⟨rfl, rfl⟩
  go_wp2_with fail
  go_ret2
  exact ⟨rfl, rfl⟩
set_option maxRecDepth 100000 in
theorem end_nn (h : Hid (NN p w)) : Calls Tryd.prog 14 #[p] w fun e w' => e = .returned (.int .i64 1) ∧ w = w' := by
  go_enter Tryd.func14, Tryd.ntmps14
  go_wp2_with fail
  refine (h.out _ (Below.refl _ _)).mono ?_
  rintro e w1 ⟨rfl, rfl⟩
  go_wp2_with fail
  go_ret
  exact ⟨rfl, rfl⟩
set_option maxRecDepth 100000 in
theorem skip_nn (s : ByteArray) (h : Hid (NN p w)) : Calls Tryd.prog 19 #[p, .string s] w fun e w' => e = .returned (.int .i64 0) ∧ Below w.heap.size w w' := by
  go_enter Tryd.func19, Tryd.ntmps19
  go_wp2_with fail
  refine (h.out _ ((Below.refl _ _).alloc (Nat.le_refl _) _)).mono ?_
  rintro e w1 ⟨rfl, rfl⟩
  go_wp2_with fail
  go_ret
  exact ⟨rfl, (Below.refl _ _).alloc (Nat.le_refl _) _⟩
set_option maxRecDepth 100000 in
theorem row_nn (h : Hid (NN p w)) : Calls Tryd.prog 20 #[p] w fun e w' => e = .returned (.slice none 0 0) ∧ w = w' := by
  go_enter Tryd.func20, Tryd.ntmps20
  go_wp2_with fail
  refine (h.out _ (Below.refl _ _)).mono ?_
  rintro e w1 ⟨rfl, rfl⟩
  go_wp2_with fail
  go_ret
  exact ⟨rfl, rfl⟩
set_option maxRecDepth 100000 in
theorem at_nn (h : Hid (NN p w)) : Calls Tryd.prog 9 #[p] w fun e w' => e = .returned (.int .i64 0) ∧ w = w' := by
  go_enter Tryd.func9, Tryd.ntmps9
  go_wp2_with fail
  refine (h.out _ (Below.refl _ _)).mono ?_
  rintro e w1 ⟨rfl, rfl⟩
  go_wp2_with fail
  go_ret
  exact ⟨rfl, rfl⟩
end
set_option maxRecDepth 100000 in
set_option maxHeartbeats 2000000 in
theorem nothing_any (p : Value) (w : World) (a b m d : Int) (s : ByteArray) (e : Bool) (h : Hid (NN p w)) :
    Calls Tryd.prog 10 #[p, .agg #[.int .i64 a, .int .i64 b, .string s, .int .i64 m, .int .u8 d, .bool e]] w fun e' w' => e' = .returned (.bool true) ∧ Below w.heap.size w w' := by
  go_enter Tryd.func10, Tryd.ntmps10
  obtain ⟨W0, hW0⟩ : ∃ W0, W0 = w.alloc (.cells #[.int .i64 a, .int .i64 b, .string s, .int .i64 m, .int .u8 d, .bool e] 34) := ⟨_, rfl⟩
  have hb0 : Below w.heap.size w W0 := by rw [hW0]; exact (Below.refl _ _).alloc (Nat.le_refl _) _
  have hc2 : W0.cell? ⟨w.heap.size, 2, none⟩ = some (.string s) := by rw [hW0]; exact cell_of_row _ _ 2 _ _ (0, 0) (heap_alloc_new _ _)
  have hc3 : W0.cell? ⟨w.heap.size, 3, none⟩ = some (.int .i64 m) := by rw [hW0]; exact cell_of_row _ _ 3 _ _ (0, 0) (heap_alloc_new _ _)
  have hc4 : W0.cell? ⟨w.heap.size, 4, none⟩ = some (.int .u8 d) := by rw [hW0]; exact cell_of_row _ _ 4 _ _ (0, 0) (heap_alloc_new _ _)
  have hc5 : W0.cell? ⟨w.heap.size, 5, none⟩ = some (.bool e) := by rw [hW0]; exact cell_of_row _ _ 5 _ _ (0, 0) (heap_alloc_new _ _)
  have hsz : w.heap.size < W0.heap.size := by rw [hW0]; simp
  have HC : Hid (∀ W, Below W0.heap.size W0 W → W.cell? ⟨w.heap.size, 2, none⟩ = some (.string s) ∧ W.cell? ⟨w.heap.size, 3, none⟩ = some (.int .i64 m) ∧ W.cell? ⟨w.heap.size, 4, none⟩ = some (.int .u8 d) ∧ W.cell? ⟨w.heap.size, 5, none⟩ = some (.bool e)) := Lib.hid fun W hW =>
    ⟨(hW.cell (p := ⟨_, _, none⟩) hsz).trans hc2, (hW.cell (p := ⟨_, _, none⟩) hsz).trans hc3, (hW.cell (p := ⟨_, _, none⟩) hsz).trans hc4, (hW.cell (p := ⟨_, _, none⟩) hsz).trans hc5⟩
  have HN := Lib.hid (h.out.far hb0)
  have HB0 := Lib.hid hb0
  have HW0 := Lib.hid hW0
  clear hc2 hc3 hc4 hc5 hsz hb0 hW0
  go_wp2_with fail
  rw [← HW0.out]
  clear HW0
  refine (peek_nn p W0 HN).mono ?_
  rintro e' w1 ⟨rfl, hb1⟩
  have HB1 := Lib.hid hb1
  have HN1 := Lib.hid (HN.out.far hb1)
  clear hb1
  go_wp2_with fail
  refine (take_nn p w1 HN1).mono ?_
  rintro e' w2 ⟨rfl, hb2⟩
  have HB2 := Lib.hid (HB1.out.trans (hb2.mono HB1.out.size))
  have HN2 := Lib.hid (HN1.out.far hb2)
  obtain ⟨-, hc3, -, -⟩ := HC.out w2 HB2.out
  clear hb2 HB1 HN1
  go_wp2_with fail
  refine (number_nn p w2 m HN2).mono ?_
  rintro e' w3 ⟨rfl, hb3⟩
  have HB3 := Lib.hid (HB2.out.trans (hb3.mono HB2.out.size))
  have HN3 := Lib.hid (HN2.out.far hb3)
  clear hc3
  obtain ⟨hc2, -, hc4, hc5⟩ := HC.out w3 HB3.out
  clear hb3 HB2 HN2
  go_wp2_with fail
  refine (part_nn p w3 d e HN3).mono ?_
  rintro e' w4 ⟨rfl, rfl⟩
  go_wp2_with fail
  refine (text_nn p w3 HN3).mono ?_
  rintro e' w4 ⟨rfl, rfl⟩
  go_wp2_with fail
  refine (end_nn p w3 HN3).mono ?_
  rintro e' w4 ⟨rfl, rfl⟩
  go_wp2_with fail
  refine (skip_nn p w3 s HN3).mono ?_
  rintro e' w4 ⟨rfl, hb4⟩
  have HB4 := Lib.hid (HB3.out.trans (hb4.mono HB3.out.size))
  have HN4 := Lib.hid (HN3.out.far hb4)
  clear hb4 HB3 HN3 hc2 hc4 hc5
  go_wp2_with fail
  refine (row_nn p w4 HN4).mono ?_
  rintro e' w5 ⟨rfl, rfl⟩
  go_wp2_with fail
  refine (at_nn p w4 HN4).mono ?_
  rintro e' w5 ⟨rfl, rfl⟩
  go_wp2_with fail
  go_ret
  exact ⟨rfl, HB0.out.trans (HB4.out.mono HB0.out.size)⟩
set_option maxRecDepth 100000 in
set_option maxHeartbeats 2000000 in
theorem wordsNil_any (w : World) (a b m d : Int) (s : ByteArray) (e : Bool) :
    Calls Tryd.prog 4 #[.agg #[.int .i64 a, .int .i64 b, .string s, .int .i64 m, .int .u8 d, .bool e]] w fun e' w' => e' = .returned (.bool true) ∧ Below w.heap.size w w' := by
  go_enter Tryd.func4, Tryd.ntmps4
  obtain ⟨W0, hW0⟩ : ∃ W0, W0 = w.alloc (.cells #[.int .i64 a, .int .i64 b, .string s, .int .i64 m, .int .u8 d, .bool e] 34) := ⟨_, rfl⟩
  have hb0 : Below w.heap.size w W0 := by rw [hW0]; exact (Below.refl _ _).alloc (Nat.le_refl _) _
  have hsz : w.heap.size < W0.heap.size := by rw [hW0]; simp
  have hh : W0.heap[w.heap.size]? = some (.cells #[.int .i64 a, .int .i64 b, .string s, .int .i64 m, .int .u8 d, .bool e] 34) := by rw [hW0]; exact heap_alloc_new _ _
  have HC : Hid (∀ W, Below W0.heap.size W0 W → W.heap[w.heap.size]? = some (.cells #[.int .i64 a, .int .i64 b, .string s, .int .i64 m, .int .u8 d, .bool e] 34)) := Lib.hid fun W hW => (hW.block _ hsz).trans hh
  have HB0 := Lib.hid hb0
  have HW0 := Lib.hid hW0
  clear hsz hb0 hW0 hh
  go_wp2_with fail
  rw [← HW0.out]
  clear HW0
  refine (nothing_any _ W0 a b m d s e (Lib.hid (nn_nil W0))).mono ?_
  rintro e' w1 ⟨rfl, hb1⟩
  have HB1 := Lib.hid hb1
  have h1 := HC.out _ (hb1.alloc hb1.size (.cells #[.slice none 0 0, .int .i64 0, .bool false] 37))
  have k0 := cell_of_row _ w.heap.size 0 _ _ (0, 0) h1
  have k1 := cell_of_row _ w.heap.size 1 _ _ (0, 0) h1
  have k2 := cell_of_row _ w.heap.size 2 _ _ (0, 0) h1
  have k3 := cell_of_row _ w.heap.size 3 _ _ (0, 0) h1
  have k4 := cell_of_row _ w.heap.size 4 _ _ (0, 0) h1
  have k5 := cell_of_row _ w.heap.size 5 _ _ (0, 0) h1
  simp at k0 k1 k2 k3 k4 k5
  clear hb1 h1
  go_wp2_with fail
  refine (nothing_any _ _ a b m d s e (Lib.hid (nn_zero _ w1.heap.size (heap_alloc_new _ _)))).mono ?_
  rintro e' w2 ⟨rfl, hb2⟩
  have HB2 := Lib.hid (HB1.out.trans ((((Below.refl w1.heap.size w1).alloc (Nat.le_refl _) _).trans (hb2.mono (by simp))).mono HB1.out.size))
  clear hb2 k0 k1 k2 k3 k4 k5
  go_wp2_with fail
  refine (works19_any w2).mono ?_
  rintro e' w3 ⟨rfl, hb3⟩
  go_wp2_with fail
  go_ret
  exact ⟨rfl, HB0.out.trans ((HB2.out.trans (hb3.mono HB2.out.size)).mono HB0.out.size)⟩
end Go.Proofs.YtooempbgpfhdcaaDoor
