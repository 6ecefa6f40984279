/- The walk of chapter 25's works. Condition: none. -/
import Derived.Test.YtejjmjbkpodolaaDoorSpaceX
namespace Go.Proofs.YtejjmjbkpodolaaDoor
open Go.RowKit Go.ChangeShapes Go.WideShapes Go.Deep

theorem Only.one {w w' : World} {B g : Nat} (h : Only (fun b => b = g) w w') (hB : B ≤ w.heap.size) (hg : B ≤ g) : Below B w w' := h.below hB fun b hb => by rw [hb]; exact hg
set_option maxRecDepth 100000 in
set_option maxHeartbeats 4000000 in
theorem works25_any (w : World) : Calls Tryd.prog 4 #[] w fun e w' => e = .returned (.bool true) ∧ Below w.heap.size w w' := by
  have kc := fun (w : World) (C : Array Value) (n c : Nat) => Lib.run_convert_bytes_const (P := Tryd.prog) w 55 5 C n c Tryd.underlying55 Tryd.underlying5
  go_enter Tryd.func4, Tryd.ntmps4
  go_wp2_with fail
  refine (xnew w 9 (by omega)).mono ?_
  rintro e w1 ⟨g, rfl, hg, HS, HB⟩
  go_wp2_with fail
  obtain ⟨W, hW⟩ : ∃ W, W = w1.alloc (.cells #[.int .u8 97, .int .u8 98] 5 (2, 3)) := ⟨_, rfl⟩
  have hb1 : Below w1.heap.size w1 W := by rw [hW]; exact (Below.refl _ _).alloc (Nat.le_refl _) _
  have hs1 : SliceAt Rep.byte W (under W.heap.size) (some ⟨w1.heap.size, 0, none⟩) 2 [97, 98] := by
    rw [hW]
    exact (SliceAt.newBytes w1 5 _ [97, 98] 2 (by simp) (by simp [maxLen]) rfl (2, 3)).up fun b (hb : b < _) => by simp [under]; omega
  rw [← hW]
  have HSW := Lib.hid hs1
  have HB1 := Lib.hid (bfar HB.out hb1)
  have HS1 := Lib.hid (HS.out.far hb1)
  clear hW hb1 hs1 kc HS HB
  have HT : Hid (Calls Tryd.prog 16 #[.pointer (some ⟨g, 0, none⟩), .slice (some ⟨w1.heap.size, 0, none⟩) 2 2] W (Left kP 68 W g 9 (0, [97, 98], []))) := Lib.hid (xput W g 9 [] [] _ 2 2 [97, 98] _ HS1 HSW (Lib.hid rfl) (by omega))
  refine HT.out.mono ?_
  clear HT HSW
  rintro e w2 ⟨q, rfl, HQ, HS2, HO⟩
  obtain rfl : q = 0 := HQ.out
  have HB2 := Lib.hid (HB1.out.trans (HO.out.one HB1.out.size hg))
  clear HQ HO HS1 HB1
  go_wp2_with fail
  have HT : Hid (Calls Tryd.prog 17 #[.pointer (some ⟨g, 0, none⟩), .int .u8 104] w2 (Left kP 68 w2 g 9 (0, [97, 98], [97, 98]))) := Lib.hid (xdo w2 g 9 _ _ 104 HS2)
  refine HT.out.mono ?_
  clear HT
  rintro e w3 ⟨q, rfl, HQ, HS3, HO⟩
  obtain rfl : q = 0 := HQ.out
  have HB3 := Lib.hid (HB2.out.trans (HO.out.one HB2.out.size hg))
  clear HQ HO HS2 HB2
  go_wp2_with fail
  have HT : Hid (Calls Tryd.prog 17 #[.pointer (some ⟨g, 0, none⟩), .int .u8 71] w3 (Left kP 68 w3 g 9 (0, [97, 98, 10, 97, 98], [97, 98]))) := Lib.hid (xdo w3 g 9 _ _ 71 HS3)
  refine HT.out.mono ?_
  clear HT
  rintro e w4 ⟨q, rfl, HQ, HS4, HO⟩
  obtain rfl : q = 0 := HQ.out
  have HB4 := Lib.hid (HB3.out.trans (HO.out.one HB3.out.size hg))
  clear HQ HO HS3 HB3
  go_wp2_with fail
  refine (xpattern w4 g 9 _ _ HS4).mono ?_
  rintro e w5 ⟨A, n, c, rfl, k1, k2, HN, HO, HB⟩
  obtain rfl : n = 5 := HN.out
  have hcv := run_bytes_string (P := Tryd.prog) w5 55 5 9 Tryd.underlying55 Tryd.underlying5 Tryd.underlying9 _ A 5 c [97, 98, 10, 97, 98] rfl HO.out.above.2
  have HS5 := Lib.hid (HS4.out.far HB.out)
  have HB5 := Lib.hid (bfar HB4.out HB.out)
  clear HN HO HB HS4 HB4
  go_wp2_with fail
  refine (xhold w5 g 9 _ _ HS5).mono ?_
  clear hcv k1 k2
  rintro e w6 ⟨A6, n, c6, rfl, k1, k2, HN, HO, HB⟩
  obtain rfl : n = 2 := HN.out
  have hcv := run_bytes_string (P := Tryd.prog) w6 55 5 9 Tryd.underlying55 Tryd.underlying5 Tryd.underlying9 _ A6 2 c6 [97, 98] rfl HO.out.above.2
  have HS6 := Lib.hid (HS5.out.far HB.out)
  have HB6 := Lib.hid (bfar HB5.out HB.out)
  clear HN HO HB HS5 HB5
  go_wp2_with fail
  have HT : Hid (Calls Tryd.prog 18 #[.pointer (some ⟨g, 0, none⟩)] w6 fun e w' => e = .returned (.bool true) ∧ Hid (Spc kP 68 w' g 9 [97, 98] [97, 98]) ∧ Hid (Only (fun b => b = g) w6 w')) := Lib.hid (xcut w6 g 9 _ _ HS6)
  refine HT.out.mono ?_
  clear HT hcv k1 k2
  rintro e w7 ⟨rfl, HS7, HO⟩
  have HB7 := Lib.hid (HB6.out.trans (HO.out.one HB6.out.size hg))
  clear HO HS6 HB6
  go_wp2_with fail
  refine (xpattern w7 g 9 _ _ HS7).mono ?_
  rintro e w8 ⟨A8, n, c8, rfl, k1, k2, HN, HO, HB⟩
  obtain rfl : n = 2 := HN.out
  have hcv := run_bytes_string (P := Tryd.prog) w8 55 5 9 Tryd.underlying55 Tryd.underlying5 Tryd.underlying9 _ A8 2 c8 [97, 98] rfl HO.out.above.2
  have HB8 := Lib.hid (bfar HB7.out HB.out)
  clear HN HO HB HS7 HB7
  go_wp2_with fail
  go_ret
  exact ⟨rfl, HB8.out⟩
end Go.Proofs.YtejjmjbkpodolaaDoor
