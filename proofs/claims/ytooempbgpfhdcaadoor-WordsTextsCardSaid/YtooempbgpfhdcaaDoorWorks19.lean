/- The walk of chapter 19's works. Condition: none. -/
import Derived.Test.YtooempbgpfhdcaaDoorNumber
import Derived.Test.YtooempbgpfhdcaaDoorSkip
import Derived.Test.YtooempbgpfhdcaaDoorPart19
import Derived.Lib.SlBytesConst
namespace Go.Proofs.YtooempbgpfhdcaaDoor
open Go.RowKit Go.ChangeShapes Go.WideShapes Go.Deep

theorem SliceAt.marks {w : World} {S : Blocks} {A : Option Addr} {c : Nat} {l : List Words.Mk} (h : SliceAt Rep.mark w S A c l) {i : Nat} (hi : i < l.length) :
    ∃ g o, A = some ⟨g, o, none⟩ ∧ S g ∧ w.cell? ⟨g, o + i * 2, none⟩ = some (.int .u8 l[i].1.toNat) ∧ w.cell? ⟨g, o + i * 2 + 1, none⟩ = some (.bool l[i].2) := by
  obtain ⟨g, o, cs, e, hb, hc, c1, c2, rfl, rfl, rfl⟩ := h.at_ hi
  exact ⟨g, o, e, hb, hc 0 _ rfl, hc 1 _ rfl⟩
/-- A few steps of words: what is said of them stays. -/
theorem Only.one {w w' : World} {B g : Nat} (h : Only (fun b => b = g) w w') (hB : B ≤ w.heap.size) (hg : B ≤ g) : Below B w w' := h.below hB fun b hb => by rw [hb]; exact hg
abbrev wT : List UInt8 := [49, 50, 115, 47, 97, 92, 47, 98, 47, 32, 59]
theorem wT_number : Words.number 99 (wT.drop 0) = (12, 0, 2) := by decide
theorem wT_part : Words.part 47 false (wT.drop 4) = some ([(97, false), (47, true), (98, false)], [32, 59]) := by
  show Words.part 47 false [97, 92, 47, 98, 47, 32, 59] = _
  simp [Words.part_cons]
set_option maxRecDepth 100000 in
set_option maxHeartbeats 4000000 in
theorem works19_any (w : World) : Calls Tryd.prog 5 #[] w fun e w' => e = .returned (.bool true) ∧ Below w.heap.size w w' := by
  have HNW := Lib.hid (new_any (some ⟨w.heap.size, 0, none⟩) 11 11 wT (w.alloc (.cells #[.int .u8 49, .int .u8 50, .int .u8 115, .int .u8 47, .int .u8 97, .int .u8 92, .int .u8 47, .int .u8 98, .int .u8 47, .int .u8 32, .int .u8 59] 5 (11, 12))) _ (Lib.hid rfl) (Lib.hid (SliceAt.newBytes w 5 _ wT 11 (Nat.le_refl _) (by simp [maxLen]) rfl (11, 12))) (by omega))
  have kc := fun (w : World) (C : Array Value) (n c : Nat) => Lib.run_convert_bytes_const (P := Tryd.prog) w 23 5 C n c Tryd.underlying23 Tryd.underlying5
  go_enter Tryd.func5, Tryd.ntmps5
  go_wp2_with fail
  refine HNW.out.mono ?_
  clear HNW
  rintro e w1 ⟨g, A, c, rfl, hg, HW1, HB1⟩
  have hgw : w.heap.size ≤ g := by simp at hg; omega
  have HB := Lib.hid (((Below.refl w.heap.size w).alloc (Nat.le_refl _) (.cells #[.int .u8 49, .int .u8 50, .int .u8 115, .int .u8 47, .int .u8 97, .int .u8 92, .int .u8 47, .int .u8 98, .int .u8 47, .int .u8 32, .int .u8 59] 5 (11, 12))).trans (HB1.out.mono (by simp)))
  clear HB1 hg
  go_wp2_with fail
  refine (number_any w1 g 11 c 0 A wT 99 12 0 2 HW1 (by omega) (by omega) (by omega) (Lib.hid wT_number)).mono ?_
  rintro e w2 ⟨rfl, HW2, HO⟩
  have HB2 := Lib.hid (HB.out.trans (HO.out.one HB.out.size hgw))
  clear HO HW1 HB
  go_wp2_with fail
  have HT : Hid (Calls Tryd.prog 12 #[.pointer (some ⟨g, 0, none⟩)] w2 fun e w' => e = .returned (.tuple #[.int .u8 115, .bool true]) ∧ Hid (Wd w' g A 11 c wT 3) ∧ Hid (Only (fun b => b = g) w2 w')) := Lib.hid (take_yes w2 g 11 c 2 A wT HW2 (by decide))
  refine HT.out.mono ?_
  clear HT
  rintro e w3 ⟨rfl, HW3, HO⟩
  have HB3 := Lib.hid (HB2.out.trans (HO.out.one HB2.out.size hgw))
  clear HO HW2 HB2
  go_wp2_with fail
  have HT : Hid (Calls Tryd.prog 12 #[.pointer (some ⟨g, 0, none⟩)] w3 fun e w' => e = .returned (.tuple #[.int .u8 47, .bool true]) ∧ Hid (Wd w' g A 11 c wT 4) ∧ Hid (Only (fun b => b = g) w3 w')) := Lib.hid (take_yes w3 g 11 c 3 A wT HW3 (by decide))
  refine HT.out.mono ?_
  clear HT
  rintro e w4 ⟨rfl, HW4, HO⟩
  have HB4 := Lib.hid (HB3.out.trans (HO.out.one HB3.out.size hgw))
  clear HO HW3 HB3
  have HP := part_any w4 g 11 c 4 A wT 47 false HW4 (Lib.hid (by decide)) (Lib.hid (by decide)) (by omega)
  rw [wT_part] at HP
  have HP2 : Hid (Calls Tryd.prog 13 #[.pointer (some ⟨g, 0, none⟩), .int .u8 47, .bool false] w4 (PartAns w4 g 11 c A wT 4 (some ([(97, false), (47, true), (98, false)], [32, 59])))) := Lib.hid HP
  clear HP
  go_wp2_with fail
  refine HP2.out.mono ?_
  clear HP2
  rintro e w5 ⟨v, rfl, HM, HW5, HO⟩
  have HB5 := Lib.hid (HB4.out.trans (HO.out.one HB4.out.size hgw))
  obtain ⟨A5, n5, c5, rfl, hn5, hnc5, hcm5, hs5⟩ := HM.out.read
  obtain rfl : n5 = 3 := hn5.out
  obtain ⟨g5, o5, rfl, -, -, hm1⟩ := hs5.marks (i := 1) (by decide)
  obtain ⟨g6, o6, e6, -, -, hm2⟩ := hs5.marks (i := 2) (by decide)
  simp only [Option.some.injEq, Addr.mk.injEq] at e6
  obtain ⟨rfl, rfl, -⟩ := e6
  have hk1 : w5.cell? ⟨g5, o5 + 2 + 1, none⟩ = some (.bool true) := hm1
  have hk2 : w5.cell? ⟨g5, o5 + 4 + 1, none⟩ = some (.bool false) := hm2
  have hk1' : w5.cell? ⟨g5, o5 + 3, none⟩ = some (.bool true) := hm1
  have hk2' : w5.cell? ⟨g5, o5 + 5, none⟩ = some (.bool false) := hm2
  have HW5' : Hid (Wd w5 g A 11 c wT 9) := HW5
  clear HO HW4 HB4 hn5 hs5 hm1 hm2 HM HW5
  go_wp2_with fail
  refine (at_any w5 g 11 c 9 A wT HW5').mono ?_
  rintro e w6 ⟨rfl, rfl⟩
  go_wp2_with fail
  refine (end_semi w5 g 11 c 9 10 A wT HW5' (by omega) (Lib.hid (by decide)) (by decide) (Lib.hid (by decide))).mono ?_
  rintro e w7 ⟨rfl, HW7, HO⟩
  have HB7 := Lib.hid (HB5.out.trans (HO.out.one HB5.out.size hgw))
  clear HO hk1 hk2 hk1' hk2' HW5' HB5
  go_wp2_with fail
  refine (at_any w7 g 11 c (10 + 1) A wT HW7).mono ?_
  rintro e w8 ⟨rfl, rfl⟩
  go_wp2_with fail
  go_ret
  exact ⟨rfl, HB7.out⟩
end Go.Proofs.YtooempbgpfhdcaaDoor
