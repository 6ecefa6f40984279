/- Bytes shown and read back: the walks of galleylaw18.lives and FoldBack. Condition: the table of letters lies as its initialiser lays it. -/
import Derived.Test.YtgbjcpnlllaeeaaDoorProg
import Derived.Test.YtgbjcpnlllaeeaaDoorFoldRow
import Derived.Test.YtgbjcpnlllaeeaaDoorFoldBack
import Derived.Test.YtgbjcpnlllaeeaaDoorFoldLeast
import Derived.Test.YtgbjcpnlllaeeaaDoorEqBytes
import Derived.WalkKit
import Derived.WalkSpells
import Derived.Deep.QuietTactic
import Derived.BigQuiet
import Derived.Lib.Hide
import Derived.Lib.SlBytesConst
import Derived.Deep.DeepMust
namespace Go.Proofs.YtgbjcpnlllaeeaaDoor
open Go.RowKit

theorem SliceAt.grow' {α : Type} {r : Rep α} {w w1 : World} {A : Option Addr} {c : Nat} {l : List α} (h : SliceAt r w (under w.heap.size) A c l) (hb : Below w.heap.size w w1) : SliceAt r w1 (under w1.heap.size) A c l :=
  (h.below hb (Nat.le_refl _)).up fun _ h => Nat.lt_of_lt_of_le h hb.size
theorem row_n (A : Option Addr) (n ca W : Nat) (width : Int) (b : List UInt8) (w : World) (hn : Hid (n = b.length)) (hb : SliceAt Rep.byte w (under w.heap.size) A ca b) (hL : Hid (Ltrs w)) (h0 : 0 < w.heap.size) (hsize : n ≤ 4294967296) (hW : (W : Int) = max width 4) :
    Calls Tryd.prog 10 #[.slice A n ca, .int .i64 width] w fun e w' => ∃ A1 n1 c1, e = .returned (.slice A1 n1 c1) ∧ Hid (n1 = (Fold.Row W b).length) ∧ n1 ≤ c1 ∧ c1 ≤ 9223372036854775807 ∧ SliceAt Rep.byte w' (under w'.heap.size) A1 c1 (Fold.Row W b) ∧ Below w.heap.size w w' := by
  refine (row_any A n ca W width b w hn hb hL h0 hsize hW).mono ?_
  rintro e w' ⟨v, rfl, ho, hb⟩
  obtain ⟨A1, n1, c1, rfl, hn1, h1, h2, hs⟩ := ho.read
  exact ⟨A1, n1, c1, rfl, hn1, h1, h2, hs.up (btw_under (Nat.le_refl _)), hb⟩
theorem back_all (A : Option Addr) (n ca : Nat) (b : List UInt8) (w : World) (hn : Hid (n = b.length)) (hb : SliceAt Rep.byte w (under w.heap.size) A ca b) (hL : Hid (Ltrs w)) (h0 : 0 < w.heap.size) (hsize : n ≤ 4294967296) :
    Calls Tryd.prog 9 #[.slice A n ca] w fun e w' => BackAns w (Fold.back b) e w' ∧ Below w.heap.size w w' := by
  cases hs : [36, 10].isSuffixOf b with
  | false =>
    have : Fold.back b = none := by unfold Fold.back; rw [hs]; rfl
    rw [this]
    exact back_bad A n ca b w hn hb hs
  | true =>
    have hl := (List.isSuffixOf_iff_suffix.1 hs).length_le
    obtain ⟨k, rfl⟩ : ∃ k, n = k + 2 := ⟨n - 2, by have := hn.out; simp at hl; omega⟩
    exact back_good A k ca b _ w hn rfl hb hs hL h0 (by omega)
theorem back_some (A : Option Addr) (n ca : Nat) (b x : List UInt8) (w : World) (hn : Hid (n = b.length)) (hb : SliceAt Rep.byte w (under w.heap.size) A ca b) (hL : Hid (Ltrs w)) (h0 : 0 < w.heap.size) (hsize : n ≤ 4294967296) (hx : Fold.back b = some x) :
    Calls Tryd.prog 9 #[.slice A n ca] w fun e w' => ∃ A1 n1 c1, e = .returned (.tuple #[.slice A1 n1 c1, .bool true]) ∧ Hid (n1 = x.length) ∧ n1 ≤ c1 ∧ c1 ≤ 9223372036854775807 ∧ SliceAt Rep.byte w' (under w'.heap.size) A1 c1 x ∧ Below w.heap.size w w' := by
  refine (back_all A n ca b w hn hb hL h0 hsize).mono ?_
  rw [hx]
  rintro e w' ⟨⟨v, rfl, ho⟩, hb⟩
  obtain ⟨A1, n1, c1, rfl, hn1, h1, h2, hs⟩ := ho.read
  exact ⟨A1, n1, c1, rfl, hn1, h1, h2, hs.up (btw_under (Nat.le_refl _)), hb⟩
theorem back_none (A : Option Addr) (n ca : Nat) (b : List UInt8) (w : World) (hn : Hid (n = b.length)) (hb : SliceAt Rep.byte w (under w.heap.size) A ca b) (hL : Hid (Ltrs w)) (h0 : 0 < w.heap.size) (hsize : n ≤ 4294967296) (hx : Fold.back b = none) :
    Calls Tryd.prog 9 #[.slice A n ca] w fun e w' => e = .returned (.tuple #[.slice none 0 0, .bool false]) ∧ Below w.heap.size w w' := by
  refine (back_all A n ca b w hn hb hL h0 hsize).mono ?_
  rw [hx]
  exact fun e w' h => h
/-- EqBytes of two that read alike. -/
theorem eq_true (A B : Option Addr) (n c m d : Nat) (xs : List UInt8) (w : World) (hn : Hid (n = xs.length)) (hm : Hid (m = xs.length)) (S S' : Blocks) (hx : SliceAt Rep.byte w S A c xs) (hy : SliceAt Rep.byte w S' B d xs) :
    Calls Tryd.prog 11 #[.slice A n c, .slice B m d] w fun e w' => e = .returned (.bool true) ∧ Below w.heap.size w w' := by
  rw [hn.out, hm.out]
  refine (eqBytes A B c d xs xs w S S' hx hy).mono ?_
  rintro e w' ⟨rfl, k, rfl⟩
  exact ⟨by simp, ⟨rfl, rfl, rfl, Nat.le_refl _, fun _ _ => rfl⟩⟩
theorem constBytes (w : World) (cs : Array Value) (l : List UInt8) (h : cs.toList = bcells l) (n : Nat) (hn : l.length = n) (hm : n ≤ 9223372036854775807) (fr : Nat × Nat) : SliceAt Rep.byte (w.alloc (.cells cs 5 fr)) (under (w.alloc (.cells cs 5 fr)).heap.size) (some ⟨w.heap.size, 0, none⟩) n l := by
  have := SliceAt.newBytes w 5 cs l n (by omega) (by simp only [maxLen]; omega) h fr
  exact this.up fun b (hb : b < _) => by simp [under]; omega

set_option maxRecDepth 100000 in
set_option maxHeartbeats 2000000 in
theorem lives_any (w : World) (hL : Hid (Ltrs w)) (h0 : 0 < w.heap.size) : Calls Tryd.prog 8 #[] w fun e w' => e = .returned (.bool true) ∧ Below w.heap.size w w' := by
  have kc := fun (w : World) (C : Array Value) (n c : Nat) => Lib.run_convert_bytes_const (P := Tryd.prog) w 22 5 C n c Tryd.underlying22 Tryd.underlying5
  go_enter Tryd.func8, Tryd.ntmps8
  have e1 : Fold.Row 69 [97, 9, 98] = [97, 92, 116, 98, 36, 10] := by rfl
  have e2 : Fold.back [97, 92, 116, 98, 36, 10] = some [97, 9, 98] := by rfl
  have e3 : Fold.back [97, 10] = none := by rfl
  have E1 := Lib.hid e1
  have E2 := Lib.hid e2
  have E3 := Lib.hid e3
  have hb0 : ∀ o, Below w.heap.size w (w.alloc o) := fun o => (Below.refl _ w).alloc (Nat.le_refl _) o
  have HB0 := Lib.hid hb0
  clear e1 e2 e3 hb0
  go_wp2_with fail
  refine (row_n _ 3 3 69 69 [97, 9, 98] _ rfl (constBytes w _ [97, 9, 98] rfl 3 rfl (by omega) _) (hL.out.below (HB0.out _) h0) (by simp) (by omega) (by omega)).mono ?_
  rw [E1.out]
  rintro e w1 ⟨A1, n1, c1, rfl, hn1, -, -, hs1, hb1⟩
  have HS1 := Lib.hid hs1
  have h1 := (HB0.out _).trans (hb1.mono (HB0.out _).size)
  have HB1 := Lib.hid h1
  have ha1 : ∀ o, Below w.heap.size w (w1.alloc o) := fun o => h1.alloc h1.size o
  have HA1 := Lib.hid ha1
  obtain rfl : n1 = 6 := hn1.out
  clear hs1 hb1 h1 ha1
  go_wp2_with fail
  refine (back_some _ 6 6 [97, 92, 116, 98, 36, 10] _ _ rfl (constBytes w1 _ [97, 92, 116, 98, 36, 10] rfl 6 rfl (by omega) _) (hL.out.below (HA1.out _) h0) (by simp) (by omega) E2.out).mono ?_
  rintro e w2 ⟨A2, n2, c2, rfl, hn2, -, -, hs2, hb2⟩
  have HS2 := Lib.hid hs2
  have h2 := (HA1.out _).trans (hb2.mono (HA1.out _).size)
  have HB2 := Lib.hid h2
  have ha2 : ∀ o, Below w.heap.size w (w2.alloc o) := fun o => h2.alloc h2.size o
  have HA2 := Lib.hid ha2
  have hs12 := (HS1.out.grow' ((Below.refl _ w1).alloc (Nat.le_refl _) _)).grow' hb2
  have HS12 := Lib.hid hs12
  obtain rfl : n2 = 3 := hn2.out
  clear hs2 hb2 h2 ha2 hs12
  go_wp2_with fail
  refine (back_none _ 2 2 [97, 10] _ rfl (constBytes w2 _ [97, 10] rfl 2 rfl (by omega) _) (hL.out.below (HA2.out _) h0) (by simp) (by omega) E3.out).mono ?_
  rintro e w3 ⟨rfl, hb3⟩
  have h3 := (HA2.out _).trans (hb3.mono (HA2.out _).size)
  have HB3 := Lib.hid h3
  have ha3 : ∀ o, Below w.heap.size w (w3.alloc o) := fun o => h3.alloc h3.size o
  have HA3 := Lib.hid ha3
  have hs13 := (HS12.out.grow' ((Below.refl _ w2).alloc (Nat.le_refl _) _)).grow' hb3
  have HS13 := Lib.hid hs13
  have hs23 := (HS2.out.grow' ((Below.refl _ w2).alloc (Nat.le_refl _) _)).grow' hb3
  have HS23 := Lib.hid hs23
  clear hb3 h3 ha3 hs13 hs23
  go_wp2_with fail
  refine (eq_true _ _ 6 _ 6 6 [97, 92, 116, 98, 36, 10] _ rfl rfl _ _ (HS13.out.grow' ((Below.refl _ w3).alloc (Nat.le_refl _) _)) (constBytes w3 _ [97, 92, 116, 98, 36, 10] rfl 6 rfl (by omega) _)).mono ?_
  rintro e w4 ⟨rfl, hb4⟩
  have h4 := (HA3.out _).trans (hb4.mono (HA3.out _).size)
  have HB4 := Lib.hid h4
  have ha4 : ∀ o, Below w.heap.size w (w4.alloc o) := fun o => h4.alloc h4.size o
  have HA4 := Lib.hid ha4
  have hs24 := (HS23.out.grow' ((Below.refl _ w3).alloc (Nat.le_refl _) _)).grow' hb4
  have HS24 := Lib.hid hs24
  clear hb4 h4 ha4 hs24
  go_wp2_with fail
  refine (eq_true _ _ 3 _ 3 3 [97, 9, 98] _ rfl rfl _ _ (HS24.out.grow' ((Below.refl _ w4).alloc (Nat.le_refl _) _)) (constBytes w4 _ [97, 9, 98] rfl 3 rfl (by omega) _)).mono ?_
  rintro e w5 ⟨rfl, hb5⟩
  have h5 := (HA4.out _).trans (hb5.mono (HA4.out _).size)
  have HB5 := Lib.hid h5
  clear hb5 h5
  go_wp2_with fail
  go_ret
  exact ⟨rfl, HB5.out⟩

set_option maxHeartbeats 1000000 in
theorem long_is (x : Int) (w : World) : Calls Tryd.prog 7 #[.int .i64 x] w fun e w' => e = .returned (.bool (decide ((2147483647 : Int) < x))) ∧ w' = w := by
  go_enter Tryd.func7, Tryd.ntmps7
  go_wp2
  go_ret
  exact ⟨rfl, rfl⟩

section
variable (A C : Option Addr) (n ca m cc : Nat) (b : List UInt8) (width : Int) (x : List UInt8) (w : World)
set_option maxHeartbeats 1000000 in
theorem foldBack_long (hlong : 357913940 < n) : Calls Tryd.prog 3 #[.slice A n ca, .int .i64 width, .slice C m cc] w fun e w' => e = .returned (.bool true) ∧ Below w.heap.size w w' := by
  have h' : decide ((357913940 : Int) < (n : Int)) = true := by simp; omega
  go_enter Tryd.func3, Tryd.ntmps3
  go_wp2_with fail
  go_ret
  exact ⟨rfl, Below.refl _ _⟩
set_option maxHeartbeats 1000000 in
theorem foldBack_long2 (hb : n ≤ 357913940) (hlong : 2147483647 < m) : Calls Tryd.prog 3 #[.slice A n ca, .int .i64 width, .slice C m cc] w fun e w' => e = .returned (.bool true) ∧ Below w.heap.size w w' := by
  have h' : decide ((357913940 : Int) < (n : Int)) = false := by simp; omega
  have h2 : decide ((2147483647 : Int) < (m : Int)) = true := by simp; omega
  go_enter Tryd.func3, Tryd.ntmps3
  go_wp2_with fail
  refine (long_is _ _).mono ?_
  rintro e w' ⟨rfl, rfl⟩
  rw [h2]
  go_wp2_with fail
  go_ret
  exact ⟨rfl, Below.refl _ _⟩

set_option maxRecDepth 100000 in
set_option maxHeartbeats 4000000 in
theorem foldBack_is (hn : Hid (n = b.length)) (hm : Hid (m = x.length)) (hb : SliceAt Rep.byte w (under w.heap.size) A ca b) (hx : SliceAt Rep.byte w (under w.heap.size) C cc x) (hL : Hid (Ltrs w)) (h0 : 0 < w.heap.size) (hb1 : n ≤ 357913940) (hb2 : m ≤ 2147483647) :
    Calls Tryd.prog 3 #[.slice A n ca, .int .i64 width, .slice C m cc] w fun e w' => e = .returned (.bool true) ∧ Below w.heap.size w w' := by
  have h1' : decide ((357913940 : Int) < (n : Int)) = false := by simp; omega
  have h2' : decide ((2147483647 : Int) < (m : Int)) = false := by simp; omega
  obtain ⟨W, hW⟩ : ∃ W : Nat, (W : Int) = max width 4 := ⟨(max width 4).toNat, by omega⟩
  have hW4 : 4 ≤ W := by omega
  have hrl := Fold.row_len W b
  have hback : Fold.back (Fold.Row W b) = some b := Fold.back_row W hW4 b (by have := hn.out; omega)
  have HBACK := Lib.hid hback
  have HRL := Lib.hid hrl
  have HW := Lib.hid hW
  have HB := Lib.hid hb
  have HX := Lib.hid hx
  have hc1 := hb.len
  have hc2 := hb.max
  have hc3 := hx.len
  have hc4 := hx.max
  rw [← hn.out] at hc1
  rw [← hm.out] at hc3
  have H2 := Lib.hid h2'
  clear hb hx hback hrl hW h2'
  go_enter Tryd.func3, Tryd.ntmps3
  go_wp2_with fail
  refine (long_is _ _).mono ?_
  rintro e w' ⟨rfl, rfl⟩
  rw [H2.out]
  go_wp2_with fail
  refine (lives_any _ hL h0).mono ?_
  rintro e w1 ⟨rfl, hb1'⟩
  have HB1 := Lib.hid hb1'
  have hz1 := hb1'.size
  clear hb1'
  go_wp2_with fail
  refine (row_n _ _ _ W width b _ hn (HB.out.grow' HB1.out) (hL.out.below HB1.out h0) (by omega) (by omega) HW.out).mono ?_
  rintro e w2 ⟨A2, n2, c2, rfl, hn2, hl2, hm2, hs2, hb2'⟩
  have h02 := HB1.out.trans (hb2'.mono HB1.out.size)
  have HB2 := Lib.hid h02
  have hz2 := h02.size
  have HS2 := Lib.hid hs2
  clear hb2' h02 hs2
  go_wp2_with fail
  refine (back_some _ _ _ (Fold.Row W b) b _ hn2 HS2.out (hL.out.below HB2.out h0) (by omega) (by have a := hn2.out; have b := HRL.out; have c := hn.out; omega) HBACK.out).mono ?_
  rintro e w3 ⟨A3, n3, c3, rfl, hn3, hl3, hm3, hs3, hb3'⟩
  have h03 := HB2.out.trans (hb3'.mono HB2.out.size)
  have HB3 := Lib.hid h03
  have hz3 := h03.size
  have HS3 := Lib.hid hs3
  clear hb3' h03 hs3
  go_wp2_with fail
  refine (eq_true _ _ _ _ _ _ b _ hn3 hn _ _ HS3.out (HB.out.grow' HB3.out)).mono ?_
  rintro e w4 ⟨rfl, hb4'⟩
  have h04 := HB3.out.trans (hb4'.mono HB3.out.size)
  have HB4 := Lib.hid h04
  have hz4 := h04.size
  clear hb4' h04
  go_wp2_with fail
  cases hx : Fold.back x with
  | none =>
    refine (back_none _ _ _ x _ hm (HX.out.grow' HB4.out) (hL.out.below HB4.out h0) (by omega) (by omega) hx).mono ?_
    rintro e w5 ⟨rfl, hb5'⟩
    have h05 := HB4.out.trans (hb5'.mono HB4.out.size)
    have HB5 := Lib.hid h05
    clear hb5' h05 hx
    go_wp2_with fail
    go_ret
    exact ⟨rfl, HB5.out⟩
  | some y =>
    obtain ⟨hL4, hrow⟩ := Fold.row_back x y hx
    have hyl : y.length + 2 ≤ x.length := by have := (Fold.row_len (Fold.leastGo 0 4 x) y).1; rw [hrow] at this; exact this
    have HROW := Lib.hid hrow
    refine (back_some _ _ _ x y _ hm (HX.out.grow' HB4.out) (hL.out.below HB4.out h0) (by omega) (by omega) hx).mono ?_
    rintro e w5 ⟨A5, n5, c5, rfl, hn5, hl5, hm5, hs5, hb5'⟩
    have h05 := HB4.out.trans (hb5'.mono HB4.out.size)
    have HB5 := Lib.hid h05
    have hz5 := h05.size
    have HS5 := Lib.hid hs5
    have HYL := Lib.hid hyl
    clear hb5' h05 hs5 hx hrow hyl
    go_wp2_with fail
    refine (least_any _ _ _ x _ hm _ (HX.out.grow' HB5.out)).mono ?_
    rintro e w6 ⟨rfl, rfl⟩
    obtain ⟨L, hLe⟩ : ∃ L, L = Fold.leastGo 0 4 x := ⟨_, rfl⟩
    rw [← hLe] at hL4 HROW ⊢
    clear hLe
    go_wp2_with fail
    refine (row_n _ _ _ L (L : Int) y _ hn5 HS5.out (hL.out.below HB5.out h0) (by omega) (by have a := hn5.out; have b := HYL.out; have c := hm.out; omega) (by omega)).mono ?_
    rw [HROW.out]
    rintro e w7 ⟨A7, n7, c7, rfl, hn7, hl7, hm7, hs7, hb7'⟩
    have h07 := HB5.out.trans (hb7'.mono HB5.out.size)
    have HB7 := Lib.hid h07
    have HS7 := Lib.hid hs7
    clear hb7' h07 hs7
    go_wp2_with fail
    refine (eq_true _ _ _ _ _ _ x _ hn7 hm _ _ HS7.out (HX.out.grow' HB7.out)).mono ?_
    rintro e w8 ⟨rfl, hb8'⟩
    have h08 := HB7.out.trans (hb8'.mono HB7.out.size)
    have HB8 := Lib.hid h08
    clear hb8' h08
    go_wp2_with fail
    go_ret
    exact ⟨rfl, HB8.out⟩
end
theorem foldBack_any (A C : Option Addr) (ca cc : Nat) (b : List UInt8) (width : Int) (x : List UInt8) (w : World) (hb : SliceAt Rep.byte w (under w.heap.size) A ca b) (hx : SliceAt Rep.byte w (under w.heap.size) C cc x) (hL : Ltrs w) (h0 : 0 < w.heap.size) :
    Calls Tryd.prog 3 #[.slice A b.length ca, .int .i64 width, .slice C x.length cc] w fun e w' => e = .returned (.bool true) ∧ Below w.heap.size w w' := by
  by_cases h : 357913940 < b.length
  · exact foldBack_long A C _ ca _ cc width w h
  · by_cases h2 : 2147483647 < x.length
    · exact foldBack_long2 A C _ ca _ cc width w (by omega) h2
    · exact foldBack_is A C _ ca _ cc b width x w rfl rfl hb hx hL h0 (by omega) (by omega)
end Go.Proofs.YtgbjcpnlllaeeaaDoor
