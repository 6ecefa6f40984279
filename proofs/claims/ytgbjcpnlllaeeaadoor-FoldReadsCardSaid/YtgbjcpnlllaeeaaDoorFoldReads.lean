/- The walk of the law FoldReads. Conditions: the table of letters lies as its initialiser lays it; room. -/
import Derived.Test.YtgbjcpnlllaeeaaDoorProg
import Derived.Test.YtgbjcpnlllaeeaaDoorRefBack
namespace Go.Proofs.YtgbjcpnlllaeeaaDoor
open Go.RowKit

/-- What a Back answers: the bytes, and whether there are some. -/
def Bk (w : World) (x : List UInt8) (s : Bool) (e : Ending) (w' : World) : Prop := ∃ A n c, e = .returned (.tuple #[.slice A n c, .bool s]) ∧ Hid (Own Rep.byte 5 w' w.heap.size nob (.slice A n c) x) ∧ n ≤ c ∧ c ≤ 9223372036854775807 ∧ Hid (Below w.heap.size w w')
theorem rBack (A : Option Addr) (n ca : Nat) (b x : List UInt8) (s : Bool) (w : World) (hx : x = (Fold.back b).getD []) (hs : s = (Fold.back b).isSome) (hn : n = b.length) (hb : SliceAt Rep.byte w (under w.heap.size) A ca b) (hsize : n ≤ 4294967296) :
    Calls Tryd.prog 19 #[.slice A n ca] w (Bk w x s) := by
  refine (refBack_any A n ca b w (Lib.hid hn) (Lib.hid hb) hsize).mono ?_
  rintro e w' ⟨A', n', c', rfl, h1, h2, h3, h4⟩
  exact ⟨A', n', c', by rw [hs], by rw [hx]; exact h1, h2, h3, h4⟩
theorem fBack (A : Option Addr) (n ca : Nat) (b x : List UInt8) (s : Bool) (w : World) (hx : x = (Fold.back b).getD []) (hs : s = (Fold.back b).isSome) (hn : n = b.length) (hb : SliceAt Rep.byte w (under w.heap.size) A ca b) (hL : Hid (Ltrs w)) (h0 : 0 < w.heap.size) (hsize : n ≤ 4294967296) :
    Calls Tryd.prog 9 #[.slice A n ca] w (Bk w x s) := by
  subst hx
  subst hs
  refine (back_all A n ca b w (Lib.hid hn) hb hL h0 hsize).mono ?_
  cases hr : Fold.back b with
  | none =>
    rintro e w' ⟨rfl, hb⟩
    exact ⟨none, 0, 0, rfl, Lib.hid (Own.nil _ _ _ _), by omega, by omega, Lib.hid hb⟩
  | some x =>
    rintro e w' ⟨⟨v, rfl, ho⟩, hb⟩
    obtain ⟨A1, n1, c1, rfl, -, h1, h2⟩ := ho.form
    exact ⟨A1, n1, c1, rfl, Lib.hid ho, h1, h2, Lib.hid hb⟩
theorem back_len (b : List UInt8) : ((Fold.back b).getD []).length ≤ b.length := by
  cases hx : Fold.back b with
  | none => simp
  | some x =>
    have := Fold.row_len (Fold.leastGo 0 4 b) x
    have h2 := (Fold.row_back b x hx).2
    rw [h2] at this
    simp only [Option.getD_some]
    omega
theorem long_yes' (n : Nat) (w : World) (h : 2147483647 < n) : Calls Tryd.prog 7 #[.int .i64 n] w fun e w' => e = .returned (.bool true) ∧ w = w' := by
  have h' : (2147483647 : Int) < n := by omega
  go_enter Tryd.func7, Tryd.ntmps7
  go_wp2
  go_ret
  exact ⟨by simp, rfl⟩
theorem long_no' (n : Nat) (w : World) (h : n ≤ 2147483647) : Calls Tryd.prog 7 #[.int .i64 n] w fun e w' => e = .returned (.bool false) ∧ w = w' := by
  have h' : decide ((2147483647 : Int) < n) = false := decide_eq_false (by omega)
  go_enter Tryd.func7, Tryd.ntmps7
  go_wp2
  go_ret
  exact ⟨by simp, rfl⟩
section
variable (A : Option Addr) (n ca : Nat) (b : List UInt8) (w : World)
set_option maxRecDepth 100000 in
set_option maxHeartbeats 1000000 in
theorem foldReads_long (hlong : 2147483647 < n) : Calls Tryd.prog 6 #[.slice A n ca] w fun e w' => e = .returned (.bool true) ∧ Below w.heap.size w w' := by
  go_enter Tryd.func6, Tryd.ntmps6
  go_wp2_with fail
  refine (long_yes' _ _ hlong).mono ?_
  rintro e w' ⟨rfl, rfl⟩
  go_wp2_with fail
  go_ret
  exact ⟨rfl, Below.refl _ _⟩
set_option maxRecDepth 100000 in
set_option maxHeartbeats 8000000 in
theorem foldReads_in (hn : Hid (n = b.length)) (hb : Hid (SliceAt Rep.byte w (under w.heap.size) A ca b)) (hL : Hid (Ltrs w)) (h0 : 0 < w.heap.size) (hb1 : n ≤ 2147483647) :
    Calls Tryd.prog 6 #[.slice A n ca] w fun e w' => e = .returned (.bool true) ∧ Below w.heap.size w w' := by
  obtain ⟨x, hx⟩ : ∃ x, x = (Fold.back b).getD [] := ⟨_, rfl⟩
  obtain ⟨s, hs⟩ : ∃ s, s = (Fold.back b).isSome := ⟨_, rfl⟩
  have hxl := back_len b
  rw [← hx, ← hn.out] at hxl
  have HX := Lib.hid hx
  have HS := Lib.hid hs
  have HXL := Lib.hid hxl
  have hss : (s != s) = false := by simp
  have hB0 : ∀ w', Below w.heap.size w w' → SliceAt Rep.byte w' (under w.heap.size) A ca b := fun w' h => hb.out.keep (fun _ h => h) (Same.of_below h (fun _ h => h))
  have HB0 := Lib.hid hB0
  have hL0 : ∀ w', Below w.heap.size w w' → Hid (Ltrs w') ∧ 0 < w'.heap.size := fun w' h => ⟨Lib.hid (hL.out.below h h0), Nat.lt_of_lt_of_le h0 h.size⟩
  have HL0 := Lib.hid hL0
  clear hx hs hxl hB0 hL0
  go_enter Tryd.func6, Tryd.ntmps6
  go_wp2_with fail
  refine (long_no' _ _ hb1).mono ?_
  rintro e w' ⟨rfl, rfl⟩
  go_wp2_with fail
  refine (lives_any w hL h0).mono ?_
  rintro e w1 ⟨rfl, hb1'⟩
  have HB1 := Lib.hid hb1'
  clear hb1'
  go_wp2_with fail
  refine (wideBytes_any A n ca b w1 _ hn.out (HB0.out _ HB1.out) (fun _ h => Nat.lt_of_lt_of_le h HB1.out.size) (by omega)).mono ?_
  rintro e w2 ⟨g, rfl, hown2, hb2⟩
  have hfst : Own Rep.byte 5 w2 w1.heap.size nob (.slice (some ⟨g, 0, none⟩) n (n + 64)) b := by
    have := hown2.first (k := n) (by rw [List.length_append, marksW_len, ← hn.out]) (by omega)
    rw [List.take_append_of_le_length (by have := hn.out; omega), List.take_of_length_le (by have := hn.out; omega)] at this
    exact this
  have HR2 := Lib.hid ((Rws.nil 5 HB1.out).add hb2 hfst)
  have HF2 := Lib.hid hown2
  have HN0 := Lib.hid hn.out
  clear hown2 hb2 hfst
  simp only [List.nil_append] at HR2
  go_wp2_with fail
  refine (rBack A n ca b x s w2 HX.out HS.out hn.out ((HB0.out _ HR2.out.b).up fun _ h => Nat.lt_of_lt_of_le h HR2.out.b.size) (by omega)).mono ?_
  rintro e w3 ⟨A3, n3, c3, rfl, HO3, hc3, hm3, HB3⟩
  have HR3 := Lib.hid (HR2.out.add HB3.out HO3.out)
  have HF3 := Lib.hid (HF2.out.far HB3.out)
  simp only [List.cons_append, List.nil_append] at HR3
  have hl3 : n3 ≤ 2147483647 := by have := (HR3.out.read (k := 1) rfl).1; have := HXL.out; omega
  go_wp2_with fail
  obtain ⟨h2a, h2b, h2c, hs2⟩ := HR3.out.read (k := 0) rfl
  have HS2 := Lib.hid hs2
  clear h2a hs2
  refine (fBack (some ⟨g, 0, none⟩) n (n + 64) b x s w3 HX.out HS.out hn.out HS2.out (HL0.out _ HR3.out.b).1 (HL0.out _ HR3.out.b).2 (by omega)).mono ?_
  rintro e w4 ⟨A4, n4, c4, rfl, HO4, hc4, hm4, HB4⟩
  have HR4 := Lib.hid (HR3.out.add HB4.out HO4.out)
  have HF4 := Lib.hid (HF3.out.far HB4.out)
  simp only [List.cons_append, List.nil_append] at HR4
  have hl4 : n4 ≤ 2147483647 := by have := (HR4.out.read (k := 2) rfl).1; have := HXL.out; omega
  clear HS2
  go_wp2_with fail
  obtain ⟨-, -, -, hs3⟩ := HR4.out.read (k := 0) rfl
  have HS3 := Lib.hid hs3
  clear hs3
  refine (fBack (some ⟨g, 0, none⟩) n (n + 64) b x s w4 HX.out HS.out hn.out HS3.out (HL0.out _ HR4.out.b).1 (HL0.out _ HR4.out.b).2 (by omega)).mono ?_
  rintro e w5 ⟨A5, n5, c5, rfl, HO5, hc5, hm5, HB5⟩
  have HR5 := Lib.hid (HR4.out.add HB5.out HO5.out)
  have HF5 := Lib.hid (HF4.out.far HB5.out)
  simp only [List.cons_append, List.nil_append] at HR5
  have hl5 : n5 ≤ 2147483647 := by have := (HR5.out.read (k := 3) rfl).1; have := HXL.out; omega
  clear HS3
  go_wp2_with fail
  obtain ⟨q1, -, -, hs1⟩ := HR5.out.read (k := 2) rfl
  obtain ⟨q2, -, -, hs2⟩ := HR5.out.read (k := 1) rfl
  refine (eqN A4 A3 n4 c4 n3 c3 _ _ w5 true q1 q2 (decide_eq_true rfl) _ _ hs1 hs2).mono ?_
  clear q1 q2 hs1 hs2
  rintro e w6 ⟨rfl, hb6⟩
  have HR6 := Lib.hid (HR5.out.far hb6)
  have HF6 := Lib.hid (HF5.out.far hb6)
  clear hb6
  go_wp2_with fail
  obtain ⟨q1, -, -, hs1⟩ := HR6.out.read (k := 0) rfl
  refine (eqN (some ⟨g, 0, none⟩) A n (n + 64) n ca _ _ w6 true q1 q1 (decide_eq_true rfl) _ _ hs1 (HB0.out _ HR6.out.b)).mono ?_
  clear q1 hs1
  rintro e w7 ⟨rfl, hb7⟩
  have HR7 := Lib.hid (HR6.out.far hb7)
  have HF7 := Lib.hid (HF6.out.far hb7)
  clear hb7
  go_wp2_with fail
  refine (spareB g n _ b w7 hn.out HF7.out (by omega)).mono ?_
  rintro e w8 ⟨rfl, hb8⟩
  have HR8 := Lib.hid (HR7.out.far hb8)
  clear hb8
  go_wp2_with fail
  obtain ⟨wo, rfl⟩ : ∃ wo : World, wo = w8 := ⟨_, rfl⟩
  go_loopg [11] n4 (fun k iv wr => ∃ (i : Nat) (l : List UInt8), i ≤ n4 ∧ iv = .int .i64 i ∧ k = n4 - i ∧ Hid (Rws 5 w wr [((some ⟨g, 0, none⟩, n, n + 64), b), ((A3, n3, c3), x), ((A4, n4, c4), l), ((A5, n5, c5), x)]))
  case atStart => exact ⟨0, _, Nat.zero_le _, rfl, rfl, HR8⟩
  case round =>
    obtain ⟨i, l, hi, rfl, rfl, HRR⟩ := hrel
    by_cases hin : i < n4
    · have q1 := (HRR.out.read (k := 2) rfl).1
      obtain ⟨g4, rfl, hcell, hfr⟩ := HRR.out.cell (k := 2) rfl (i := i) (by omega)
      generalize l[i]'(by omega) = z at hcell
      have HQ := Lib.hid q1
      clear q1
      go_wp2_with fail
      obtain ⟨y, hy⟩ := u8_bits .xor z.toNat 85
      go_roundg (n4 - (i + 1))
      case measure => omega
      case rel =>
        refine ⟨i + 1, l.set i y, by omega, by go_num, rfl, Lib.hid ?_⟩
        rw [hy]
        exact HRR.out.put (k := 2) rfl (by have := HQ.out; omega) y
    · have e0 : n4 = i := by omega
      subst e0
      clear hin
      go_wp2_with fail
      obtain ⟨q1, -, -, hs1⟩ := HRR.out.read (k := 3) rfl
      obtain ⟨q2, -, -, hs2⟩ := HRR.out.read (k := 1) rfl
      refine (eqN A5 A3 n5 c5 n3 c3 _ _ wr true q1 q2 (decide_eq_true rfl) _ _ hs1 hs2).mono ?_
      clear q1 q2 hs1 hs2
      rintro e w9 ⟨rfl, hb9⟩
      have HR9 := Lib.hid (HRR.out.far hb9)
      clear hb9
      go_wp2_with fail
      obtain ⟨wp, rfl⟩ : ∃ wp : World, wp = w9 := ⟨_, rfl⟩
      go_loopg [12] n (fun k iv wr => ∃ (i : Nat) (l0 : List UInt8), i ≤ n ∧ iv = .int .i64 i ∧ k = n - i ∧ Hid (Rws 5 w wr [((some ⟨g, 0, none⟩, n, n + 64), l0), ((A3, n3, c3), x), ((A4, n4, c4), l), ((A5, n5, c5), x)]))
      case atStart => exact ⟨0, _, Nat.zero_le _, rfl, rfl, HR9⟩
      case round =>
        obtain ⟨i, l0, hi, rfl, rfl, HRR⟩ := hrel
        by_cases hin : i + 2 < n
        · have q1 := (HRR.out.read (k := 0) rfl).1
          obtain ⟨g', hge, hcell, hfr⟩ := HRR.out.cell (k := 0) rfl (i := i) (by omega)
          simp only [Option.some.injEq, Addr.mk.injEq] at hge
          obtain ⟨rfl, -⟩ := hge
          generalize l0[i]'(by omega) = z at hcell
          have hz := z.toNat_lt
          have HQ := Lib.hid q1
          clear q1
          by_cases ha : 97 ≤ z.toNat ∧ z.toNat < 122
          · obtain ⟨ha1, ha2⟩ := ha
            have d1 : decide ((97 : Int) ≤ z.toNat) = true := decide_eq_true (by omega)
            have d2 : decide ((z.toNat : Int) < 122) = true := decide_eq_true (by omega)
            go_wp2_with fail
            go_roundg (n - (i + 1))
            case measure => omega
            case rel =>
              refine ⟨i + 1, l0.set i (UInt8.ofNat (z.toNat + 1)), by omega, by go_num, rfl, Lib.hid ?_⟩
              have := HRR.out.put (k := 0) rfl (i := i) (by have := HQ.out; omega) (UInt8.ofNat (z.toNat + 1))
              rw [show ((UInt8.ofNat (z.toNat + 1)).toNat : Int) = (z.toNat : Int) + 1 by rw [UInt8.toNat_ofNat']; omega] at this
              exact this
          · by_cases ha1 : 97 ≤ z.toNat
            · have d1 : decide ((97 : Int) ≤ z.toNat) = true := decide_eq_true (by omega)
              have d2 : decide ((z.toNat : Int) < 122) = false := decide_eq_false (by omega)
              go_wp2_with fail
              go_roundg (n - (i + 1))
              case measure => omega
              case rel => exact ⟨i + 1, l0, by omega, by go_num, rfl, HRR⟩
            · have d1 : decide ((97 : Int) ≤ z.toNat) = false := decide_eq_false (by omega)
              go_wp2_with fail
              go_roundg (n - (i + 1))
              case measure => omega
              case rel => exact ⟨i + 1, l0, by omega, by go_num, rfl, HRR⟩
        · have e0 : decide (((i : Int) + 2) < n) = false := decide_eq_false (by omega)
          clear hin
          obtain ⟨x2, hx2⟩ : ∃ x2, x2 = (Fold.back l0).getD [] := ⟨_, rfl⟩
          obtain ⟨s2, hs2⟩ : ∃ s2, s2 = (Fold.back l0).isSome := ⟨_, rfl⟩
          have q0 := (HRR.out.read (k := 0) rfl).1
          have hxl := back_len l0
          rw [← hx2, ← q0] at hxl
          have HX2 := Lib.hid hx2
          have HS2 := Lib.hid hs2
          have HXL2 := Lib.hid hxl
          have hss2 : (s2 != s2) = false := by simp
          have HQ0 := Lib.hid q0
          clear q0 hx2 hs2 hxl
          go_wp2_with fail
          obtain ⟨-, -, -, hs3⟩ := HRR.out.read (k := 0) rfl
          refine (fBack (some ⟨g, 0, none⟩) n (n + 64) l0 x2 s2 wr HX2.out HS2.out HQ0.out hs3 (HL0.out _ HRR.out.b).1 (HL0.out _ HRR.out.b).2 (by omega)).mono ?_
          clear hs3
          rintro e w10 ⟨A10, n10, c10, rfl, HO10, hc10, hm10, HB10⟩
          have HR10 := Lib.hid (HRR.out.add HB10.out HO10.out)
          simp only [List.cons_append, List.nil_append] at HR10
          have hl10 : n10 ≤ 2147483647 := by have := (HR10.out.read (k := 4) rfl).1; have := HXL2.out; omega
          go_wp2_with fail
          obtain ⟨-, -, -, hs3⟩ := HR10.out.read (k := 0) rfl
          refine (cpB (some ⟨g, 0, none⟩) n (n + 64) l0 w10 _ HQ0.out hs3 (by omega)).mono ?_
          clear hs3
          rintro e w11 ⟨A11, n11, c11, rfl, HO11, hc11, hm11, HB11⟩
          have HR11 := Lib.hid (HR10.out.add HB11.out HO11.out)
          simp only [List.cons_append, List.nil_append] at HR11
          have e11 : n11 = n := by have := (HR11.out.read (k := 5) rfl).1; have := HQ0.out; omega
          have HE11 := Lib.hid e11
          clear e11
          go_wp2_with fail
          obtain ⟨q1, -, -, hs3⟩ := HR11.out.read (k := 5) rfl
          refine (rBack A11 n11 c11 l0 x2 s2 w11 HX2.out HS2.out q1 hs3 (by have := HE11.out; omega)).mono ?_
          clear q1 hs3
          rintro e w12 ⟨A12, n12, c12, rfl, HO12, hc12, hm12, HB12⟩
          have HR12 := Lib.hid (HR11.out.add HB12.out HO12.out)
          simp only [List.cons_append, List.nil_append] at HR12
          go_wp2_with fail
          obtain ⟨q1, -, -, hs1⟩ := HR12.out.read (k := 4) rfl
          obtain ⟨q2, -, -, hs2⟩ := HR12.out.read (k := 6) rfl
          refine (eqN A10 A12 n10 c10 n12 c12 _ _ w12 true q1 q2 (decide_eq_true rfl) _ _ hs1 hs2).mono ?_
          clear q1 q2 hs1 hs2
          rintro e w13 ⟨rfl, hb13⟩
          have HR13 := Lib.hid (HR12.out.far hb13)
          clear hb13
          go_wp2_with fail
          have HG0 := Lib.hid (BagB.start w13 w.heap.size HR13.out.b.size)
          have HR14 := Lib.hid (HR13.out.far ((Below.refl _ _).alloc (Nat.le_refl _) (bagB (.slice none 0 0))))
          refine (addBytes_any w.heap.size _ _ [] _ HG0.out (by simp) _ _ _).mono ?_
          rintro e w15 ⟨rfl, v1, hbg1, ho1⟩
          have HR15 := Lib.hid (HR14.out.bag HG0.out ho1)
          have HG1 := Lib.hid hbg1
          clear hbg1 ho1
          go_wp2_with fail
          refine (addBytes_any w.heap.size _ _ _ _ HG1.out (by simp) _ _ _).mono ?_
          rintro e w16 ⟨rfl, v2, hbg1, ho1⟩
          have HR16 := Lib.hid (HR15.out.bag HG1.out ho1)
          have HG2 := Lib.hid hbg1
          clear hbg1 ho1
          go_wp2_with fail
          refine (addBytes_any w.heap.size _ _ _ _ HG2.out (by simp) _ _ _).mono ?_
          rintro e w17 ⟨rfl, v3, hbg1, ho1⟩
          have HR17 := Lib.hid (HR16.out.bag HG2.out ho1)
          have HG3 := Lib.hid hbg1
          clear hbg1 ho1
          go_wp2_with fail
          refine (addBytes_any w.heap.size _ _ _ _ HG3.out (by simp) _ _ _).mono ?_
          rintro e w18 ⟨rfl, v4, hbg1, ho1⟩
          have HR18 := Lib.hid (HR17.out.bag HG3.out ho1)
          have HG4 := Lib.hid hbg1
          clear hbg1 ho1
          go_wp2_with fail
          obtain ⟨ho, hd⟩ := HR18.out.chosen (fs := [((some ⟨g, 0, none⟩, n, n + 64), l0), ((A4, n4, c4), l), ((A5, n5, c5), x), ((A10, n10, c10), x2)]) (.cons_cons _ (.cons _ (.cons_cons _ (.cons_cons _ (.cons_cons _ (.cons _ (.cons _ .slnil)))))))
          refine (apart_bytes w.heap.size _ v4 [(some ⟨g, 0, none⟩, n, n + 64), (A4, n4, c4), (A5, n5, c5), (A10, n10, c10)] w18 HG4.out (by simp) (by simp) ho (by simp; omega) hd).mono ?_
          clear ho hd
          rintro e w19 ⟨rfl, hb19⟩
          have HB19 := Lib.hid (HR18.out.b.trans hb19)
          clear hb19
          go_wp2_with fail
          go_ret
          exact ⟨rfl, HB19.out⟩
end
theorem foldReads_any (A : Option Addr) (ca : Nat) (b : List UInt8) (w : World) (hb : SliceAt Rep.byte w (under w.heap.size) A ca b) (hL : Ltrs w) (h0 : 0 < w.heap.size) :
    Calls Tryd.prog 6 #[.slice A b.length ca] w fun e w' => e = .returned (.bool true) ∧ Below w.heap.size w w' := by
  by_cases h : 2147483647 < b.length
  · exact foldReads_long A _ ca w h
  · exact foldReads_in A _ ca b w (Lib.hid rfl) (Lib.hid hb) (Lib.hid hL) h0 (by omega)
end Go.Proofs.YtgbjcpnlllaeeaaDoor
