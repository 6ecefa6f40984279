/- The walk of the law SpaceSwaps (printed by gen/swaps.py). Condition: room. -/
import Derived.Test.YtejjmjbkpodolaaWorks25
import Derived.Test.YtejjmjbkpodolaaCopyB
import Derived.Test.YtejjmjbkpodolaaEqBytes
namespace Go.Proofs.Ytejjmjbkpodolaa
open Go.RowKit Go.ChangeShapes Go.WideShapes Go.Deep

theorem eqB (A B : Option Addr) (n k c d : Nat) (xs ys : List UInt8) (r : Bool) (w : World) (S S' : Blocks) (hn : Hid (n = xs.length)) (hk : Hid (k = ys.length)) (hr : Hid (decide (xs = ys) = r)) (hx : Hid (SliceAt Rep.byte w S A c xs)) (hy : Hid (SliceAt Rep.byte w S' B d ys)) :
    Calls Try.prog 11 #[.slice A n c, .slice B k d] w fun e w' => e = .returned (.bool r) ∧ ∃ n, w' = w.drewN n := by
  have h := eqBytes A B c d xs ys w S S' hx.out hy.out
  rw [← hn.out, ← hk.out, hr.out] at h
  exact h
theorem keepG {α : Type} {r : Rep α} {w : World} {S : Blocks} {A : Option Addr} {c g : Nat} {l : List α} (h : SliceAt r w S A c l) (hS : ∀ b, S b → b < w.heap.size ∧ b ≠ g) : ∀ W, Only (fun b => b = g) w W → SliceAt r W S A c l :=
  fun _ ho => h.keep (fun _ h => h) (ho.same hS)
theorem onlyB {F : Blocks} {a b c : World} (h : Only F a b) (k : Below b.heap.size b c) : Only F a c := h.trans (Only.of_below k F) fun _ hx => .inl hx
theorem onlyO {F : Blocks} {a b c : World} (h : Only F a b) (k : Only F b c) : Only F a c := h.trans k fun _ hx => .inl hx
section
variable (w : World) (g m : Nat) (p h : List UInt8)
theorem xput_yes (A : Option Addr) (n c : Nat) (b : List UInt8) (S2 : Blocks) (s : Hid (Spc kP 48 w g m p h)) (hb : Hid (SliceAt Rep.byte w S2 A c b)) (hn : Hid (n = b.length)) (hm : n ≤ m) :
    Calls Try.prog 9 #[.pointer (some ⟨g, 0, none⟩), .slice A n c] w fun e w' => e = .returned (.int .i64 0) ∧ Hid (Spc kP 48 w' g m b h) ∧ Hid (Only (fun b => b = g) w w') := by
  have hmm := s.out.fits.2
  refine (xput w g m p h A n c b S2 s hb hn (by omega)).mono ?_
  rw [show Space.putR m p h b = (0, b, h) by rw [Space.putR, if_pos (by rw [← hn.out]; exact hm)]]
  rintro e w' ⟨q, rfl, HQ, HS, HO⟩
  exact ⟨by rw [HQ.out], HS, HO⟩
theorem xdo_at (x : Int) (y : UInt8) (q : Int) (p' h' : List UInt8) (hx : x = y.toNat) (hR : Hid (Space.doR m p h y = (q, p', h'))) (s : Hid (Spc kP 48 w g m p h)) :
    Calls Try.prog 10 #[.pointer (some ⟨g, 0, none⟩), .int .u8 x] w fun e w' => e = .returned (.int .i64 q) ∧ Hid (Spc kP 48 w' g m p' h') ∧ Hid (Only (fun b => b = g) w w') := by
  subst hx
  refine (xdo w g m p h y s).mono ?_
  rw [hR.out]
  rintro e w' ⟨q, rfl, HQ, HS, HO⟩
  exact ⟨by rw [HQ.out], HS, HO⟩
end
theorem Space.do_x (m : Nat) (p h : List UInt8) : Space.doR m p h 120 = (0, h, p) := rfl
theorem Space.do_h (m : Nat) (p h : List UInt8) : Space.doR m p h 104 = (0, p, p) := rfl
theorem Space.do_g (m : Nat) (p h : List UInt8) : Space.doR m p h 103 = (0, h, h) := rfl
theorem Space.do_H (m : Nat) (p h : List UInt8) : Space.doR m p h 72 = Space.moreR m p h := rfl
theorem Space.do_G (m : Nat) (p h : List UInt8) : Space.doR m p h 71 = Space.joinR m p h h := rfl
set_option maxRecDepth 100000 in
set_option maxHeartbeats 8000000 in
theorem swaps_yes (w : World) (A B : Option Addr) (n c k d m : Nat) (p h : List UInt8) (HP0 : Hid (SliceAt Rep.byte w (under w.heap.size) A c p)) (HH0 : Hid (SliceAt Rep.byte w (under w.heap.size) B d h)) (hn : Hid (n = p.length)) (hk : Hid (k = h.length)) (hnm : n ≤ m) (hkm : k ≤ m) (hm : m ≤ 1048576) (hroom : n + 1 + k ≤ m) :
    Calls Try.prog 3 #[.int .i64 m, .slice A n c, .slice B k d] w fun e w' => e = .returned (.bool true) ∧ Below w.heap.size w w' := by
  have hnc := HP0.out.len
  have hcm := HP0.out.max
  rw [← hn.out] at hnc
  have hkd := HH0.out.len
  have hdm := HH0.out.max
  rw [← hk.out] at hkd
  have d1 : decide ((16777216 : Int) < (n : Int) + (k : Int)) = false := decide_eq_false (by omega)
  have d2 : decide ((m : Int) < (n : Int)) = false := decide_eq_false (by omega)
  have d3 : decide ((m : Int) < (k : Int)) = false := decide_eq_false (by omega)
  have d4 : decide ((n : Int) + 1 + (k : Int) ≤ (m : Int)) = true := decide_eq_true (by omega)
  have HR1 : Hid (Space.moreR m p h = (0, p, h ++ 10 :: p)) := Lib.hid (by rw [Space.moreR, if_pos (by rw [← hn.out, ← hk.out]; omega)])
  have HR2 : Hid (Space.joinR m p h h = (0, p ++ 10 :: h, h)) := Lib.hid (by rw [Space.joinR, if_pos (by rw [← hn.out, ← hk.out]; omega)])
  go_enter Try.func3, Try.ntmps3
  go_wp2_with fail
  refine (works25_any w).mono ?_
  rintro e w1 ⟨rfl, hb1⟩
  have HB1 := Lib.hid hb1
  clear hb1
  go_wp2_with fail
  refine (xnew w1 m hm).mono ?_
  rintro e w2 ⟨g, rfl, hg, HS, HB2⟩
  have HB := Lib.hid (bfar HB1.out HB2.out)
  have hgw : w.heap.size ≤ g := Nat.le_trans HB1.out.size hg
  have HP : Hid (∀ W, Only (fun b => b = g) w2 W → SliceAt Rep.byte W (under w.heap.size) A c p) := Lib.hid (keepG (HP0.out.below HB.out (Nat.le_refl _)) fun b hb => ⟨Nat.lt_of_lt_of_le hb HB.out.size, by have h1 : b < w.heap.size := hb; omega⟩)
  have HH : Hid (∀ W, Only (fun b => b = g) w2 W → SliceAt Rep.byte W (under w.heap.size) B d h) := Lib.hid (keepG (HH0.out.below HB.out (Nat.le_refl _)) fun b hb => ⟨Nat.lt_of_lt_of_le hb HB.out.size, by have h1 : b < w.heap.size := hb; omega⟩)
  have HO := Lib.hid (Only.refl (fun b => b = g) w2)
  clear HB1 HB2 hg HP0 HH0
  go_wp2_with fail
  refine (xput_yes w2 g m [] [] B k d h (under w.heap.size) HS (Lib.hid (HH.out _ HO.out)) hk hkm).mono ?_
  rintro e w3 ⟨rfl, HS1, HO1⟩
  replace HO := Lib.hid (onlyO HO.out HO1.out)
  replace HS := HS1
  clear HS1 HO1
  go_wp2_with fail
  refine (xdo_at w3 g m h [] 120 120 0 [] h rfl (Lib.hid (Space.do_x _ _ _)) HS).mono ?_
  rintro e w4 ⟨rfl, HS1, HO1⟩
  replace HO := Lib.hid (onlyO HO.out HO1.out)
  replace HS := HS1
  clear HS1 HO1
  go_wp2_with fail
  refine (xput_yes w4 g m [] h A n c p (under w.heap.size) HS (Lib.hid (HP.out _ HO.out)) hn hnm).mono ?_
  rintro e w5 ⟨rfl, HS1, HO1⟩
  replace HO := Lib.hid (onlyO HO.out HO1.out)
  replace HS := HS1
  clear HS1 HO1
  go_wp2_with fail
  refine (xpattern w5 g m p h HS).mono ?_
  rintro e w6 ⟨A6, n6, c6, rfl, k6, l6, HN6, HW6, HB1⟩
  replace HO := Lib.hid (onlyB HO.out HB1.out)
  replace HS := Lib.hid (HS.out.far HB1.out)
  clear HB1
  go_wp2_with fail
  refine (eqB A6 A n6 n c6 c p p true w6 _ _ HN6 hn (Lib.hid (decide_eq_true rfl)) (Lib.hid HW6.out.above.2) (Lib.hid (HP.out _ HO.out))).mono ?_
  rintro e w7 ⟨rfl, nd, hd⟩
  have hbd : Below w6.heap.size w6 w7 := by rw [hd]; exact below_drewN _ _
  replace HO := Lib.hid (onlyB HO.out hbd)
  replace HS := Lib.hid (HS.out.far hbd)
  clear hd hbd nd k6 l6 HN6 HW6
  go_wp2_with fail
  refine (xhold w7 g m p h HS).mono ?_
  rintro e w8 ⟨A8, n8, c8, rfl, k8, l8, HN8, HW8, HB1⟩
  replace HO := Lib.hid (onlyB HO.out HB1.out)
  replace HS := Lib.hid (HS.out.far HB1.out)
  clear HB1
  go_wp2_with fail
  refine (eqB A8 B n8 k c8 d h h true w8 _ _ HN8 hk (Lib.hid (decide_eq_true rfl)) (Lib.hid HW8.out.above.2) (Lib.hid (HH.out _ HO.out))).mono ?_
  rintro e w9 ⟨rfl, nd, hd⟩
  have hbd : Below w8.heap.size w8 w9 := by rw [hd]; exact below_drewN _ _
  replace HO := Lib.hid (onlyB HO.out hbd)
  replace HS := Lib.hid (HS.out.far hbd)
  clear hd hbd nd k8 l8 HN8 HW8
  go_wp2_with fail
  refine (xdo_at w9 g m p h 120 120 0 h p rfl (Lib.hid (Space.do_x _ _ _)) HS).mono ?_
  rintro e w10 ⟨rfl, HS1, HO1⟩
  replace HO := Lib.hid (onlyO HO.out HO1.out)
  replace HS := HS1
  clear HS1 HO1
  go_wp2_with fail
  refine (xpattern w10 g m h p HS).mono ?_
  rintro e w11 ⟨A11, n11, c11, rfl, k11, l11, HN11, HW11, HB1⟩
  replace HO := Lib.hid (onlyB HO.out HB1.out)
  replace HS := Lib.hid (HS.out.far HB1.out)
  clear HB1
  go_wp2_with fail
  refine (eqB A11 B n11 k c11 d h h true w11 _ _ HN11 hk (Lib.hid (decide_eq_true rfl)) (Lib.hid HW11.out.above.2) (Lib.hid (HH.out _ HO.out))).mono ?_
  rintro e w12 ⟨rfl, nd, hd⟩
  have hbd : Below w11.heap.size w11 w12 := by rw [hd]; exact below_drewN _ _
  replace HO := Lib.hid (onlyB HO.out hbd)
  replace HS := Lib.hid (HS.out.far hbd)
  clear hd hbd nd k11 l11 HN11 HW11
  go_wp2_with fail
  refine (xhold w12 g m h p HS).mono ?_
  rintro e w13 ⟨A13, n13, c13, rfl, k13, l13, HN13, HW13, HB1⟩
  replace HO := Lib.hid (onlyB HO.out HB1.out)
  replace HS := Lib.hid (HS.out.far HB1.out)
  clear HB1
  go_wp2_with fail
  refine (eqB A13 A n13 n c13 c p p true w13 _ _ HN13 hn (Lib.hid (decide_eq_true rfl)) (Lib.hid HW13.out.above.2) (Lib.hid (HP.out _ HO.out))).mono ?_
  rintro e w14 ⟨rfl, nd, hd⟩
  have hbd : Below w13.heap.size w13 w14 := by rw [hd]; exact below_drewN _ _
  replace HO := Lib.hid (onlyB HO.out hbd)
  replace HS := Lib.hid (HS.out.far hbd)
  clear hd hbd nd k13 l13 HN13 HW13
  go_wp2_with fail
  refine (xdo_at w14 g m h p 120 120 0 p h rfl (Lib.hid (Space.do_x _ _ _)) HS).mono ?_
  rintro e w15 ⟨rfl, HS1, HO1⟩
  replace HO := Lib.hid (onlyO HO.out HO1.out)
  replace HS := HS1
  clear HS1 HO1
  go_wp2_with fail
  refine (xpattern w15 g m p h HS).mono ?_
  rintro e w16 ⟨A16, n16, c16, rfl, k16, l16, HN16, HW16, HB1⟩
  replace HO := Lib.hid (onlyB HO.out HB1.out)
  replace HS := Lib.hid (HS.out.far HB1.out)
  clear HB1
  go_wp2_with fail
  refine (eqB A16 A n16 n c16 c p p true w16 _ _ HN16 hn (Lib.hid (decide_eq_true rfl)) (Lib.hid HW16.out.above.2) (Lib.hid (HP.out _ HO.out))).mono ?_
  rintro e w17 ⟨rfl, nd, hd⟩
  have hbd : Below w16.heap.size w16 w17 := by rw [hd]; exact below_drewN _ _
  replace HO := Lib.hid (onlyB HO.out hbd)
  replace HS := Lib.hid (HS.out.far hbd)
  clear hd hbd nd k16 l16 HN16 HW16
  go_wp2_with fail
  refine (xhold w17 g m p h HS).mono ?_
  rintro e w18 ⟨A18, n18, c18, rfl, k18, l18, HN18, HW18, HB1⟩
  replace HO := Lib.hid (onlyB HO.out HB1.out)
  replace HS := Lib.hid (HS.out.far HB1.out)
  clear HB1
  go_wp2_with fail
  refine (eqB A18 B n18 k c18 d h h true w18 _ _ HN18 hk (Lib.hid (decide_eq_true rfl)) (Lib.hid HW18.out.above.2) (Lib.hid (HH.out _ HO.out))).mono ?_
  rintro e w19 ⟨rfl, nd, hd⟩
  have hbd : Below w18.heap.size w18 w19 := by rw [hd]; exact below_drewN _ _
  replace HO := Lib.hid (onlyB HO.out hbd)
  replace HS := Lib.hid (HS.out.far hbd)
  clear hd hbd nd k18 l18 HN18 HW18
  go_wp2_with fail
  refine (copyB A n c p w19 (under w.heap.size) hn.out (HP.out _ HO.out) (by omega)).mono ?_
  rintro e w20 ⟨A1, c1, rfl, q1, q2, HO1, HB1⟩
  go_wp2_with (first
    | (at_builtin; refine wpList_append_bytes _ rfl (.tmp 126) (.tmp 127) 22 rfl w19.heap.size 5 stBytes _ p rfl (HO1.out.alloc _) (under (w20.heap.size + 1)) _ 1 _ [10] rfl (oneByte w20 10 10 rfl _ (Nat.lt_succ_self _)) rfl (by have := hn.out; simp; omega) (by have := HB1.out.size; simp; omega) ?_; intro v2 w21 hown2 hg2 hat2; obtain ⟨B2, f2, d2, rfl, -, -, -⟩ := hown2.form; have HB2 := Lib.hid (below_own (HB1.out.alloc HB1.out.size _) (HO1.out.alloc _) hg2 (by have := HB1.out.size; simp; omega)); have HO2 := Lib.hid hown2; clear hown2 hg2 hat2)
    | (at_builtin; refine wpList_append_bytes _ rfl (.tmp 129) (.tmp 130) 22 rfl w19.heap.size 5 stBytes _ (p ++ [10]) rfl HO2.out (under w.heap.size) B k d h rfl (HH.out _ (onlyB HO.out HB2.out)) hk.out.symm (by have := hn.out; simp; omega) HB2.out.size ?_; intro v3 w22 hown3 hg3 hat3; obtain ⟨phA, phn, phc, rfl, hk3, ph1, ph2⟩ := hown3.form; have HB3 := Lib.hid (below_own HB2.out HO2.out hg3 HB2.out.size); have HO3 := Lib.hid hown3; clear hown3 hg3 hat3)
    | fail)
  have HNph : Hid (phn = (p ++ 10 :: h).length) := Lib.hid (by rw [hk3.out]; simp)
  have HXph : Hid (∀ W, Only (fun b => b = g) w22 W → SliceAt Rep.byte W (btw w19.heap.size w22.heap.size) phA phc (p ++ 10 :: h)) := Lib.hid (keepG (by have := HO3.out.above.2; simpa using this) fun b hb => ⟨hb.2, by have h1 := hb.1; have h2 := HS.out.glt; omega⟩)
  replace HO := Lib.hid (onlyB HO.out HB3.out)
  replace HS := Lib.hid (HS.out.far HB3.out)
  have HOph := Lib.hid (Only.refl (fun b => b = g) w22)
  clear HO1 HB1 HO2 HB2 HO3 HB3 q1 q2 hk3
  go_wp2_with fail
  refine (copyB B k d h w22 (under w.heap.size) hk.out (HH.out _ HO.out) (by omega)).mono ?_
  rintro e w23 ⟨A1, c1, rfl, q1, q2, HO1, HB1⟩
  go_wp2_with (first
    | (at_builtin; refine wpList_append_bytes _ rfl (.tmp 134) (.tmp 135) 22 rfl w22.heap.size 5 stBytes _ h rfl (HO1.out.alloc _) (under (w23.heap.size + 1)) _ 1 _ [10] rfl (oneByte w23 10 10 rfl _ (Nat.lt_succ_self _)) rfl (by have := hk.out; simp; omega) (by have := HB1.out.size; simp; omega) ?_; intro v2 w24 hown2 hg2 hat2; obtain ⟨B2, f2, d2, rfl, -, -, -⟩ := hown2.form; have HB2 := Lib.hid (below_own (HB1.out.alloc HB1.out.size _) (HO1.out.alloc _) hg2 (by have := HB1.out.size; simp; omega)); have HO2 := Lib.hid hown2; clear hown2 hg2 hat2)
    | (at_builtin; refine wpList_append_bytes _ rfl (.tmp 137) (.tmp 138) 22 rfl w22.heap.size 5 stBytes _ (h ++ [10]) rfl HO2.out (under w.heap.size) A n c p rfl (HP.out _ (onlyB HO.out HB2.out)) hn.out.symm (by have := hk.out; simp; omega) HB2.out.size ?_; intro v3 w25 hown3 hg3 hat3; obtain ⟨hpA, hpn, hpc, rfl, hk3, hp1, hp2⟩ := hown3.form; have HB3 := Lib.hid (below_own HB2.out HO2.out hg3 HB2.out.size); have HO3 := Lib.hid hown3; clear hown3 hg3 hat3)
    | fail)
  have HNhp : Hid (hpn = (h ++ 10 :: p).length) := Lib.hid (by rw [hk3.out]; simp)
  have HXhp : Hid (∀ W, Only (fun b => b = g) w25 W → SliceAt Rep.byte W (btw w22.heap.size w25.heap.size) hpA hpc (h ++ 10 :: p)) := Lib.hid (keepG (by have := HO3.out.above.2; simpa using this) fun b hb => ⟨hb.2, by have h1 := hb.1; have h2 := HS.out.glt; omega⟩)
  replace HOph := Lib.hid (onlyB HOph.out HB3.out)
  replace HO := Lib.hid (onlyB HO.out HB3.out)
  replace HS := Lib.hid (HS.out.far HB3.out)
  have HOhp := Lib.hid (Only.refl (fun b => b = g) w25)
  clear HO1 HB1 HO2 HB2 HO3 HB3 q1 q2 hk3
  go_wp2_with fail
  refine (xdo_at w25 g m p h 72 72 0 p (h ++ 10 :: p) rfl (Lib.hid ((Space.do_H _ _ _).trans HR1.out)) HS).mono ?_
  rintro e w26 ⟨rfl, HS1, HO1⟩
  replace HOph := Lib.hid (onlyO HOph.out HO1.out)
  replace HOhp := Lib.hid (onlyO HOhp.out HO1.out)
  replace HO := Lib.hid (onlyO HO.out HO1.out)
  replace HS := HS1
  clear HS1 HO1
  go_wp2_with fail
  refine (xpattern w26 g m p (h ++ 10 :: p) HS).mono ?_
  rintro e w27 ⟨A27, n27, c27, rfl, k27, l27, HN27, HW27, HB1⟩
  replace HOph := Lib.hid (onlyB HOph.out HB1.out)
  replace HOhp := Lib.hid (onlyB HOhp.out HB1.out)
  replace HO := Lib.hid (onlyB HO.out HB1.out)
  replace HS := Lib.hid (HS.out.far HB1.out)
  clear HB1
  go_wp2_with fail
  refine (eqB A27 A n27 n c27 c p p true w27 _ _ HN27 hn (Lib.hid (decide_eq_true rfl)) (Lib.hid HW27.out.above.2) (Lib.hid (HP.out _ HO.out))).mono ?_
  rintro e w28 ⟨rfl, nd, hd⟩
  have hbd : Below w27.heap.size w27 w28 := by rw [hd]; exact below_drewN _ _
  replace HOph := Lib.hid (onlyB HOph.out hbd)
  replace HOhp := Lib.hid (onlyB HOhp.out hbd)
  replace HO := Lib.hid (onlyB HO.out hbd)
  replace HS := Lib.hid (HS.out.far hbd)
  clear hd hbd nd k27 l27 HN27 HW27
  go_wp2_with fail
  refine (xhold w28 g m p (h ++ 10 :: p) HS).mono ?_
  rintro e w29 ⟨A29, n29, c29, rfl, k29, l29, HN29, HW29, HB1⟩
  replace HOph := Lib.hid (onlyB HOph.out HB1.out)
  replace HOhp := Lib.hid (onlyB HOhp.out HB1.out)
  replace HO := Lib.hid (onlyB HO.out HB1.out)
  replace HS := Lib.hid (HS.out.far HB1.out)
  clear HB1
  go_wp2_with fail
  refine (eqB A29 hpA n29 hpn c29 hpc (h ++ 10 :: p) (h ++ 10 :: p) true w29 _ _ HN29 HNhp (Lib.hid (decide_eq_true rfl)) (Lib.hid HW29.out.above.2) (Lib.hid (HXhp.out _ HOhp.out))).mono ?_
  rintro e w30 ⟨rfl, nd, hd⟩
  have hbd : Below w29.heap.size w29 w30 := by rw [hd]; exact below_drewN _ _
  replace HOph := Lib.hid (onlyB HOph.out hbd)
  replace HOhp := Lib.hid (onlyB HOhp.out hbd)
  replace HO := Lib.hid (onlyB HO.out hbd)
  replace HS := Lib.hid (HS.out.far hbd)
  clear hd hbd nd k29 l29 HN29 HW29
  go_wp2_with fail
  refine (xput_yes w30 g m p (h ++ 10 :: p) B k d h (under w.heap.size) HS (Lib.hid (HH.out _ HO.out)) hk hkm).mono ?_
  rintro e w31 ⟨rfl, HS1, HO1⟩
  replace HOph := Lib.hid (onlyO HOph.out HO1.out)
  replace HOhp := Lib.hid (onlyO HOhp.out HO1.out)
  replace HO := Lib.hid (onlyO HO.out HO1.out)
  replace HS := HS1
  clear HS1 HO1
  go_wp2_with fail
  refine (xdo_at w31 g m h (h ++ 10 :: p) 104 104 0 h h rfl (Lib.hid (Space.do_h _ _ _)) HS).mono ?_
  rintro e w32 ⟨rfl, HS1, HO1⟩
  replace HOph := Lib.hid (onlyO HOph.out HO1.out)
  replace HOhp := Lib.hid (onlyO HOhp.out HO1.out)
  replace HO := Lib.hid (onlyO HO.out HO1.out)
  replace HS := HS1
  clear HS1 HO1
  go_wp2_with fail
  refine (xput_yes w32 g m h h A n c p (under w.heap.size) HS (Lib.hid (HP.out _ HO.out)) hn hnm).mono ?_
  rintro e w33 ⟨rfl, HS1, HO1⟩
  replace HOph := Lib.hid (onlyO HOph.out HO1.out)
  replace HOhp := Lib.hid (onlyO HOhp.out HO1.out)
  replace HO := Lib.hid (onlyO HO.out HO1.out)
  replace HS := HS1
  clear HS1 HO1
  go_wp2_with fail
  refine (xdo_at w33 g m p h 71 71 0 (p ++ 10 :: h) h rfl (Lib.hid ((Space.do_G _ _ _).trans HR2.out)) HS).mono ?_
  rintro e w34 ⟨rfl, HS1, HO1⟩
  replace HOph := Lib.hid (onlyO HOph.out HO1.out)
  replace HOhp := Lib.hid (onlyO HOhp.out HO1.out)
  replace HO := Lib.hid (onlyO HO.out HO1.out)
  replace HS := HS1
  clear HS1 HO1
  go_wp2_with fail
  refine (xhold w34 g m (p ++ 10 :: h) h HS).mono ?_
  rintro e w35 ⟨A35, n35, c35, rfl, k35, l35, HN35, HW35, HB1⟩
  replace HOph := Lib.hid (onlyB HOph.out HB1.out)
  replace HOhp := Lib.hid (onlyB HOhp.out HB1.out)
  replace HO := Lib.hid (onlyB HO.out HB1.out)
  replace HS := Lib.hid (HS.out.far HB1.out)
  clear HB1
  go_wp2_with fail
  refine (eqB A35 B n35 k c35 d h h true w35 _ _ HN35 hk (Lib.hid (decide_eq_true rfl)) (Lib.hid HW35.out.above.2) (Lib.hid (HH.out _ HO.out))).mono ?_
  rintro e w36 ⟨rfl, nd, hd⟩
  have hbd : Below w35.heap.size w35 w36 := by rw [hd]; exact below_drewN _ _
  replace HOph := Lib.hid (onlyB HOph.out hbd)
  replace HOhp := Lib.hid (onlyB HOhp.out hbd)
  replace HO := Lib.hid (onlyB HO.out hbd)
  replace HS := Lib.hid (HS.out.far hbd)
  clear hd hbd nd k35 l35 HN35 HW35
  go_wp2_with fail
  refine (xpattern w36 g m (p ++ 10 :: h) h HS).mono ?_
  rintro e w37 ⟨A37, n37, c37, rfl, k37, l37, HN37, HW37, HB1⟩
  replace HOph := Lib.hid (onlyB HOph.out HB1.out)
  replace HOhp := Lib.hid (onlyB HOhp.out HB1.out)
  replace HO := Lib.hid (onlyB HO.out HB1.out)
  replace HS := Lib.hid (HS.out.far HB1.out)
  clear HB1
  go_wp2_with fail
  refine (eqB A37 phA n37 phn c37 phc (p ++ 10 :: h) (p ++ 10 :: h) true w37 _ _ HN37 HNph (Lib.hid (decide_eq_true rfl)) (Lib.hid HW37.out.above.2) (Lib.hid (HXph.out _ HOph.out))).mono ?_
  rintro e w38 ⟨rfl, nd, hd⟩
  have hbd : Below w37.heap.size w37 w38 := by rw [hd]; exact below_drewN _ _
  replace HOph := Lib.hid (onlyB HOph.out hbd)
  replace HOhp := Lib.hid (onlyB HOhp.out hbd)
  replace HO := Lib.hid (onlyB HO.out hbd)
  replace HS := Lib.hid (HS.out.far hbd)
  clear hd hbd nd k37 l37 HN37 HW37
  go_wp2_with fail
  refine (xdo_at w38 g m (p ++ 10 :: h) h 104 104 0 (p ++ 10 :: h) (p ++ 10 :: h) rfl (Lib.hid (Space.do_h _ _ _)) HS).mono ?_
  rintro e w39 ⟨rfl, HS1, HO1⟩
  replace HOph := Lib.hid (onlyO HOph.out HO1.out)
  replace HOhp := Lib.hid (onlyO HOhp.out HO1.out)
  replace HO := Lib.hid (onlyO HO.out HO1.out)
  replace HS := HS1
  clear HS1 HO1
  go_wp2_with fail
  have HG : Hid (g < w39.heap.size) := Lib.hid HS.out.glt
  refine (xhold w39 g m (p ++ 10 :: h) (p ++ 10 :: h) HS).mono ?_
  rintro e w40 ⟨A40, n40, c40, rfl, k40, l40, HN40, HW40, HB1⟩
  replace HOph := Lib.hid (onlyB HOph.out HB1.out)
  replace HOhp := Lib.hid (onlyB HOhp.out HB1.out)
  replace HO := Lib.hid (onlyB HO.out HB1.out)
  replace HS := Lib.hid (HS.out.far HB1.out)
  clear HB1
  have HX40 : Hid (∀ W, Only (fun b => b = g) w40 W → SliceAt Rep.byte W (btw w39.heap.size w40.heap.size) A40 c40 (p ++ 10 :: h)) := Lib.hid (keepG HW40.out.above.2 fun b hb => ⟨hb.2, by have h1 := hb.1; have h2 := HG.out; omega⟩)
  have HOheld := Lib.hid (Only.refl (fun b => b = g) w40)
  go_wp2_with fail
  refine (xdo_at w40 g m (p ++ 10 :: h) (p ++ 10 :: h) 103 103 0 (p ++ 10 :: h) (p ++ 10 :: h) rfl (Lib.hid (Space.do_g _ _ _)) HS).mono ?_
  rintro e w41 ⟨rfl, HS1, HO1⟩
  replace HOph := Lib.hid (onlyO HOph.out HO1.out)
  replace HOhp := Lib.hid (onlyO HOhp.out HO1.out)
  replace HOheld := Lib.hid (onlyO HOheld.out HO1.out)
  replace HO := Lib.hid (onlyO HO.out HO1.out)
  replace HS := HS1
  clear HS1 HO1
  go_wp2_with fail
  refine (xpattern w41 g m (p ++ 10 :: h) (p ++ 10 :: h) HS).mono ?_
  rintro e w42 ⟨A42, n42, c42, rfl, k42, l42, HN42, HW42, HB1⟩
  replace HOph := Lib.hid (onlyB HOph.out HB1.out)
  replace HOhp := Lib.hid (onlyB HOhp.out HB1.out)
  replace HOheld := Lib.hid (onlyB HOheld.out HB1.out)
  replace HO := Lib.hid (onlyB HO.out HB1.out)
  replace HS := Lib.hid (HS.out.far HB1.out)
  clear HB1
  go_wp2_with fail
  refine (eqB A42 A40 n42 n40 c42 c40 (p ++ 10 :: h) (p ++ 10 :: h) true w42 _ _ HN42 HN40 (Lib.hid (decide_eq_true rfl)) (Lib.hid HW42.out.above.2) (Lib.hid (HX40.out _ HOheld.out))).mono ?_
  rintro e w43 ⟨rfl, nd, hd⟩
  have hbd : Below w42.heap.size w42 w43 := by rw [hd]; exact below_drewN _ _
  replace HOph := Lib.hid (onlyB HOph.out hbd)
  replace HOhp := Lib.hid (onlyB HOhp.out hbd)
  replace HOheld := Lib.hid (onlyB HOheld.out hbd)
  replace HO := Lib.hid (onlyB HO.out hbd)
  replace HS := Lib.hid (HS.out.far hbd)
  clear hd hbd nd k42 l42 HN42 HW42
  go_wp2_with fail
  go_ret
  exact ⟨rfl, HB.out.trans (HO.out.one HB.out.size hgw)⟩
set_option maxRecDepth 100000 in
set_option maxHeartbeats 8000000 in
theorem swaps_no (w : World) (A B : Option Addr) (n c k d m : Nat) (p h : List UInt8) (HP0 : Hid (SliceAt Rep.byte w (under w.heap.size) A c p)) (HH0 : Hid (SliceAt Rep.byte w (under w.heap.size) B d h)) (hn : Hid (n = p.length)) (hk : Hid (k = h.length)) (hnm : n ≤ m) (hkm : k ≤ m) (hm : m ≤ 1048576) (hroom : m < n + 1 + k) :
    Calls Try.prog 3 #[.int .i64 m, .slice A n c, .slice B k d] w fun e w' => e = .returned (.bool true) ∧ Below w.heap.size w w' := by
  have hnc := HP0.out.len
  have hcm := HP0.out.max
  rw [← hn.out] at hnc
  have hkd := HH0.out.len
  have hdm := HH0.out.max
  rw [← hk.out] at hkd
  have d1 : decide ((16777216 : Int) < (n : Int) + (k : Int)) = false := decide_eq_false (by omega)
  have d2 : decide ((m : Int) < (n : Int)) = false := decide_eq_false (by omega)
  have d3 : decide ((m : Int) < (k : Int)) = false := decide_eq_false (by omega)
  have d4 : decide ((n : Int) + 1 + (k : Int) ≤ (m : Int)) = false := decide_eq_false (by omega)
  have HR1 : Hid (Space.moreR m p h = (62, p, h)) := Lib.hid (by rw [Space.moreR, if_neg (by rw [← hn.out, ← hk.out]; omega)])
  have HR2 : Hid (Space.joinR m p h h = (62, p, h)) := Lib.hid (by rw [Space.joinR, if_neg (by rw [← hn.out, ← hk.out]; omega)])
  go_enter Try.func3, Try.ntmps3
  go_wp2_with fail
  refine (works25_any w).mono ?_
  rintro e w1 ⟨rfl, hb1⟩
  have HB1 := Lib.hid hb1
  clear hb1
  go_wp2_with fail
  refine (xnew w1 m hm).mono ?_
  rintro e w2 ⟨g, rfl, hg, HS, HB2⟩
  have HB := Lib.hid (bfar HB1.out HB2.out)
  have hgw : w.heap.size ≤ g := Nat.le_trans HB1.out.size hg
  have HP : Hid (∀ W, Only (fun b => b = g) w2 W → SliceAt Rep.byte W (under w.heap.size) A c p) := Lib.hid (keepG (HP0.out.below HB.out (Nat.le_refl _)) fun b hb => ⟨Nat.lt_of_lt_of_le hb HB.out.size, by have h1 : b < w.heap.size := hb; omega⟩)
  have HH : Hid (∀ W, Only (fun b => b = g) w2 W → SliceAt Rep.byte W (under w.heap.size) B d h) := Lib.hid (keepG (HH0.out.below HB.out (Nat.le_refl _)) fun b hb => ⟨Nat.lt_of_lt_of_le hb HB.out.size, by have h1 : b < w.heap.size := hb; omega⟩)
  have HO := Lib.hid (Only.refl (fun b => b = g) w2)
  clear HB1 HB2 hg HP0 HH0
  go_wp2_with fail
  refine (xput_yes w2 g m [] [] B k d h (under w.heap.size) HS (Lib.hid (HH.out _ HO.out)) hk hkm).mono ?_
  rintro e w3 ⟨rfl, HS1, HO1⟩
  replace HO := Lib.hid (onlyO HO.out HO1.out)
  replace HS := HS1
  clear HS1 HO1
  go_wp2_with fail
  refine (xdo_at w3 g m h [] 120 120 0 [] h rfl (Lib.hid (Space.do_x _ _ _)) HS).mono ?_
  rintro e w4 ⟨rfl, HS1, HO1⟩
  replace HO := Lib.hid (onlyO HO.out HO1.out)
  replace HS := HS1
  clear HS1 HO1
  go_wp2_with fail
  refine (xput_yes w4 g m [] h A n c p (under w.heap.size) HS (Lib.hid (HP.out _ HO.out)) hn hnm).mono ?_
  rintro e w5 ⟨rfl, HS1, HO1⟩
  replace HO := Lib.hid (onlyO HO.out HO1.out)
  replace HS := HS1
  clear HS1 HO1
  go_wp2_with fail
  refine (xpattern w5 g m p h HS).mono ?_
  rintro e w6 ⟨A6, n6, c6, rfl, k6, l6, HN6, HW6, HB1⟩
  replace HO := Lib.hid (onlyB HO.out HB1.out)
  replace HS := Lib.hid (HS.out.far HB1.out)
  clear HB1
  go_wp2_with fail
  refine (eqB A6 A n6 n c6 c p p true w6 _ _ HN6 hn (Lib.hid (decide_eq_true rfl)) (Lib.hid HW6.out.above.2) (Lib.hid (HP.out _ HO.out))).mono ?_
  rintro e w7 ⟨rfl, nd, hd⟩
  have hbd : Below w6.heap.size w6 w7 := by rw [hd]; exact below_drewN _ _
  replace HO := Lib.hid (onlyB HO.out hbd)
  replace HS := Lib.hid (HS.out.far hbd)
  clear hd hbd nd k6 l6 HN6 HW6
  go_wp2_with fail
  refine (xhold w7 g m p h HS).mono ?_
  rintro e w8 ⟨A8, n8, c8, rfl, k8, l8, HN8, HW8, HB1⟩
  replace HO := Lib.hid (onlyB HO.out HB1.out)
  replace HS := Lib.hid (HS.out.far HB1.out)
  clear HB1
  go_wp2_with fail
  refine (eqB A8 B n8 k c8 d h h true w8 _ _ HN8 hk (Lib.hid (decide_eq_true rfl)) (Lib.hid HW8.out.above.2) (Lib.hid (HH.out _ HO.out))).mono ?_
  rintro e w9 ⟨rfl, nd, hd⟩
  have hbd : Below w8.heap.size w8 w9 := by rw [hd]; exact below_drewN _ _
  replace HO := Lib.hid (onlyB HO.out hbd)
  replace HS := Lib.hid (HS.out.far hbd)
  clear hd hbd nd k8 l8 HN8 HW8
  go_wp2_with fail
  refine (xdo_at w9 g m p h 120 120 0 h p rfl (Lib.hid (Space.do_x _ _ _)) HS).mono ?_
  rintro e w10 ⟨rfl, HS1, HO1⟩
  replace HO := Lib.hid (onlyO HO.out HO1.out)
  replace HS := HS1
  clear HS1 HO1
  go_wp2_with fail
  refine (xpattern w10 g m h p HS).mono ?_
  rintro e w11 ⟨A11, n11, c11, rfl, k11, l11, HN11, HW11, HB1⟩
  replace HO := Lib.hid (onlyB HO.out HB1.out)
  replace HS := Lib.hid (HS.out.far HB1.out)
  clear HB1
  go_wp2_with fail
  refine (eqB A11 B n11 k c11 d h h true w11 _ _ HN11 hk (Lib.hid (decide_eq_true rfl)) (Lib.hid HW11.out.above.2) (Lib.hid (HH.out _ HO.out))).mono ?_
  rintro e w12 ⟨rfl, nd, hd⟩
  have hbd : Below w11.heap.size w11 w12 := by rw [hd]; exact below_drewN _ _
  replace HO := Lib.hid (onlyB HO.out hbd)
  replace HS := Lib.hid (HS.out.far hbd)
  clear hd hbd nd k11 l11 HN11 HW11
  go_wp2_with fail
  refine (xhold w12 g m h p HS).mono ?_
  rintro e w13 ⟨A13, n13, c13, rfl, k13, l13, HN13, HW13, HB1⟩
  replace HO := Lib.hid (onlyB HO.out HB1.out)
  replace HS := Lib.hid (HS.out.far HB1.out)
  clear HB1
  go_wp2_with fail
  refine (eqB A13 A n13 n c13 c p p true w13 _ _ HN13 hn (Lib.hid (decide_eq_true rfl)) (Lib.hid HW13.out.above.2) (Lib.hid (HP.out _ HO.out))).mono ?_
  rintro e w14 ⟨rfl, nd, hd⟩
  have hbd : Below w13.heap.size w13 w14 := by rw [hd]; exact below_drewN _ _
  replace HO := Lib.hid (onlyB HO.out hbd)
  replace HS := Lib.hid (HS.out.far hbd)
  clear hd hbd nd k13 l13 HN13 HW13
  go_wp2_with fail
  refine (xdo_at w14 g m h p 120 120 0 p h rfl (Lib.hid (Space.do_x _ _ _)) HS).mono ?_
  rintro e w15 ⟨rfl, HS1, HO1⟩
  replace HO := Lib.hid (onlyO HO.out HO1.out)
  replace HS := HS1
  clear HS1 HO1
  go_wp2_with fail
  refine (xpattern w15 g m p h HS).mono ?_
  rintro e w16 ⟨A16, n16, c16, rfl, k16, l16, HN16, HW16, HB1⟩
  replace HO := Lib.hid (onlyB HO.out HB1.out)
  replace HS := Lib.hid (HS.out.far HB1.out)
  clear HB1
  go_wp2_with fail
  refine (eqB A16 A n16 n c16 c p p true w16 _ _ HN16 hn (Lib.hid (decide_eq_true rfl)) (Lib.hid HW16.out.above.2) (Lib.hid (HP.out _ HO.out))).mono ?_
  rintro e w17 ⟨rfl, nd, hd⟩
  have hbd : Below w16.heap.size w16 w17 := by rw [hd]; exact below_drewN _ _
  replace HO := Lib.hid (onlyB HO.out hbd)
  replace HS := Lib.hid (HS.out.far hbd)
  clear hd hbd nd k16 l16 HN16 HW16
  go_wp2_with fail
  refine (xhold w17 g m p h HS).mono ?_
  rintro e w18 ⟨A18, n18, c18, rfl, k18, l18, HN18, HW18, HB1⟩
  replace HO := Lib.hid (onlyB HO.out HB1.out)
  replace HS := Lib.hid (HS.out.far HB1.out)
  clear HB1
  go_wp2_with fail
  refine (eqB A18 B n18 k c18 d h h true w18 _ _ HN18 hk (Lib.hid (decide_eq_true rfl)) (Lib.hid HW18.out.above.2) (Lib.hid (HH.out _ HO.out))).mono ?_
  rintro e w19 ⟨rfl, nd, hd⟩
  have hbd : Below w18.heap.size w18 w19 := by rw [hd]; exact below_drewN _ _
  replace HO := Lib.hid (onlyB HO.out hbd)
  replace HS := Lib.hid (HS.out.far hbd)
  clear hd hbd nd k18 l18 HN18 HW18
  go_wp2_with fail
  refine (copyB A n c p w19 (under w.heap.size) hn.out (HP.out _ HO.out) (by omega)).mono ?_
  rintro e w20 ⟨A1, c1, rfl, q1, q2, HO1, HB1⟩
  go_wp2_with (first
    | (at_builtin; refine wpList_append_bytes _ rfl (.tmp 126) (.tmp 127) 22 rfl w19.heap.size 5 stBytes _ p rfl (HO1.out.alloc _) (under (w20.heap.size + 1)) _ 1 _ [10] rfl (oneByte w20 10 10 rfl _ (Nat.lt_succ_self _)) rfl (by have := hn.out; simp; omega) (by have := HB1.out.size; simp; omega) ?_; intro v2 w21 hown2 hg2 hat2; obtain ⟨B2, f2, d2, rfl, -, -, -⟩ := hown2.form; have HB2 := Lib.hid (below_own (HB1.out.alloc HB1.out.size _) (HO1.out.alloc _) hg2 (by have := HB1.out.size; simp; omega)); have HO2 := Lib.hid hown2; clear hown2 hg2 hat2)
    | (at_builtin; refine wpList_append_bytes _ rfl (.tmp 129) (.tmp 130) 22 rfl w19.heap.size 5 stBytes _ (p ++ [10]) rfl HO2.out (under w.heap.size) B k d h rfl (HH.out _ (onlyB HO.out HB2.out)) hk.out.symm (by have := hn.out; simp; omega) HB2.out.size ?_; intro v3 w22 hown3 hg3 hat3; obtain ⟨phA, phn, phc, rfl, hk3, ph1, ph2⟩ := hown3.form; have HB3 := Lib.hid (below_own HB2.out HO2.out hg3 HB2.out.size); have HO3 := Lib.hid hown3; clear hown3 hg3 hat3)
    | fail)
  have HNph : Hid (phn = (p ++ 10 :: h).length) := Lib.hid (by rw [hk3.out]; simp)
  have HXph : Hid (∀ W, Only (fun b => b = g) w22 W → SliceAt Rep.byte W (btw w19.heap.size w22.heap.size) phA phc (p ++ 10 :: h)) := Lib.hid (keepG (by have := HO3.out.above.2; simpa using this) fun b hb => ⟨hb.2, by have h1 := hb.1; have h2 := HS.out.glt; omega⟩)
  replace HO := Lib.hid (onlyB HO.out HB3.out)
  replace HS := Lib.hid (HS.out.far HB3.out)
  have HOph := Lib.hid (Only.refl (fun b => b = g) w22)
  clear HO1 HB1 HO2 HB2 HO3 HB3 q1 q2 hk3
  go_wp2_with fail
  refine (copyB B k d h w22 (under w.heap.size) hk.out (HH.out _ HO.out) (by omega)).mono ?_
  rintro e w23 ⟨A1, c1, rfl, q1, q2, HO1, HB1⟩
  go_wp2_with (first
    | (at_builtin; refine wpList_append_bytes _ rfl (.tmp 134) (.tmp 135) 22 rfl w22.heap.size 5 stBytes _ h rfl (HO1.out.alloc _) (under (w23.heap.size + 1)) _ 1 _ [10] rfl (oneByte w23 10 10 rfl _ (Nat.lt_succ_self _)) rfl (by have := hk.out; simp; omega) (by have := HB1.out.size; simp; omega) ?_; intro v2 w24 hown2 hg2 hat2; obtain ⟨B2, f2, d2, rfl, -, -, -⟩ := hown2.form; have HB2 := Lib.hid (below_own (HB1.out.alloc HB1.out.size _) (HO1.out.alloc _) hg2 (by have := HB1.out.size; simp; omega)); have HO2 := Lib.hid hown2; clear hown2 hg2 hat2)
    | (at_builtin; refine wpList_append_bytes _ rfl (.tmp 137) (.tmp 138) 22 rfl w22.heap.size 5 stBytes _ (h ++ [10]) rfl HO2.out (under w.heap.size) A n c p rfl (HP.out _ (onlyB HO.out HB2.out)) hn.out.symm (by have := hk.out; simp; omega) HB2.out.size ?_; intro v3 w25 hown3 hg3 hat3; obtain ⟨hpA, hpn, hpc, rfl, hk3, hp1, hp2⟩ := hown3.form; have HB3 := Lib.hid (below_own HB2.out HO2.out hg3 HB2.out.size); have HO3 := Lib.hid hown3; clear hown3 hg3 hat3)
    | fail)
  have HNhp : Hid (hpn = (h ++ 10 :: p).length) := Lib.hid (by rw [hk3.out]; simp)
  have HXhp : Hid (∀ W, Only (fun b => b = g) w25 W → SliceAt Rep.byte W (btw w22.heap.size w25.heap.size) hpA hpc (h ++ 10 :: p)) := Lib.hid (keepG (by have := HO3.out.above.2; simpa using this) fun b hb => ⟨hb.2, by have h1 := hb.1; have h2 := HS.out.glt; omega⟩)
  replace HOph := Lib.hid (onlyB HOph.out HB3.out)
  replace HO := Lib.hid (onlyB HO.out HB3.out)
  replace HS := Lib.hid (HS.out.far HB3.out)
  have HOhp := Lib.hid (Only.refl (fun b => b = g) w25)
  clear HO1 HB1 HO2 HB2 HO3 HB3 q1 q2 hk3
  go_wp2_with fail
  refine (xdo_at w25 g m p h 72 72 62 p h rfl (Lib.hid ((Space.do_H _ _ _).trans HR1.out)) HS).mono ?_
  rintro e w26 ⟨rfl, HS1, HO1⟩
  replace HOph := Lib.hid (onlyO HOph.out HO1.out)
  replace HOhp := Lib.hid (onlyO HOhp.out HO1.out)
  replace HO := Lib.hid (onlyO HO.out HO1.out)
  replace HS := HS1
  clear HS1 HO1
  go_wp2_with fail
  refine (xpattern w26 g m p h HS).mono ?_
  rintro e w27 ⟨A27, n27, c27, rfl, k27, l27, HN27, HW27, HB1⟩
  replace HOph := Lib.hid (onlyB HOph.out HB1.out)
  replace HOhp := Lib.hid (onlyB HOhp.out HB1.out)
  replace HO := Lib.hid (onlyB HO.out HB1.out)
  replace HS := Lib.hid (HS.out.far HB1.out)
  clear HB1
  go_wp2_with fail
  refine (eqB A27 A n27 n c27 c p p true w27 _ _ HN27 hn (Lib.hid (decide_eq_true rfl)) (Lib.hid HW27.out.above.2) (Lib.hid (HP.out _ HO.out))).mono ?_
  rintro e w28 ⟨rfl, nd, hd⟩
  have hbd : Below w27.heap.size w27 w28 := by rw [hd]; exact below_drewN _ _
  replace HOph := Lib.hid (onlyB HOph.out hbd)
  replace HOhp := Lib.hid (onlyB HOhp.out hbd)
  replace HO := Lib.hid (onlyB HO.out hbd)
  replace HS := Lib.hid (HS.out.far hbd)
  clear hd hbd nd k27 l27 HN27 HW27
  go_wp2_with fail
  refine (xhold w28 g m p h HS).mono ?_
  rintro e w29 ⟨A29, n29, c29, rfl, k29, l29, HN29, HW29, HB1⟩
  replace HOph := Lib.hid (onlyB HOph.out HB1.out)
  replace HOhp := Lib.hid (onlyB HOhp.out HB1.out)
  replace HO := Lib.hid (onlyB HO.out HB1.out)
  replace HS := Lib.hid (HS.out.far HB1.out)
  clear HB1
  go_wp2_with fail
  refine (eqB A29 B n29 k c29 d h h true w29 _ _ HN29 hk (Lib.hid (decide_eq_true rfl)) (Lib.hid HW29.out.above.2) (Lib.hid (HH.out _ HO.out))).mono ?_
  rintro e w30 ⟨rfl, nd, hd⟩
  have hbd : Below w29.heap.size w29 w30 := by rw [hd]; exact below_drewN _ _
  replace HOph := Lib.hid (onlyB HOph.out hbd)
  replace HOhp := Lib.hid (onlyB HOhp.out hbd)
  replace HO := Lib.hid (onlyB HO.out hbd)
  replace HS := Lib.hid (HS.out.far hbd)
  clear hd hbd nd k29 l29 HN29 HW29
  go_wp2_with fail
  refine (xput_yes w30 g m p h B k d h (under w.heap.size) HS (Lib.hid (HH.out _ HO.out)) hk hkm).mono ?_
  rintro e w31 ⟨rfl, HS1, HO1⟩
  replace HOph := Lib.hid (onlyO HOph.out HO1.out)
  replace HOhp := Lib.hid (onlyO HOhp.out HO1.out)
  replace HO := Lib.hid (onlyO HO.out HO1.out)
  replace HS := HS1
  clear HS1 HO1
  go_wp2_with fail
  refine (xdo_at w31 g m h h 104 104 0 h h rfl (Lib.hid (Space.do_h _ _ _)) HS).mono ?_
  rintro e w32 ⟨rfl, HS1, HO1⟩
  replace HOph := Lib.hid (onlyO HOph.out HO1.out)
  replace HOhp := Lib.hid (onlyO HOhp.out HO1.out)
  replace HO := Lib.hid (onlyO HO.out HO1.out)
  replace HS := HS1
  clear HS1 HO1
  go_wp2_with fail
  refine (xput_yes w32 g m h h A n c p (under w.heap.size) HS (Lib.hid (HP.out _ HO.out)) hn hnm).mono ?_
  rintro e w33 ⟨rfl, HS1, HO1⟩
  replace HOph := Lib.hid (onlyO HOph.out HO1.out)
  replace HOhp := Lib.hid (onlyO HOhp.out HO1.out)
  replace HO := Lib.hid (onlyO HO.out HO1.out)
  replace HS := HS1
  clear HS1 HO1
  go_wp2_with fail
  refine (xdo_at w33 g m p h 71 71 62 p h rfl (Lib.hid ((Space.do_G _ _ _).trans HR2.out)) HS).mono ?_
  rintro e w34 ⟨rfl, HS1, HO1⟩
  replace HOph := Lib.hid (onlyO HOph.out HO1.out)
  replace HOhp := Lib.hid (onlyO HOhp.out HO1.out)
  replace HO := Lib.hid (onlyO HO.out HO1.out)
  replace HS := HS1
  clear HS1 HO1
  go_wp2_with fail
  refine (xhold w34 g m p h HS).mono ?_
  rintro e w35 ⟨A35, n35, c35, rfl, k35, l35, HN35, HW35, HB1⟩
  replace HOph := Lib.hid (onlyB HOph.out HB1.out)
  replace HOhp := Lib.hid (onlyB HOhp.out HB1.out)
  replace HO := Lib.hid (onlyB HO.out HB1.out)
  replace HS := Lib.hid (HS.out.far HB1.out)
  clear HB1
  go_wp2_with fail
  refine (eqB A35 B n35 k c35 d h h true w35 _ _ HN35 hk (Lib.hid (decide_eq_true rfl)) (Lib.hid HW35.out.above.2) (Lib.hid (HH.out _ HO.out))).mono ?_
  rintro e w36 ⟨rfl, nd, hd⟩
  have hbd : Below w35.heap.size w35 w36 := by rw [hd]; exact below_drewN _ _
  replace HOph := Lib.hid (onlyB HOph.out hbd)
  replace HOhp := Lib.hid (onlyB HOhp.out hbd)
  replace HO := Lib.hid (onlyB HO.out hbd)
  replace HS := Lib.hid (HS.out.far hbd)
  clear hd hbd nd k35 l35 HN35 HW35
  go_wp2_with fail
  refine (xpattern w36 g m p h HS).mono ?_
  rintro e w37 ⟨A37, n37, c37, rfl, k37, l37, HN37, HW37, HB1⟩
  replace HOph := Lib.hid (onlyB HOph.out HB1.out)
  replace HOhp := Lib.hid (onlyB HOhp.out HB1.out)
  replace HO := Lib.hid (onlyB HO.out HB1.out)
  replace HS := Lib.hid (HS.out.far HB1.out)
  clear HB1
  go_wp2_with fail
  refine (eqB A37 A n37 n c37 c p p true w37 _ _ HN37 hn (Lib.hid (decide_eq_true rfl)) (Lib.hid HW37.out.above.2) (Lib.hid (HP.out _ HO.out))).mono ?_
  rintro e w38 ⟨rfl, nd, hd⟩
  have hbd : Below w37.heap.size w37 w38 := by rw [hd]; exact below_drewN _ _
  replace HOph := Lib.hid (onlyB HOph.out hbd)
  replace HOhp := Lib.hid (onlyB HOhp.out hbd)
  replace HO := Lib.hid (onlyB HO.out hbd)
  replace HS := Lib.hid (HS.out.far hbd)
  clear hd hbd nd k37 l37 HN37 HW37
  go_wp2_with fail
  refine (xdo_at w38 g m p h 104 104 0 p p rfl (Lib.hid (Space.do_h _ _ _)) HS).mono ?_
  rintro e w39 ⟨rfl, HS1, HO1⟩
  replace HOph := Lib.hid (onlyO HOph.out HO1.out)
  replace HOhp := Lib.hid (onlyO HOhp.out HO1.out)
  replace HO := Lib.hid (onlyO HO.out HO1.out)
  replace HS := HS1
  clear HS1 HO1
  go_wp2_with fail
  have HG : Hid (g < w39.heap.size) := Lib.hid HS.out.glt
  refine (xhold w39 g m p p HS).mono ?_
  rintro e w40 ⟨A40, n40, c40, rfl, k40, l40, HN40, HW40, HB1⟩
  replace HOph := Lib.hid (onlyB HOph.out HB1.out)
  replace HOhp := Lib.hid (onlyB HOhp.out HB1.out)
  replace HO := Lib.hid (onlyB HO.out HB1.out)
  replace HS := Lib.hid (HS.out.far HB1.out)
  clear HB1
  have HX40 : Hid (∀ W, Only (fun b => b = g) w40 W → SliceAt Rep.byte W (btw w39.heap.size w40.heap.size) A40 c40 p) := Lib.hid (keepG HW40.out.above.2 fun b hb => ⟨hb.2, by have h1 := hb.1; have h2 := HG.out; omega⟩)
  have HOheld := Lib.hid (Only.refl (fun b => b = g) w40)
  go_wp2_with fail
  refine (xdo_at w40 g m p p 103 103 0 p p rfl (Lib.hid (Space.do_g _ _ _)) HS).mono ?_
  rintro e w41 ⟨rfl, HS1, HO1⟩
  replace HOph := Lib.hid (onlyO HOph.out HO1.out)
  replace HOhp := Lib.hid (onlyO HOhp.out HO1.out)
  replace HOheld := Lib.hid (onlyO HOheld.out HO1.out)
  replace HO := Lib.hid (onlyO HO.out HO1.out)
  replace HS := HS1
  clear HS1 HO1
  go_wp2_with fail
  refine (xpattern w41 g m p p HS).mono ?_
  rintro e w42 ⟨A42, n42, c42, rfl, k42, l42, HN42, HW42, HB1⟩
  replace HOph := Lib.hid (onlyB HOph.out HB1.out)
  replace HOhp := Lib.hid (onlyB HOhp.out HB1.out)
  replace HOheld := Lib.hid (onlyB HOheld.out HB1.out)
  replace HO := Lib.hid (onlyB HO.out HB1.out)
  replace HS := Lib.hid (HS.out.far HB1.out)
  clear HB1
  go_wp2_with fail
  refine (eqB A42 A40 n42 n40 c42 c40 p p true w42 _ _ HN42 HN40 (Lib.hid (decide_eq_true rfl)) (Lib.hid HW42.out.above.2) (Lib.hid (HX40.out _ HOheld.out))).mono ?_
  rintro e w43 ⟨rfl, nd, hd⟩
  have hbd : Below w42.heap.size w42 w43 := by rw [hd]; exact below_drewN _ _
  replace HOph := Lib.hid (onlyB HOph.out hbd)
  replace HOhp := Lib.hid (onlyB HOhp.out hbd)
  replace HOheld := Lib.hid (onlyB HOheld.out hbd)
  replace HO := Lib.hid (onlyB HO.out hbd)
  replace HS := Lib.hid (HS.out.far hbd)
  clear hd hbd nd k42 l42 HN42 HW42
  go_wp2_with fail
  go_ret
  exact ⟨rfl, HB.out.trans (HO.out.one HB.out.size hgw)⟩
end Go.Proofs.Ytejjmjbkpodolaa
