/- No row is longer than the width; the rows joined are the one row: the walk of galleylaw18.FoldWidths. Condition: the table of letters lies as its initialiser lays it. -/
import Derived.Test.YtgbjcpnlllaeeaaDoorProg
import Derived.Test.YtgbjcpnlllaeeaaDoorFoldLaw
import Derived.WalkKit
import Derived.WalkSpells
import Derived.Deep.QuietTactic
import Derived.BigQuiet
import Derived.Lib.Hide
import Derived.Deep.DeepMust
namespace Go.Proofs.YtgbjcpnlllaeeaaDoor
open Go.RowKit

/-- One step of joining. -/
theorem joinGo_step (most k row : Nat) (u : List UInt8) (i : Nat) (h : i + 2 < u.length) (x y : UInt8) (hx : u[i]'(by omega) = x) (hy : u[i + 1]'(by omega) = y) :
    Fold.joinGo most (k + 1) row (u.drop i) = if x.toNat = 92 ∧ y.toNat = 10 then Fold.joinGo most k 0 (u.drop (i + 2)) else if row + 1 > most ∨ x.toNat < 32 ∨ x.toNat > 126 then none else (Fold.joinGo most k (row + 1) (u.drop (i + 1))).map (x :: ·) := by
  have e1 : u.drop i = x :: u.drop (i + 1) := by rw [← hx]; exact List.drop_eq_getElem_cons (by omega)
  have e2 : u.drop (i + 1) = y :: u.drop (i + 2) := by rw [← hy]; exact List.drop_eq_getElem_cons (by omega)
  have e3 : u.drop (i + 2) = u[i + 2] :: u.drop (i + 3) := List.drop_eq_getElem_cons h
  rw [e1, e2, e3]
  rfl
theorem joinGo_end (most k row : Nat) (u : List UInt8) (i : Nat) (h : u.length ≤ i + 2) : Fold.joinGo most k row (u.drop i) = some [] := by
  have hl : (u.drop i).length ≤ 2 := by rw [List.length_drop]; omega
  generalize u.drop i = q at hl
  match k, q, hl with
  | 0, _, _ => rfl
  | _ + 1, [], _ => rfl
  | _ + 1, [_], _ => rfl
  | _ + 1, [_, _], _ => rfl
theorem row_ends (W : Nat) (b : List UInt8) (n : Nat) (hn : n = (Fold.Row W b).length) (h2 : 2 ≤ n) : (Fold.Row W b)[n - 1]'(by omega) = 10 ∧ (Fold.Row W b)[n - 2]'(by omega) = 36 := by
  subst hn
  have hl : (Fold.Row W b).length = (Fold.rowGo W 0 b).length + 2 := by simp [Fold.Row]
  constructor
  · have : (Fold.Row W b)[(Fold.Row W b).length - 1]? = some 10 := by
      rw [hl]; unfold Fold.Row
      rw [List.getElem?_append_right (by omega)]
      have : (Fold.rowGo W 0 b).length + 2 - 1 - (Fold.rowGo W 0 b).length = 1 := by omega
      rw [this]; rfl
    rw [List.getElem?_eq_getElem (by omega)] at this
    exact Option.some.inj this
  · have : (Fold.Row W b)[(Fold.Row W b).length - 2]? = some 36 := by
      rw [hl]; unfold Fold.Row
      rw [List.getElem?_append_right (by omega)]
      have : (Fold.rowGo W 0 b).length + 2 - 2 - (Fold.rowGo W 0 b).length = 0 := by omega
      rw [this]; rfl
    rw [List.getElem?_eq_getElem (by omega)] at this
    exact Option.some.inj this

section
variable (A : Option Addr) (n ca : Nat) (b : List UInt8) (width : Int) (w : World)
set_option maxHeartbeats 1000000 in
theorem foldWidths_long (hlong : 357913940 < n) : Calls Tryd.prog 4 #[.slice A n ca, .int .i64 width] w fun e w' => e = .returned (.bool true) ∧ Below w.heap.size w w' := by
  have h' : decide ((357913940 : Int) < (n : Int)) = true := by simp; omega
  go_enter Tryd.func4, Tryd.ntmps4
  go_wp2_with fail
  go_ret
  exact ⟨rfl, Below.refl _ _⟩

set_option maxRecDepth 100000 in
set_option maxHeartbeats 8000000 in
theorem foldWidths_wide (hn : Hid (n = b.length)) (hb : SliceAt Rep.byte w (under w.heap.size) A ca b) (hL : Hid (Ltrs w)) (h0 : 0 < w.heap.size) (hb1 : n ≤ 357913940) (W : Nat) (h4 : 4 ≤ W) :
    Calls Tryd.prog 4 #[.slice A n ca, .int .i64 W] w fun e w' => e = .returned (.bool true) ∧ Below w.heap.size w w' := by
  have h1' : decide ((357913940 : Int) < (n : Int)) = false := by simp; omega
  have hW4 : 4 ≤ W := by omega
  have hmx : ((W : Nat) : Int) = max (W : Int) 4 := by omega
  have hmx2 : ((1099511627776 : Nat) : Int) = max 1099511627776 4 := by omega
  have hrl := Fold.row_len W b
  have hjoin : Fold.joinGo W (Fold.Row W b).length 0 (Fold.Row W b) = some (Fold.pieces b) := Fold.joinGo_row W hW4 b _ 0 (by omega) (by simp [Fold.Row])
  have hone : Fold.Row 1099511627776 b = Fold.pieces b ++ [36, 10] := Fold.row_one b _ (by have := hn.out; omega)
  have HJ := Lib.hid hjoin
  have HONE := Lib.hid hone
  have HRL := Lib.hid hrl
  have HB := Lib.hid hb
  have HM := Lib.hid hmx
  have HM2 := Lib.hid hmx2
  have hc1 := hb.len
  have hc2 := hb.max
  rw [← hn.out] at hc1
  clear hb hjoin hone hrl hmx hmx2
  go_enter Tryd.func4, Tryd.ntmps4
  go_wp2_with fail
  refine (lives_any _ hL h0).mono ?_
  rintro e w1 ⟨rfl, hb1'⟩
  have HB1 := Lib.hid hb1'
  have hz1 := hb1'.size
  clear hb1'
  go_wp2_with fail
  refine (row_n _ _ _ W W b _ hn (HB.out.grow' HB1.out) (hL.out.below HB1.out h0) (by omega) (by omega) HM.out).mono ?_
  rintro e w2 ⟨A2, n2, c2, rfl, hn2, hl2, hm2, hs2, hb2'⟩
  have h02 := HB1.out.trans (hb2'.mono HB1.out.size)
  have HB2 := Lib.hid h02
  have hz2 := h02.size
  have HS2 := Lib.hid hs2
  clear hb2' h02 hs2
  go_wp2_with fail
  refine (row_n _ _ _ 1099511627776 1099511627776 b _ hn (HB.out.grow' HB2.out) (hL.out.below HB2.out h0) (by omega) (by omega) HM2.out).mono ?_
  rw [HONE.out]
  rintro e w3 ⟨A3, n3, c3, rfl, hn3, hl3, hm3, hs3, hb3'⟩
  have h03 := HB2.out.trans (hb3'.mono HB2.out.size)
  have HB3 := Lib.hid h03
  have hz3 := h03.size
  have HS3 := Lib.hid hs3
  have hs23 := HS2.out.grow' hb3'
  clear hb3' h03 hs3
  have hn2' : 2 ≤ n2 := by have := hn2.out; have := HRL.out; omega
  obtain ⟨hr1, hr2⟩ := row_ends W b n2 hn2.out hn2'
  obtain ⟨u, hu⟩ : ∃ u, u = Fold.Row W b := ⟨_, rfl⟩
  have hlu : n2 = u.length := by rw [hu]; exact hn2.out
  have hru : u.length ≤ 2147483646 := by rw [hu]; have := HRL.out; have := hn.out; omega
  have hJ := HJ.out
  rw [← hu] at hJ hs23
  have HJ' := Lib.hid hJ
  have HU := Lib.hid hs23
  have HLU := Lib.hid hlu
  obtain ⟨m2, rfl⟩ : ∃ m2, n2 = m2 + 2 := ⟨n2 - 2, by omega⟩
  have hm31 : m2 + 2 ≤ 2147483646 := by omega
  obtain ⟨g, o, rfl, hSg, hce⟩ := HU.out.byte (i := m2 + 1) (by omega)
  obtain ⟨g', o', he, hSg', hcd⟩ := HU.out.byte (i := m2) (by omega)
  simp only [Option.some.injEq, Addr.mk.injEq] at he
  obtain ⟨rfl, rfl, _⟩ := he
  have hv1 : u[m2 + 1]'(by omega) = 10 := by subst hu; exact hr1
  have hv2 : u[m2]'(by omega) = 36 := by subst hu; exact hr2
  rw [hv1] at hce
  rw [hv2] at hcd
  have hat : ∀ i (hi : i < u.length), w3.cell? ⟨g, o + i, none⟩ = some (.int .u8 u[i].toNat) := fun i hi => by
    obtain ⟨g', o', he, _, hc⟩ := HU.out.byte hi
    simp only [Option.some.injEq, Addr.mk.injEq] at he
    obtain ⟨rfl, rfl, _⟩ := he
    exact hc
  have HAT := Lib.hid hat
  clear hs23 hr1 hr2 hJ hlu hu hru hv1 hv2 hat
  have hi1 : ((m2 : Int) + 2) - 1 = ((m2 + 1 : Nat) : Int) := by omega
  have hi2 : ((m2 : Int) + 2) - 2 = (m2 : Nat) := by omega
  go_wp2_with fail
  have hz3' := hz3
  have hst : Below w3.heap.size w3 w3 := Below.refl _ _
  have HST := Lib.hid hst
  clear hst
  go_loopw [10, 11, 12] (fun vj row i wr => ∃ (p r f : Nat) (lj : List UInt8), p ≤ m2 + 1 ∧ i = .int .i64 p ∧ row = .int .i64 r ∧ Own Rep.byte 5 wr w3.heap.size nob vj lj ∧ Below w3.heap.size w3 wr ∧ some (Fold.pieces b) = (Fold.joinGo W f r (u.drop p)).map (lj ++ ·) ∧ u.length ≤ f + p ∧ lj.length ≤ p ∧ r ≤ p) (fun _ _ i _ => m2 + 2 - (intOf i).toNat)
  case atStart => exact ⟨0, 0, u.length, [], Nat.zero_le _, rfl, rfl, Own.nil _ _ _ _, HST.out, by simpa using HJ'.out.symm, by omega, by simp, by omega⟩
  case round =>
    obtain ⟨p, r, f, lj, hp, rfl, rfl, ho, hbw, hgo, hf, hlj, hr⟩ := hrel
    have HO := Lib.hid ho
    have HBW := Lib.hid hbw
    have hwz := hbw.size
    have HLJ := Lib.hid hlj
    by_cases hlt : p < m2
    · have hpl : p + 2 < u.length := by have := HLU.out; omega
      obtain ⟨x, hx⟩ : ∃ x, x = u[p]'(by omega) := ⟨_, rfl⟩
      obtain ⟨y, hy⟩ : ∃ y, y = u[p + 1]'(by omega) := ⟨_, rfl⟩
      have hc0 := (hbw.cell (p := ⟨g, o + p, none⟩) (World.block_lt_of_cell? w3 _ (HAT.out p (by omega)))).trans (HAT.out p (by omega))
      have hc1 := (hbw.cell (p := ⟨g, o + (p + 1), none⟩) (World.block_lt_of_cell? w3 _ (HAT.out (p + 1) (by omega)))).trans (HAT.out (p + 1) (by omega))
      rw [← hx] at hc0
      rw [← hy] at hc1
      obtain ⟨f, rfl⟩ : ∃ f', f = f' + 1 := ⟨f - 1, by omega⟩
      have hstep := joinGo_step W f r u p hpl x y hx.symm hy.symm
      rw [hstep] at hgo
      have HF := Lib.hid hf
      clear ho hbw hlj hstep hx hy hf
      by_cases hxy : x.toNat = 92 ∧ y.toNat = 10
      · rw [if_pos hxy] at hgo
        have HGO := Lib.hid hgo
        rw [hxy.1] at hc0
        rw [hxy.2] at hc1
        clear hgo hxy
        go_wp2
        go_roundw
        case rel => exact ⟨p + 2, 0, f, lj, by omega, by go_num, rfl, HO.out, HBW.out, HGO.out, by have := HF.out; omega, by have := HLJ.out; omega, by omega⟩
        case measure => simp [intOf]; omega
      · rw [if_neg hxy] at hgo
        by_cases hbad : r + 1 > W ∨ x.toNat < 32 ∨ x.toNat > 126
        · rw [if_pos hbad] at hgo; cases hgo
        · rw [if_neg hbad, Option.map_map] at hgo
          have hgo2 : some (Fold.pieces b) = (Fold.joinGo W f (r + 1) (u.drop (p + 1))).map (lj ++ [x] ++ ·) := by
            rw [hgo]; congr 1; funext z; simp
          have HGO := Lib.hid hgo2
          have hr1 : ¬ (((W : Nat) : Int) < (r : Int) + 1) := by omega
          have hx1 : ¬ ((x.toNat : Int) < 32) := by omega
          have hx2 : ¬ ((126 : Int) < x.toNat) := by omega
          clear hgo hgo2 hbad
          by_cases hx92 : x.toNat = 92
          · have hy10 : ((y.toNat : Int) == 10) = false := by rw [beq_eq_false_iff_ne]; omega
            have ex : x = 92 := by rw [← UInt8.toNat_inj]; exact hx92
            subst ex
            have hc0' : wr.cell? ⟨g, o + p, none⟩ = some (.int .u8 92) := hc0
            clear hxy hx92 hc0 hx1 hx2
            go_wp2_with (at_builtin; refine wpList_append_bytes _ rfl (.tmp 70) (.tmp 75) 22 rfl w3.heap.size 5 stBytes _ _ rfl (HO.out.alloc _) _ _ _ _ [92] rfl (SliceAt.newBytes _ _ _ [92] 1 (by simp) (by simp [maxLen]) rfl) rfl (by have := HLJ.out; omega) (by simp; omega) ?_; intro v3 w4 hown3 hg3 hat3; have HB4 := Lib.hid (below_own (HBW.out.alloc hwz _) (HO.out.alloc _) hg3 (by simp; omega)); have HO4 := Lib.hid hown3; have hc4 := (HB4.out.cell (p := ⟨g, o + p, none⟩) (World.block_lt_of_cell? w3 _ (HAT.out p (by omega)))).trans ((HBW.out.cell (p := ⟨g, o + p, none⟩) (World.block_lt_of_cell? w3 _ (HAT.out p (by omega)))).symm.trans hc0'); clear hown3 hg3 hat3)
            go_roundw
            case rel => exact ⟨p + 1, r + 1, f, _, by omega, by go_num, by go_num, HO4.out, HB4.out, HGO.out, by have := HF.out; omega, by have := HLJ.out; simp; omega, by omega⟩
            case measure => simp [intOf]; omega
          · have hx92' : ((x.toNat : Int) == 92) = false := by rw [beq_eq_false_iff_ne]; omega
            clear hxy hx92
            go_wp2_with (at_builtin; refine wpList_append_bytes _ rfl (.tmp 70) (.tmp 75) 22 rfl w3.heap.size 5 stBytes _ _ rfl (HO.out.alloc _) _ _ _ _ [x] rfl (SliceAt.newBytes _ _ _ [x] 1 (by simp) (by simp [maxLen]) rfl) rfl (by have := HLJ.out; omega) (by simp; omega) ?_; intro v3 w4 hown3 hg3 hat3; have HB4 := Lib.hid (below_own (HBW.out.alloc hwz _) (HO.out.alloc _) hg3 (by simp; omega)); have HO4 := Lib.hid hown3; have hc4 := (HB4.out.cell (p := ⟨g, o + p, none⟩) (World.block_lt_of_cell? w3 _ (HAT.out p (by omega)))).trans ((HBW.out.cell (p := ⟨g, o + p, none⟩) (World.block_lt_of_cell? w3 _ (HAT.out p (by omega)))).symm.trans hc0); clear hown3 hg3 hat3)
            go_roundw
            case rel => exact ⟨p + 1, r + 1, f, _, by omega, by go_num, by go_num, HO4.out, HB4.out, HGO.out, by have := HF.out; omega, by have := HLJ.out; simp; omega, by omega⟩
            case measure => simp [intOf]; omega
    · rw [joinGo_end W f r u p (by have := HLU.out; omega)] at hgo
      have hfin : Fold.pieces b = lj := by simpa using hgo
      have HFIN := Lib.hid hfin
      clear ho hbw hgo hlj hfin hf
      go_wp2_with (first | (at_builtin; refine wpList_append_bytes _ rfl (.tmp 96) (.tmp 97) 22 rfl w3.heap.size 5 stBytes _ _ rfl (HO.out.alloc _) _ _ _ _ [36, 10] rfl (SliceAt.newBytes _ _ _ [36, 10] 2 (by simp) (by simp [maxLen]) rfl) rfl (by have := HLJ.out; omega) (by simp; omega) ?_; intro v3 w4 hown3 hg3 hat3; have HB4 := Lib.hid (below_own (HBW.out.alloc hwz _) (HO.out.alloc _) hg3 (by simp; omega)); obtain ⟨A5, n5, c5, rfl, hn5, h5a, h5b, hs5⟩ := hown3.read; rw [← HFIN.out] at hn5 hs5; have HN5 := Lib.hid hn5; have HS5 := Lib.hid hs5; clear hown3 hg3 hat3 hn5 hs5) | fail)
      refine (eq_true _ _ _ _ _ _ (Fold.pieces b ++ [36, 10]) _ HN5.out hn3 _ _ HS5.out (HS3.out.grow' HB4.out)).mono ?_
      rintro e w8 ⟨rfl, hb8'⟩
      have h08 := HB3.out.trans (HB4.out.mono HB3.out.size)
      have h09 := h08.trans (hb8'.mono h08.size)
      have HB9 := Lib.hid h09
      clear hb8' h08 h09
      go_wp2_with fail
      go_ret
      exact ⟨rfl, HB9.out⟩

set_option maxRecDepth 100000 in
set_option maxHeartbeats 8000000 in
theorem foldWidths_four (hn : Hid (n = b.length)) (hb : SliceAt Rep.byte w (under w.heap.size) A ca b) (hL : Hid (Ltrs w)) (h0 : 0 < w.heap.size) (hb1 : n ≤ 357913940) (h4 : width < 4) :
    Calls Tryd.prog 4 #[.slice A n ca, .int .i64 width] w fun e w' => e = .returned (.bool true) ∧ Below w.heap.size w w' := by
  have h1' : decide ((357913940 : Int) < (n : Int)) = false := by simp; omega
  have hW4 : 4 ≤ 4 := by omega
  have hmx : ((4 : Nat) : Int) = max width 4 := by omega
  have hmx2 : ((1099511627776 : Nat) : Int) = max 1099511627776 4 := by omega
  have hrl := Fold.row_len 4 b
  have hjoin : Fold.joinGo 4 (Fold.Row 4 b).length 0 (Fold.Row 4 b) = some (Fold.pieces b) := Fold.joinGo_row 4 hW4 b _ 0 (by omega) (by simp [Fold.Row])
  have hone : Fold.Row 1099511627776 b = Fold.pieces b ++ [36, 10] := Fold.row_one b _ (by have := hn.out; omega)
  have HJ := Lib.hid hjoin
  have HONE := Lib.hid hone
  have HRL := Lib.hid hrl
  have HB := Lib.hid hb
  have HM := Lib.hid hmx
  have HM2 := Lib.hid hmx2
  have hc1 := hb.len
  have hc2 := hb.max
  rw [← hn.out] at hc1
  clear hb hjoin hone hrl hmx hmx2
  go_enter Tryd.func4, Tryd.ntmps4
  go_wp2_with fail
  refine (lives_any _ hL h0).mono ?_
  rintro e w1 ⟨rfl, hb1'⟩
  have HB1 := Lib.hid hb1'
  have hz1 := hb1'.size
  clear hb1'
  go_wp2_with fail
  refine (row_n _ _ _ 4 width b _ hn (HB.out.grow' HB1.out) (hL.out.below HB1.out h0) (by omega) (by omega) HM.out).mono ?_
  rintro e w2 ⟨A2, n2, c2, rfl, hn2, hl2, hm2, hs2, hb2'⟩
  have h02 := HB1.out.trans (hb2'.mono HB1.out.size)
  have HB2 := Lib.hid h02
  have hz2 := h02.size
  have HS2 := Lib.hid hs2
  clear hb2' h02 hs2
  go_wp2_with fail
  refine (row_n _ _ _ 1099511627776 1099511627776 b _ hn (HB.out.grow' HB2.out) (hL.out.below HB2.out h0) (by omega) (by omega) HM2.out).mono ?_
  rw [HONE.out]
  rintro e w3 ⟨A3, n3, c3, rfl, hn3, hl3, hm3, hs3, hb3'⟩
  have h03 := HB2.out.trans (hb3'.mono HB2.out.size)
  have HB3 := Lib.hid h03
  have hz3 := h03.size
  have HS3 := Lib.hid hs3
  have hs23 := HS2.out.grow' hb3'
  clear hb3' h03 hs3
  have hn2' : 2 ≤ n2 := by have := hn2.out; have := HRL.out; omega
  obtain ⟨hr1, hr2⟩ := row_ends 4 b n2 hn2.out hn2'
  obtain ⟨u, hu⟩ : ∃ u, u = Fold.Row 4 b := ⟨_, rfl⟩
  have hlu : n2 = u.length := by rw [hu]; exact hn2.out
  have hru : u.length ≤ 2147483646 := by rw [hu]; have := HRL.out; have := hn.out; omega
  have hJ := HJ.out
  rw [← hu] at hJ hs23
  have HJ' := Lib.hid hJ
  have HU := Lib.hid hs23
  have HLU := Lib.hid hlu
  obtain ⟨m2, rfl⟩ : ∃ m2, n2 = m2 + 2 := ⟨n2 - 2, by omega⟩
  have hm31 : m2 + 2 ≤ 2147483646 := by omega
  obtain ⟨g, o, rfl, hSg, hce⟩ := HU.out.byte (i := m2 + 1) (by omega)
  obtain ⟨g', o', he, hSg', hcd⟩ := HU.out.byte (i := m2) (by omega)
  simp only [Option.some.injEq, Addr.mk.injEq] at he
  obtain ⟨rfl, rfl, _⟩ := he
  have hv1 : u[m2 + 1]'(by omega) = 10 := by subst hu; exact hr1
  have hv2 : u[m2]'(by omega) = 36 := by subst hu; exact hr2
  rw [hv1] at hce
  rw [hv2] at hcd
  have hat : ∀ i (hi : i < u.length), w3.cell? ⟨g, o + i, none⟩ = some (.int .u8 u[i].toNat) := fun i hi => by
    obtain ⟨g', o', he, _, hc⟩ := HU.out.byte hi
    simp only [Option.some.injEq, Addr.mk.injEq] at he
    obtain ⟨rfl, rfl, _⟩ := he
    exact hc
  have HAT := Lib.hid hat
  clear hs23 hr1 hr2 hJ hlu hu hru hv1 hv2 hat
  have hi1 : ((m2 : Int) + 2) - 1 = ((m2 + 1 : Nat) : Int) := by omega
  have hi2 : ((m2 : Int) + 2) - 2 = (m2 : Nat) := by omega
  go_wp2_with fail
  have hz3' := hz3
  have hst : Below w3.heap.size w3 w3 := Below.refl _ _
  have HST := Lib.hid hst
  clear hst
  go_loopw [10, 11, 12] (fun vj row i wr => ∃ (p r f : Nat) (lj : List UInt8), p ≤ m2 + 1 ∧ i = .int .i64 p ∧ row = .int .i64 r ∧ Own Rep.byte 5 wr w3.heap.size nob vj lj ∧ Below w3.heap.size w3 wr ∧ some (Fold.pieces b) = (Fold.joinGo 4 f r (u.drop p)).map (lj ++ ·) ∧ u.length ≤ f + p ∧ lj.length ≤ p ∧ r ≤ p) (fun _ _ i _ => m2 + 2 - (intOf i).toNat)
  case atStart => exact ⟨0, 0, u.length, [], Nat.zero_le _, rfl, rfl, Own.nil _ _ _ _, HST.out, by simpa using HJ'.out.symm, by omega, by simp, by omega⟩
  case round =>
    obtain ⟨p, r, f, lj, hp, rfl, rfl, ho, hbw, hgo, hf, hlj, hr⟩ := hrel
    have HO := Lib.hid ho
    have HBW := Lib.hid hbw
    have hwz := hbw.size
    have HLJ := Lib.hid hlj
    by_cases hlt : p < m2
    · have hpl : p + 2 < u.length := by have := HLU.out; omega
      obtain ⟨x, hx⟩ : ∃ x, x = u[p]'(by omega) := ⟨_, rfl⟩
      obtain ⟨y, hy⟩ : ∃ y, y = u[p + 1]'(by omega) := ⟨_, rfl⟩
      have hc0 := (hbw.cell (p := ⟨g, o + p, none⟩) (World.block_lt_of_cell? w3 _ (HAT.out p (by omega)))).trans (HAT.out p (by omega))
      have hc1 := (hbw.cell (p := ⟨g, o + (p + 1), none⟩) (World.block_lt_of_cell? w3 _ (HAT.out (p + 1) (by omega)))).trans (HAT.out (p + 1) (by omega))
      rw [← hx] at hc0
      rw [← hy] at hc1
      obtain ⟨f, rfl⟩ : ∃ f', f = f' + 1 := ⟨f - 1, by omega⟩
      have hstep := joinGo_step 4 f r u p hpl x y hx.symm hy.symm
      rw [hstep] at hgo
      have HF := Lib.hid hf
      clear ho hbw hlj hstep hx hy hf
      by_cases hxy : x.toNat = 92 ∧ y.toNat = 10
      · rw [if_pos hxy] at hgo
        have HGO := Lib.hid hgo
        rw [hxy.1] at hc0
        rw [hxy.2] at hc1
        clear hgo hxy
        go_wp2
        go_roundw
        case rel => exact ⟨p + 2, 0, f, lj, by omega, by go_num, rfl, HO.out, HBW.out, HGO.out, by have := HF.out; omega, by have := HLJ.out; omega, by omega⟩
        case measure => simp [intOf]; omega
      · rw [if_neg hxy] at hgo
        by_cases hbad : r + 1 > 4 ∨ x.toNat < 32 ∨ x.toNat > 126
        · rw [if_pos hbad] at hgo; cases hgo
        · rw [if_neg hbad, Option.map_map] at hgo
          have hgo2 : some (Fold.pieces b) = (Fold.joinGo 4 f (r + 1) (u.drop (p + 1))).map (lj ++ [x] ++ ·) := by
            rw [hgo]; congr 1; funext z; simp
          have HGO := Lib.hid hgo2
          have hr1 : ¬ (((4 : Nat) : Int) < (r : Int) + 1) := by omega
          have hx1 : ¬ ((x.toNat : Int) < 32) := by omega
          have hx2 : ¬ ((126 : Int) < x.toNat) := by omega
          clear hgo hgo2 hbad
          by_cases hx92 : x.toNat = 92
          · have hy10 : ((y.toNat : Int) == 10) = false := by rw [beq_eq_false_iff_ne]; omega
            have ex : x = 92 := by rw [← UInt8.toNat_inj]; exact hx92
            subst ex
            have hc0' : wr.cell? ⟨g, o + p, none⟩ = some (.int .u8 92) := hc0
            clear hxy hx92 hc0 hx1 hx2
            go_wp2_with (at_builtin; refine wpList_append_bytes _ rfl (.tmp 70) (.tmp 75) 22 rfl w3.heap.size 5 stBytes _ _ rfl (HO.out.alloc _) _ _ _ _ [92] rfl (SliceAt.newBytes _ _ _ [92] 1 (by simp) (by simp [maxLen]) rfl) rfl (by have := HLJ.out; omega) (by simp; omega) ?_; intro v3 w4 hown3 hg3 hat3; have HB4 := Lib.hid (below_own (HBW.out.alloc hwz _) (HO.out.alloc _) hg3 (by simp; omega)); have HO4 := Lib.hid hown3; have hc4 := (HB4.out.cell (p := ⟨g, o + p, none⟩) (World.block_lt_of_cell? w3 _ (HAT.out p (by omega)))).trans ((HBW.out.cell (p := ⟨g, o + p, none⟩) (World.block_lt_of_cell? w3 _ (HAT.out p (by omega)))).symm.trans hc0'); clear hown3 hg3 hat3)
            go_roundw
            case rel => exact ⟨p + 1, r + 1, f, _, by omega, by go_num, by go_num, HO4.out, HB4.out, HGO.out, by have := HF.out; omega, by have := HLJ.out; simp; omega, by omega⟩
            case measure => simp [intOf]; omega
          · have hx92' : ((x.toNat : Int) == 92) = false := by rw [beq_eq_false_iff_ne]; omega
            clear hxy hx92
            go_wp2_with (at_builtin; refine wpList_append_bytes _ rfl (.tmp 70) (.tmp 75) 22 rfl w3.heap.size 5 stBytes _ _ rfl (HO.out.alloc _) _ _ _ _ [x] rfl (SliceAt.newBytes _ _ _ [x] 1 (by simp) (by simp [maxLen]) rfl) rfl (by have := HLJ.out; omega) (by simp; omega) ?_; intro v3 w4 hown3 hg3 hat3; have HB4 := Lib.hid (below_own (HBW.out.alloc hwz _) (HO.out.alloc _) hg3 (by simp; omega)); have HO4 := Lib.hid hown3; have hc4 := (HB4.out.cell (p := ⟨g, o + p, none⟩) (World.block_lt_of_cell? w3 _ (HAT.out p (by omega)))).trans ((HBW.out.cell (p := ⟨g, o + p, none⟩) (World.block_lt_of_cell? w3 _ (HAT.out p (by omega)))).symm.trans hc0); clear hown3 hg3 hat3)
            go_roundw
            case rel => exact ⟨p + 1, r + 1, f, _, by omega, by go_num, by go_num, HO4.out, HB4.out, HGO.out, by have := HF.out; omega, by have := HLJ.out; simp; omega, by omega⟩
            case measure => simp [intOf]; omega
    · rw [joinGo_end 4 f r u p (by have := HLU.out; omega)] at hgo
      have hfin : Fold.pieces b = lj := by simpa using hgo
      have HFIN := Lib.hid hfin
      clear ho hbw hgo hlj hfin hf
      go_wp2_with (first | (at_builtin; refine wpList_append_bytes _ rfl (.tmp 96) (.tmp 97) 22 rfl w3.heap.size 5 stBytes _ _ rfl (HO.out.alloc _) _ _ _ _ [36, 10] rfl (SliceAt.newBytes _ _ _ [36, 10] 2 (by simp) (by simp [maxLen]) rfl) rfl (by have := HLJ.out; omega) (by simp; omega) ?_; intro v3 w4 hown3 hg3 hat3; have HB4 := Lib.hid (below_own (HBW.out.alloc hwz _) (HO.out.alloc _) hg3 (by simp; omega)); obtain ⟨A5, n5, c5, rfl, hn5, h5a, h5b, hs5⟩ := hown3.read; rw [← HFIN.out] at hn5 hs5; have HN5 := Lib.hid hn5; have HS5 := Lib.hid hs5; clear hown3 hg3 hat3 hn5 hs5) | fail)
      refine (eq_true _ _ _ _ _ _ (Fold.pieces b ++ [36, 10]) _ HN5.out hn3 _ _ HS5.out (HS3.out.grow' HB4.out)).mono ?_
      rintro e w8 ⟨rfl, hb8'⟩
      have h08 := HB3.out.trans (HB4.out.mono HB3.out.size)
      have h09 := h08.trans (hb8'.mono h08.size)
      have HB9 := Lib.hid h09
      clear hb8' h08 h09
      go_wp2_with fail
      go_ret
      exact ⟨rfl, HB9.out⟩

end
theorem foldWidths_any (A : Option Addr) (ca : Nat) (b : List UInt8) (width : Int) (w : World) (hb : SliceAt Rep.byte w (under w.heap.size) A ca b) (hL : Ltrs w) (h0 : 0 < w.heap.size) :
    Calls Tryd.prog 4 #[.slice A b.length ca, .int .i64 width] w fun e w' => e = .returned (.bool true) ∧ Below w.heap.size w w' := by
  by_cases h : 357913940 < b.length
  · exact foldWidths_long A _ ca width w h
  · by_cases h4 : width < 4
    · exact foldWidths_four A _ ca b width w rfl hb hL h0 (by omega) h4
    · obtain ⟨W, rfl⟩ : ∃ W : Nat, width = W := ⟨width.toNat, by omega⟩
      exact foldWidths_wide A _ ca b w rfl hb hL h0 (by omega) W (by omega)
end Go.Proofs.YtgbjcpnlllaeeaaDoor
