/- Text read as bytes: the walk of quote.read. Condition: at most 2^34 bytes; the sentinel lies in its variable. -/
import Derived.Test.YtfmaaempcpjpkaaDoorProg
import Derived.Test.YtfmaaempcpjpkaaDoorStBytes
import Derived.Test.YtfmaaempcpjpkaaDoorPuHex
import Derived.Test.YtfmaaempcpjpkaaDoorPu
import Derived.Test.YtfmaaempcpjpkaaDoorQuotePlain
import Derived.WalkKit
import Derived.WalkSpells
import Derived.Deep.LoopGhost
import Derived.WalkMore
import Derived.BigQuiet
import Derived.Deep.Cut
import Derived.Deep.CutBlock
import Derived.Lib.Hide
namespace Go.Proofs.YtfmaaempcpjpkaaDoor
open Go.RowKit Go.Deep

/-- What two signs say in base 16. -/
def hx16 (u v : UInt8) : Option UInt8 := (hexAll [u, v] 0).map UInt8.ofNat
theorem hx16_ok : ∀ i j, i < 16 → j < 16 → hx16 (Quote.hexd i) (Quote.hexd j) = some (UInt8.ofNat (16 * i + j)) := by
  have h : ∀ i, i < 16 → hv16 (Quote.hexd i) = some i := by decide
  intro i j hi hj
  unfold hx16 hexAll hexAll hexAll
  rw [h i hi]
  simp only [h j hj, Option.map_some]
  congr 2
  omega
theorem hv16_lt {c : UInt8} {v : Nat} (h : hv16 c = some v) : v < 16 := by
  unfold hv16 at h
  (repeat' split at h) <;> first | (simp only [Option.some.injEq] at h; omega) | cases h
theorem hexAll_lt {u v : UInt8} {y : Nat} (h : hexAll [u, v] 0 = some y) : y < 256 := by
  unfold hexAll hexAll hexAll at h
  cases hu : hv16 u with
  | none => rw [hu] at h; cases h
  | some a =>
    rw [hu] at h
    cases hv : hv16 v with
    | none => simp [hv] at h
    | some b =>
      simp only [hv, Option.some.injEq] at h
      have := hv16_lt hu
      have := hv16_lt hv
      omega
theorem ba_eta (y : ByteArray) (l : List UInt8) (h : y.data.toList = l) : y = ⟨l.toArray⟩ := by subst h; rfl
theorem ba_at (y : ByteArray) (l : List UInt8) (h : y.data.toList = l) (p : Nat) (x : UInt8) (hx : l[p]? = some x) : ∀ h : p < y.size, y[p]'h = x := by
  subst h
  intro h
  have h2 : p < y.data.toList.length := by rw [Array.length_toList]; exact h
  rw [List.getElem?_eq_getElem h2] at hx
  simp only [Option.some.injEq] at hx
  rw [← hx]
  simp [ByteArray.getElem_eq_getElem_data]
theorem ba_size (y : ByteArray) (l : List UInt8) (h : y.data.toList = l) : y.size = l.length := by subst h; rw [Array.length_toList]; rfl
theorem ext_list' (s : ByteArray) (a b : Nat) : (s.extract a b).data.toList = (s.data.toList.take b).drop a := by
  rw [ByteArray.data_extract, Array.toList_extract, List.extract_eq_take_drop, List.drop_take]
theorem below_drewN' (B : Nat) (w : World) (k : Nat) : Below B w (w.drewN k) := ⟨rfl, rfl, rfl, Nat.le_refl _, fun _ _ => rfl⟩
theorem map_push {o : Option (List UInt8)} (acc : List UInt8) (b : UInt8) : (o.map (b :: ·)).map (acc ++ ·) = o.map ((acc ++ [b]) ++ ·) := by
  cases o <;> simp
set_option maxRecDepth 100000 in
set_option maxHeartbeats 16000000 in
theorem read_any (t : ByteArray) (ne se : Value) (w : World) (hnb : t.size ≤ 17179869184) (_ : Hid (∃ q, ne = .iface 168 q)) (hev : Hid (∃ te pe, se = .iface te pe)) (hgN : Hid (w.cell? ⟨0, 0, none⟩ = some ne)) (hgS : Hid (w.cell? ⟨2, 0, none⟩ = some se)) :
    Calls Tryd.prog 24 #[.string t] w fun e w' => Hid (Below w.heap.size w w') ∧
      ((e = .returned (.tuple #[.slice none 0 0, ne]) ∧ Hid (t.size < 2 ∨ Quote.read hx16 ((t.data.toList.take (t.size - 1)).drop 1) = none)) ∨
      ∃ A n c l, e = .returned (.tuple #[.slice A n c, .nilIface]) ∧ n ≤ c ∧ c ≤ 9223372036854775807 ∧ 2 ≤ t.size ∧ Hid (Own Rep.byte 5 w' w.heap.size nob (.slice A n c) l) ∧ Hid (n = l.length) ∧ Hid (l.length ≤ t.size) ∧ Hid (Quote.read hx16 ((t.data.toList.take (t.size - 1)).drop 1) = some l)) := by
  have hNlt : 0 < w.heap.size := Lib.lt_of_cell hgN.out
  have hSlt : 2 < w.heap.size := Lib.lt_of_cell hgS.out
  by_cases h2 : t.size < 2
  · have hgn := hgN.out
    go_enter Tryd.func24, Tryd.ntmps24
    go_wp2
    go_quiet (fail)
    go_wp2
    go_ret2
    exact ⟨Lib.hid (below_drewN' _ _ _), .inl ⟨rfl, Lib.hid (.inl h2)⟩⟩
  obtain ⟨y0, hy0⟩ : ∃ y0, t.extract 1 (t.size - 1) = y0 := ⟨_, rfl⟩
  have hz0 : y0.size = t.size - 2 := by rw [← hy0, ByteArray.size_extract]; omega
  have HY0 : Hid (y0.data.toList = (t.data.toList.take (t.size - 1)).drop 1) := Lib.hid (by rw [← hy0, ext_list'])
  have h2z : (2 : Int) ≤ (t.size : Int) := by omega
  have hcut : ((t.size : Int) - 1).toNat = t.size - 1 := by omega
  rw [← HY0.out]
  have HYZ := Lib.hid hz0
  clear hz0
  go_enter Tryd.func24, Tryd.ntmps24
  go_wp2_with fail
  clear hy0 hcut
  go_loopg [0, 4] y0.size (fun j v0 v4 wr => ∃ (y : ByteArray) (A3 : Option Addr) (n3 c3 : Nat) (acc : List UInt8), v0 = .string y ∧ j = y.size ∧ y.size ≤ t.size - 2 ∧ v4 = .slice A3 n3 c3 ∧ n3 ≤ c3 ∧ c3 ≤ 9223372036854775807 ∧ Hid (Own Rep.byte 5 wr w.heap.size nob (.slice A3 n3 c3) acc) ∧ Hid (Below w.heap.size w wr) ∧ Hid (Quote.read hx16 y0.data.toList = (Quote.read hx16 y.data.toList).map (acc ++ ·)) ∧ Hid (acc.length + y.size ≤ t.size - 2))
  case atStart => exact ⟨y0, none, 0, 0, [], rfl, rfl, by have := HYZ.out; omega, rfl, Nat.le_refl _, by omega, Lib.hid (Own.nil _ _ _ _), Lib.hid (Below.refl _ _), Lib.hid (by simp), Lib.hid (by have := HYZ.out; simp; omega)⟩
  case round =>
    obtain ⟨y, A3, n3, c3, acc, rfl, rfl, hyt, rfl, hnc3, hcm3, HO, HB, HR, HAL⟩ := hrel
    obtain ⟨yl, hyl⟩ : ∃ yl, yl = y.data.toList := ⟨_, rfl⟩
    have HL : Hid (y.data.toList = yl) := Lib.hid hyl.symm
    clear hyl
    obtain ⟨wo, rfl⟩ : ∃ wo : World, wo = wr := ⟨_, rfl⟩
    match yl, HL with
    | [], HL =>
      have hys : y.size = 0 := ba_size y [] HL.out
      have hemp : y.toList.isEmpty = true := by rw [ByteArray.toList_eq, HL.out]; rfl
      have HR2 : Hid (Quote.read hx16 y0.data.toList = some acc) := Lib.hid (by rw [HR.out, HL.out]; simp [Quote.read_nil])
      obtain ⟨A4, n4, c4, e4, hn4, -, -⟩ := HO.out.form
      simp only [Value.slice.injEq] at e4
      obtain ⟨rfl, rfl, rfl⟩ := e4
      go_wp2_with fail
      go_ret2
      exact ⟨HB, .inr ⟨_, _, _, acc, rfl, hnc3, hcm3, by omega, HO, hn4, Lib.hid (by have := HAL.out; omega), HR2⟩⟩
    | [a], HL =>
      have HYS : Hid (y.size = 1) := Lib.hid (ba_size y [a] HL.out)
      have hys1 : 1 ≤ y.size := by have := HYS.out; omega
      have hys2 : y.size < 2 := by have := HYS.out; omega
      have hemp : y.toList.isEmpty = false := by rw [ByteArray.toList_eq, HL.out]; rfl
      have hat0 := ba_at y [a] HL.out 0 a rfl
      obtain ⟨y1, hy1⟩ : ∃ y1, y.extract 1 y.size = y1 := ⟨_, rfl⟩
      have hz1 : y1.size + 1 ≤ y.size := by rw [← hy1, ByteArray.size_extract]; omega
      have HR2 : Hid (Quote.read hx16 y0.data.toList = (Quote.read hx16 y1.data.toList).map ((acc ++ [a]) ++ ·)) := Lib.hid (by
        rw [HR.out, HL.out, ← hy1, ext_list', HL.out, HYS.out]
        simp [Quote.read, Quote.readGo])
      by_cases ha : a.toNat = 92
      · obtain rfl : a = 92 := Quote.u8_eq ha
        clear ha
        go_wp2_with (at_builtin; refine wpList_append_bytes _ rfl (.tmp 27) (.tmp 30) 23 rfl w.heap.size 5 stBytes (.slice A3 n3 c3) acc rfl (HO.out.alloc _) _ _ _ _ [92] rfl (SliceAt.newBytes _ _ _ [92] 1 (by simp) (by simp [maxLen]) rfl) rfl (by have := HAL.out; simp; omega) (by have := HB.out.size; simp; omega) ?_; intro v4 w4 hown4 hg4 hat4; obtain ⟨A4, n4, c4, rfl, hn4, hnc4, hcm4⟩ := hown4.form; have HB4 := Lib.hid (below_own (HB.out.alloc HB.out.size _) (HO.out.alloc _) hg4 (by have := HB.out.size; simp; omega)); have HO4 := Lib.hid hown4; clear hown4 hg4 hat4 hn4)
        go_roundg y1.size
        case measure => omega
        case rel => exact ⟨y1, A4, n4, c4, acc ++ [92], rfl, rfl, by omega, rfl, hnc4, hcm4, HO4, HB4, HR2, Lib.hid (by have := HAL.out; rw [List.length_append, List.length_singleton]; omega)⟩
      · have hai : ((a.toNat : Int) == 92) = false := by rw [beq_eq_false_iff_ne]; omega
        go_wp2_with (at_builtin; refine wpList_append_bytes _ rfl (.tmp 27) (.tmp 30) 23 rfl w.heap.size 5 stBytes (.slice A3 n3 c3) acc rfl (HO.out.alloc _) _ _ _ _ [a] rfl (SliceAt.newBytes _ _ _ [a] 1 (by simp) (by simp [maxLen]) rfl) rfl (by have := HAL.out; simp; omega) (by have := HB.out.size; simp; omega) ?_; intro v4 w4 hown4 hg4 hat4; obtain ⟨A4, n4, c4, rfl, hn4, hnc4, hcm4⟩ := hown4.form; have HB4 := Lib.hid (below_own (HB.out.alloc HB.out.size _) (HO.out.alloc _) hg4 (by have := HB.out.size; simp; omega)); have HO4 := Lib.hid hown4; clear hown4 hg4 hat4 hn4)
        go_roundg y1.size
        case measure => omega
        case rel => exact ⟨y1, A4, n4, c4, acc ++ [a], rfl, rfl, by omega, rfl, hnc4, hcm4, HO4, HB4, HR2, Lib.hid (by have := HAL.out; rw [List.length_append, List.length_singleton]; omega)⟩
    | a :: d :: r, HL =>
      have HYS : Hid (y.size = r.length + 2) := Lib.hid (ba_size y (a :: d :: r) HL.out)
      have hys2 : 2 ≤ y.size := by have := HYS.out; omega
      have hemp : y.toList.isEmpty = false := by rw [ByteArray.toList_eq, HL.out]; rfl
      have hat0 := ba_at y (a :: d :: r) HL.out 0 a rfl
      have hat1 := ba_at y (a :: d :: r) HL.out 1 d rfl
      by_cases ha : a.toNat ≠ 92
      · have hai : ((a.toNat : Int) == 92) = false := by rw [beq_eq_false_iff_ne]; omega
        obtain ⟨y1, hy1⟩ : ∃ y1, y.extract 1 y.size = y1 := ⟨_, rfl⟩
        have hz1 : y1.size + 1 ≤ y.size := by rw [← hy1, ByteArray.size_extract]; omega
        have HR2 : Hid (Quote.read hx16 y0.data.toList = (Quote.read hx16 y1.data.toList).map ((acc ++ [a]) ++ ·)) := Lib.hid (by
          rw [HR.out, HL.out, Quote.read_plain hx16 _ ha, map_push, ← hy1, ext_list', HL.out, HYS.out]
          rw [List.take_of_length_le (by simp)]
          rfl)
        clear hat1
        go_wp2_with (at_builtin; refine wpList_append_bytes _ rfl (.tmp 27) (.tmp 30) 23 rfl w.heap.size 5 stBytes (.slice A3 n3 c3) acc rfl (HO.out.alloc _) _ _ _ _ [a] rfl (SliceAt.newBytes _ _ _ [a] 1 (by simp) (by simp [maxLen]) rfl) rfl (by have := HAL.out; simp; omega) (by have := HB.out.size; simp; omega) ?_; intro v4 w4 hown4 hg4 hat4; obtain ⟨A4, n4, c4, rfl, hn4, hnc4, hcm4⟩ := hown4.form; have HB4 := Lib.hid (below_own (HB.out.alloc HB.out.size _) (HO.out.alloc _) hg4 (by have := HB.out.size; simp; omega)); have HO4 := Lib.hid hown4; clear hown4 hg4 hat4 hn4)
        go_roundg y1.size
        case measure => omega
        case rel => exact ⟨y1, A4, n4, c4, acc ++ [a], rfl, rfl, by omega, rfl, hnc4, hcm4, HO4, HB4, HR2, Lib.hid (by have := HAL.out; rw [List.length_append, List.length_singleton]; omega)⟩
      · obtain rfl : a = 92 := Quote.u8_eq (Classical.not_not.1 ha)
        clear ha
        obtain ⟨y2, hy2⟩ : ∃ y2, y.extract 2 y.size = y2 := ⟨_, rfl⟩
        have hz2 : y2.size + 2 ≤ y.size := by rw [← hy2, ByteArray.size_extract]; omega
        have HY2 : Hid (y2.data.toList = r) := Lib.hid (by
          rw [← hy2, ext_list', HL.out, HYS.out, List.take_of_length_le (by simp)]
          rfl)
        have hdl := d.toNat_lt
        by_cases h110 : d.toNat = 110
        · obtain rfl : d = 110 := Quote.u8_eq h110
          have HR2 : Hid (Quote.read hx16 y0.data.toList = (Quote.read hx16 y2.data.toList).map ((acc ++ [10]) ++ ·)) := Lib.hid (by rw [HR.out, HL.out, HY2.out, Quote.read_n, map_push])
          go_wp2_with (at_builtin; refine wpList_append_bytes _ rfl (.tmp 64) (.tmp 66) 23 rfl w.heap.size 5 stBytes (.slice A3 n3 c3) acc rfl (HO.out.alloc _) _ _ _ _ [10] rfl (SliceAt.newBytes _ _ _ [10] 1 (by simp) (by simp [maxLen]) rfl) rfl (by have := HAL.out; simp; omega) (by have := HB.out.size; simp; omega) ?_; intro v4 w4 hown4 hg4 hat4; obtain ⟨A4, n4, c4, rfl, hn4, hnc4, hcm4⟩ := hown4.form; have HB4 := Lib.hid (below_own (HB.out.alloc HB.out.size _) (HO.out.alloc _) hg4 (by have := HB.out.size; simp; omega)); have HO4 := Lib.hid hown4; clear hown4 hg4 hat4 hn4)
          go_roundg y2.size
          case measure => omega
          case rel => exact ⟨y2, A4, n4, c4, acc ++ [10], rfl, rfl, by omega, rfl, hnc4, hcm4, HO4, HB4, HR2, Lib.hid (by have := HAL.out; rw [List.length_append, List.length_singleton]; omega)⟩
        have f110 : ((d.toNat : Int) == 110) = false := by rw [beq_eq_false_iff_ne]; omega
        by_cases h116 : d.toNat = 116
        · obtain rfl : d = 116 := Quote.u8_eq h116
          have HR2 : Hid (Quote.read hx16 y0.data.toList = (Quote.read hx16 y2.data.toList).map ((acc ++ [9]) ++ ·)) := Lib.hid (by rw [HR.out, HL.out, HY2.out, Quote.read_t, map_push])
          go_wp2_with (at_builtin; refine wpList_append_bytes _ rfl (.tmp 64) (.tmp 66) 23 rfl w.heap.size 5 stBytes (.slice A3 n3 c3) acc rfl (HO.out.alloc _) _ _ _ _ [9] rfl (SliceAt.newBytes _ _ _ [9] 1 (by simp) (by simp [maxLen]) rfl) rfl (by have := HAL.out; simp; omega) (by have := HB.out.size; simp; omega) ?_; intro v4 w4 hown4 hg4 hat4; obtain ⟨A4, n4, c4, rfl, hn4, hnc4, hcm4⟩ := hown4.form; have HB4 := Lib.hid (below_own (HB.out.alloc HB.out.size _) (HO.out.alloc _) hg4 (by have := HB.out.size; simp; omega)); have HO4 := Lib.hid hown4; clear hown4 hg4 hat4 hn4)
          go_roundg y2.size
          case measure => omega
          case rel => exact ⟨y2, A4, n4, c4, acc ++ [9], rfl, rfl, by omega, rfl, hnc4, hcm4, HO4, HB4, HR2, Lib.hid (by have := HAL.out; rw [List.length_append, List.length_singleton]; omega)⟩
        have f116 : ((d.toNat : Int) == 116) = false := by rw [beq_eq_false_iff_ne]; omega
        by_cases h114 : d.toNat = 114
        · obtain rfl : d = 114 := Quote.u8_eq h114
          have HR2 : Hid (Quote.read hx16 y0.data.toList = (Quote.read hx16 y2.data.toList).map ((acc ++ [13]) ++ ·)) := Lib.hid (by rw [HR.out, HL.out, HY2.out, Quote.read_r, map_push])
          go_wp2_with (at_builtin; refine wpList_append_bytes _ rfl (.tmp 64) (.tmp 66) 23 rfl w.heap.size 5 stBytes (.slice A3 n3 c3) acc rfl (HO.out.alloc _) _ _ _ _ [13] rfl (SliceAt.newBytes _ _ _ [13] 1 (by simp) (by simp [maxLen]) rfl) rfl (by have := HAL.out; simp; omega) (by have := HB.out.size; simp; omega) ?_; intro v4 w4 hown4 hg4 hat4; obtain ⟨A4, n4, c4, rfl, hn4, hnc4, hcm4⟩ := hown4.form; have HB4 := Lib.hid (below_own (HB.out.alloc HB.out.size _) (HO.out.alloc _) hg4 (by have := HB.out.size; simp; omega)); have HO4 := Lib.hid hown4; clear hown4 hg4 hat4 hn4)
          go_roundg y2.size
          case measure => omega
          case rel => exact ⟨y2, A4, n4, c4, acc ++ [13], rfl, rfl, by omega, rfl, hnc4, hcm4, HO4, HB4, HR2, Lib.hid (by have := HAL.out; rw [List.length_append, List.length_singleton]; omega)⟩
        have f114 : ((d.toNat : Int) == 114) = false := by rw [beq_eq_false_iff_ne]; omega
        by_cases h120 : d.toNat = 120
        · obtain rfl : d = 120 := Quote.u8_eq h120
          by_cases hs2 : y2.size < 2
          · have HR2 : Hid (Quote.read hx16 y0.data.toList = none) := Lib.hid (by
              rw [HR.out, HL.out, Quote.read_step]
              have hrl := ba_size y2 r HY2.out
              match r, hrl with
              | [], _ => rfl
              | [u], _ => rfl
              | u :: v :: r', hrl => exact absurd (show y2.size = r'.length + 2 from hrl) (by omega))
            have hgn : wo.cell? ⟨0, 0, none⟩ = some ne := (HB.out.cell (p := ⟨0, 0, none⟩) hNlt).trans hgN.out
            go_wp2_with fail
            go_quiet (fail)
            go_wp2
            go_ret2
            exact ⟨Lib.hid (HB.out.trans (below_drewN' _ _ _)), .inl ⟨rfl, Lib.hid (.inr HR2.out)⟩⟩
          · have HRL := Lib.hid (ba_size y2 r HY2.out)
            obtain ⟨u, v, r', hr⟩ : ∃ u v r', r = u :: v :: r' := by
              have hrl := HRL.out
              match r, hrl with
              | [], hrl => exact absurd (show y2.size = 0 from hrl) (by omega)
              | [u], hrl => exact absurd (show y2.size = 1 from hrl) (by omega)
              | u :: v :: r', _ => exact ⟨u, v, r', rfl⟩
            have HRE := Lib.hid hr
            clear hr
            obtain ⟨y3, hy3⟩ : ∃ y3, y2.extract 0 2 = y3 := ⟨_, rfl⟩
            have HZ3 : Hid (y3.size = 2) := Lib.hid (by rw [← hy3, ByteArray.size_extract]; omega)
            have HY3 : Hid (y3.data.toList = [u, v]) := Lib.hid (by rw [← hy3, ext_list', HY2.out, HRE.out]; rfl)
            obtain ⟨y4, hy4⟩ : ∃ y4, y2.extract 2 y2.size = y4 := ⟨_, rfl⟩
            have hz4 : y4.size + 2 ≤ y2.size := by rw [← hy4, ByteArray.size_extract]; omega
            have HY4 : Hid (y4.data.toList = r') := Lib.hid (by
              rw [← hy4, ext_list', HY2.out, HRL.out, HRE.out, List.take_of_length_le (by simp)]
              rfl)
            have hgS2 : wo.cell? ⟨2, 0, none⟩ = some se := (HB.out.cell (p := ⟨2, 0, none⟩) hSlt).trans hgS.out
            have HGS := Lib.hid hgS2
            clear hgS2
            cases hx : hexAll [u, v] 0 with
            | none =>
              have HR2 : Hid (Quote.read hx16 y0.data.toList = none) := Lib.hid (by
                rw [HR.out, HL.out, Quote.read_step, HRE.out]
                unfold Quote.stepR
                rw [if_neg (by decide), if_neg (by decide), if_neg (by decide), if_neg (by decide), if_pos (by decide)]
                simp only [hx16, hx, Option.map_none])
              have HX : Hid (hexAll y3.data.toList 0 = none) := Lib.hid (by rw [HY3.out]; exact hx)
              clear hx
              go_wp2_with (go_at_call 52; refine (parseHex_no puLays y3 HZ3.out HX.out se wo HGS.out (.inr hev.out)).mono ?_; rintro e w2 ⟨N, rfl, hbw⟩; have HB2 := Lib.hid (HB.out.trans (hbw.mono HB.out.size)); have hgn : w2.cell? ⟨0, 0, none⟩ = some ne := (HB2.out.cell (p := ⟨0, 0, none⟩) hNlt).trans hgN.out; clear hbw)
              go_quiet (fail)
              go_wp2
              go_ret2
              exact ⟨Lib.hid (HB2.out.trans (below_drewN' _ _ _)), .inl ⟨rfl, Lib.hid (.inr HR2.out)⟩⟩
            | some z =>
              have hz256 := hexAll_lt hx
              have HR2 : Hid (Quote.read hx16 y0.data.toList = (Quote.read hx16 y4.data.toList).map ((acc ++ [UInt8.ofNat z]) ++ ·)) := Lib.hid (by
                rw [HR.out, HL.out, HY4.out, HRE.out, Quote.read_x hx16 u v (UInt8.ofNat z) r' (by simp only [hx16, hx, Option.map_some]), map_push])
              have HX : Hid (hexAll y3.data.toList 0 = some z) := Lib.hid (by rw [HY3.out]; exact hx)
              obtain ⟨zb, hzb⟩ : ∃ zb, zb = UInt8.ofNat z := ⟨_, rfl⟩
              rw [← hzb] at HR2
              obtain rfl : z = zb.toNat := by rw [hzb, UInt8.toNat_ofNat']; omega
              have hz256z : (zb.toNat : Int) < 256 := by omega
              clear hx hzb
              go_wp2_with (first | (go_at_call 52; refine (parseHex_ok puLays y3 HZ3.out zb.toNat HX.out wo).mono ?_; rintro e w2 ⟨rfl, hbw⟩; have HB2 := Lib.hid (HB.out.trans (hbw.mono HB.out.size)); have HO2 := Lib.hid (HO.out.far hbw); clear hbw) | (at_builtin; refine wpList_append_bytes _ rfl (.tmp 64) (.tmp 66) 23 rfl w.heap.size 5 stBytes (.slice A3 n3 c3) acc rfl (HO2.out.alloc _) _ _ _ _ [zb] rfl (SliceAt.newBytes _ _ _ [zb] 1 (by simp) (by simp [maxLen]) rfl) rfl (by have := HAL.out; simp; omega) (by have := HB2.out.size; simp; omega) ?_; intro v4 w4 hown4 hg4 hat4; obtain ⟨A4, n4, c4, rfl, hn4, hnc4, hcm4⟩ := hown4.form; have HB4 := Lib.hid (below_own (HB2.out.alloc HB2.out.size _) (HO2.out.alloc _) hg4 (by have := HB2.out.size; simp; omega)); have HO4 := Lib.hid hown4; clear hown4 hg4 hat4 hn4))
              go_roundg y4.size
              case measure => omega
              case rel => exact ⟨y4, A4, n4, c4, acc ++ [zb], rfl, rfl, by omega, rfl, hnc4, hcm4, HO4, HB4, HR2, Lib.hid (by have := HAL.out; rw [List.length_append, List.length_singleton]; omega)⟩
        · have f120 : ((d.toNat : Int) == 120) = false := by rw [beq_eq_false_iff_ne]; omega
          have HR2 : Hid (Quote.read hx16 y0.data.toList = (Quote.read hx16 y2.data.toList).map ((acc ++ [d]) ++ ·)) := Lib.hid (by rw [HR.out, HL.out, HY2.out, Quote.read_back hx16 r ⟨h110, h116, h114, h120⟩, map_push])
          go_wp2_with (at_builtin; refine wpList_append_bytes _ rfl (.tmp 64) (.tmp 66) 23 rfl w.heap.size 5 stBytes (.slice A3 n3 c3) acc rfl (HO.out.alloc _) _ _ _ _ [d] rfl (SliceAt.newBytes _ _ _ [d] 1 (by simp) (by simp [maxLen]) rfl) rfl (by have := HAL.out; simp; omega) (by have := HB.out.size; simp; omega) ?_; intro v4 w4 hown4 hg4 hat4; obtain ⟨A4, n4, c4, rfl, hn4, hnc4, hcm4⟩ := hown4.form; have HB4 := Lib.hid (below_own (HB.out.alloc HB.out.size _) (HO.out.alloc _) hg4 (by have := HB.out.size; simp; omega)); have HO4 := Lib.hid hown4; clear hown4 hg4 hat4 hn4)
          go_roundg y2.size
          case measure => omega
          case rel => exact ⟨y2, A4, n4, c4, acc ++ [d], rfl, rfl, by omega, rfl, hnc4, hcm4, HO4, HB4, HR2, Lib.hid (by have := HAL.out; rw [List.length_append, List.length_singleton]; omega)⟩
end Go.Proofs.YtfmaaempcpjpkaaDoor
