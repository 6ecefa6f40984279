/- How long a replacement comes out: the walks of galleyref16.Long and fill.Long. No conditions. -/
import Derived.Test.YtebbilkkacbfjaaDoorProg
import Derived.Test.YtebbilkkacbfjaaDoorMem
import Derived.Test.YtebbilkkacbfjaaDoorPieces
import Derived.WalkKit
import Derived.WalkSpells
import Derived.Deep.QuietTactic
import Derived.BigQuiet
import Derived.Lib.Hide
namespace Go.Proofs.YtebbilkkacbfjaaDoor
open Go.RowKit

theorem retI {k : IntKind} {a b : Int} (h : a = b) : Ending.returned (.int k b) = Ending.returned (.int k a) := by rw [h]
def klen (ss : List Span) (p : Piece) : Int :=
  if p.group = -1 then p.text.length else
    match ss[p.group.toNat]? with
    | some s => if 0 ≤ p.group ∧ 0 ≤ s.lo ∧ s.lo ≤ s.hi then s.hi - s.lo else 0
    | none => 0
def longFrom (ss : List Span) : Int → List Piece → Int
  | n, [] => n
  | n, p :: r => if 1099511627776 - n < klen ss p then 1099511627776 else longFrom ss (n + klen ss p) r
theorem longFrom_at (ss : List Span) (n : Int) (ps : List Piece) (k : Nat) (h : k < ps.length) :
    longFrom ss n (ps.drop k) = if 1099511627776 - n < klen ss ps[k] then 1099511627776 else longFrom ss (n + klen ss ps[k]) (ps.drop (k + 1)) := by
  rw [List.drop_eq_getElem_cons h]; rfl
theorem klen_neg {ss : List Span} {p : Piece} (h : p.group ≠ -1) (h2 : p.group < 0 ∨ (ss.length : Int) ≤ p.group) : klen ss p = 0 := by
  unfold klen
  rw [if_neg h]
  split
  · rename_i s hs
    have hl := (List.getElem?_eq_some_iff.1 hs).1
    exact if_neg (by omega)
  · rfl
theorem klen_in {ss : List Span} {p : Piece} {j : Nat} (hp : p.group = j) (h : j < ss.length) : klen ss p = if 0 ≤ ss[j].lo ∧ ss[j].lo ≤ ss[j].hi then ss[j].hi - ss[j].lo else 0 := by
  unfold klen
  rw [if_neg (by omega), hp, Int.toNat_natCast, List.getElem?_eq_getElem h]
  simp

set_option maxHeartbeats 4000000 in
theorem refLong (A S : Option Addr) (ca cs : Nat) (ps : List Piece) (ss : List Span) (w : World) (S1 S2 : Blocks) (hp : SliceAt Rep.piece w S1 A ca ps) (hs : SliceAt Rep.span w S2 S cs ss) :
    Calls Tryd.prog 17 #[.slice A ps.length ca, .slice S ss.length cs] w fun e w' => e = .returned (.int .i64 (longFrom ss 0 ps)) ∧ ∃ n, w' = w.drewN n := by
  have HP := Lib.hid hp
  have HS := Lib.hid hs
  have hpl := hp.len
  have hpm := hp.max
  clear hp hs
  go_enter Tryd.func17, Tryd.ntmps17
  go_wp2
  go_loopw [5, 6] (fun s i wr => ∃ (k nd : Nat) (n : Int), k ≤ ps.length ∧ i = .int .i64 k ∧ s = .int .i64 n ∧ wr = w.drewN nd ∧ 0 ≤ n ∧ n ≤ 1099511627776 ∧ longFrom ss 0 ps = longFrom ss n (ps.drop k)) (fun _ i _ => ps.length - (intOf i).toNat)
  case atStart => exact ⟨0, 0, 0, Nat.zero_le _, rfl, rfl, rfl, by omega, by omega, rfl⟩
  case round =>
    obtain ⟨k, nd, n, hk, rfl, rfl, rfl, hn0, hn1, hl⟩ := hrel
    have HL := Lib.hid hl
    clear hl
    by_cases hlt : k < ps.length
    · obtain ⟨g, o, At, ct', rfl, hc0, hc1, htx, hwf, hwf'⟩ := piece_at HP.out (Same.refl _ w) hlt
      have hat := longFrom_at ss n ps k hlt
      have htl := htx.len
      have htm := htx.max
      have HTX := Lib.hid htx
      have HAT := Lib.hid hat
      clear htx hat
      by_cases h1 : ps[k].group = -1
      · have h1' : (ps[k].group == -1) = true := by simpa using h1
        have hkl : klen ss ps[k] = ps[k].text.length := by unfold klen; rw [if_pos h1]
        have HKL := Lib.hid hkl
        have H1 := Lib.hid h1
        clear h1 hkl
        by_cases hgt : 1099511627776 - n < ps[k].text.length
        · go_wp2
          go_ret
          exact ⟨retI (by rw [HL.out, HAT.out, HKL.out, if_pos hgt]), _, rfl⟩
        · go_wp2
          go_roundw
          case rel => exact ⟨k + 1, nd, n + ps[k].text.length, by omega, by go_num, rfl, rfl, by omega, by omega, by rw [HL.out, HAT.out, HKL.out, if_neg (by omega)]⟩
          case measure => simp [intOf]; omega
      · have h1' : (ps[k].group == -1) = false := by simpa using h1
        by_cases h2 : ps[k].group < 0 ∨ (ss.length : Int) ≤ ps[k].group
        · have hnext : longFrom ss n (ps.drop k) = longFrom ss n (ps.drop (k + 1)) := by rw [HAT.out, klen_neg h1 h2, if_neg (by omega), Int.add_zero]
          have HNEXT := Lib.hid hnext
          have H1 := Lib.hid h1
          clear hnext h1
          rcases h2 with h2 | h2
          · have h3 : decide (0 ≤ ps[k].group) = false := by simp; omega
            go_wp2
            go_quiet (fail)
            go_wp2
            go_roundw
            case rel => exact ⟨k + 1, _, n, by omega, by go_num, by go_num, rfl, by omega, by omega, by rw [HL.out, HNEXT.out]⟩
            case measure => simp [intOf]; omega
          · have h3 : decide (0 ≤ ps[k].group) = true := by simp; omega
            have h4 : decide (ps[k].group < (ss.length : Int)) = false := by simp; omega
            go_wp2
            go_quiet (fail)
            go_wp2
            go_roundw
            case rel => exact ⟨k + 1, _, n, by omega, by go_num, by go_num, rfl, by omega, by omega, by rw [HL.out, HNEXT.out]⟩
            case measure => simp [intOf]; omega
        · obtain ⟨j, hj⟩ : ∃ j : Nat, ps[k].group = j := ⟨ps[k].group.toNat, by omega⟩
          have hjl : j < ss.length := by omega
          obtain ⟨g2, o2, rfl, hd0, hd1, hwf1, hwf2, hwf3, hwf4⟩ := span_at HS.out (Same.refl _ w) hjl
          have hkl := klen_in hj hjl
          rw [hj] at hc0 h1' h2 hwf hwf'
          have HKL := Lib.hid hkl
          have HJ := Lib.hid hj
          have h3 : ((j : Nat) : Int) < ss.length := by omega
          clear hj hkl h1
          by_cases h4 : 0 ≤ ss[j].lo ∧ ss[j].lo ≤ ss[j].hi
          · have hkl : klen ss ps[k] = ss[j].hi - ss[j].lo := by rw [HKL.out, if_pos h4]
            have HKL := Lib.hid hkl
            obtain ⟨h5, h6⟩ := h4
            have h5' : decide (0 ≤ ss[j].lo) = true := by simpa using h5
            have h6' : decide (ss[j].lo ≤ ss[j].hi) = true := by simpa using h6
            clear hkl
            by_cases hgt : 1099511627776 - n < ss[j].hi - ss[j].lo
            · go_wp2
              go_quiet (fail)
              go_wp2
              go_quiet (fail)
              go_wp2
              go_ret
              exact ⟨retI (by rw [HL.out, HAT.out, HKL.out, if_pos hgt]), _, rfl⟩
            · go_wp2
              go_quiet (fail)
              go_wp2
              go_quiet (fail)
              go_wp2
              go_roundw
              case rel => exact ⟨k + 1, _, n + (ss[j].hi - ss[j].lo), by omega, by go_num, rfl, rfl, by omega, by omega, by rw [HL.out, HAT.out, HKL.out, if_neg (by omega)]⟩
              case measure => simp [intOf]; omega
          · have hnext : longFrom ss n (ps.drop k) = longFrom ss n (ps.drop (k + 1)) := by rw [HAT.out, HKL.out, if_neg h4, if_neg (by omega), Int.add_zero]
            have HNEXT := Lib.hid hnext
            clear hnext
            by_cases h5 : 0 ≤ ss[j].lo
            · have h5' : decide (0 ≤ ss[j].lo) = true := by simpa using h5
              have h6' : decide (ss[j].lo ≤ ss[j].hi) = false := by simp; omega
              go_wp2
              go_quiet (fail)
              go_wp2
              go_roundw
              case rel => exact ⟨k + 1, _, n, by omega, by go_num, by go_num, rfl, by omega, by omega, by rw [HL.out, HNEXT.out]⟩
              case measure => simp [intOf]; omega
            · have h5' : decide (0 ≤ ss[j].lo) = false := by simpa using h5
              go_wp2
              go_quiet (fail)
              go_wp2
              go_roundw
              case rel => exact ⟨k + 1, _, n, by omega, by go_num, by go_num, rfl, by omega, by omega, by rw [HL.out, HNEXT.out]⟩
              case measure => simp [intOf]; omega
    · obtain rfl : k = ps.length := by omega
      have hfin : longFrom ss 0 ps = n := by rw [HL.out, List.drop_length]; rfl
      have HF := Lib.hid hfin
      clear hfin
      go_wp2
      go_ret
      exact ⟨retI HF.out, _, rfl⟩

set_option maxHeartbeats 4000000 in
theorem fillLong (A S : Option Addr) (ca cs : Nat) (ps : List Piece) (ss : List Span) (w : World) (hp : SliceAt Rep.piece w (under w.heap.size) A ca ps) (hs : SliceAt Rep.span w (under w.heap.size) S cs ss) :
    Calls Tryd.prog 18 #[.slice A ps.length ca, .slice S ss.length cs] w fun e w' => e = .returned (.int .i64 (longFrom ss 0 ps)) ∧ Below w.heap.size w w' := by
  have HP := Lib.hid hp
  have HS := Lib.hid hs
  have hpl := hp.len
  have hpm := hp.max
  clear hp hs
  go_enter Tryd.func18, Tryd.ntmps18
  go_wp2
  go_loopw [5, 12] (fun s i wr => ∃ (k : Nat) (n : Int), k ≤ ps.length ∧ i = .int .i64 k ∧ s = .int .i64 n ∧ Below w.heap.size w wr ∧ 0 ≤ n ∧ n ≤ 1099511627776 ∧ longFrom ss 0 ps = longFrom ss n (ps.drop k)) (fun _ i _ => ps.length - (intOf i).toNat)
  case atStart => exact ⟨0, 0, Nat.zero_le _, rfl, rfl, Below.refl _ _, by omega, by omega, rfl⟩
  case round =>
    obtain ⟨k, n, hk, rfl, rfl, hbw, hn0, hn1, hl⟩ := hrel
    have hz := hbw.size
    have HBW := Lib.hid hbw
    have HL := Lib.hid hl
    clear hl
    by_cases hlt : k < ps.length
    · have hsame : Same (under w.heap.size) w wr := Same.of_below hbw fun _ h => h
      have HSAME := Lib.hid hsame
      obtain ⟨g, o, At, ct', rfl, hc0, hc1, htx, hwf, hwf'⟩ := piece_at HP.out hsame hlt
      clear hbw hsame
      have hat := longFrom_at ss n ps k hlt
      have htl := htx.len
      have htm := htx.max
      have HTX := Lib.hid htx
      have HAT := Lib.hid hat
      clear htx hat
      by_cases h1 : ps[k].group = -1
      · have h1' : (ps[k].group == -1) = true := by simpa using h1
        have hkl : klen ss ps[k] = ps[k].text.length := by unfold klen; rw [if_pos h1]
        have HKL := Lib.hid hkl
        have H1 := Lib.hid h1
        clear h1 hkl
        by_cases hgt : 1099511627776 - n < ps[k].text.length
        · go_wp2
          go_ret
          exact ⟨retI (by rw [HL.out, HAT.out, HKL.out, if_pos hgt]), HBW.out.alloc hz _⟩
        · go_wp2
          go_roundw
          case rel => exact ⟨k + 1, n + ps[k].text.length, by omega, by go_num, rfl, HBW.out.alloc hz _, by omega, by omega, by rw [HL.out, HAT.out, HKL.out, if_neg (by omega)]⟩
          case measure => simp [intOf]; omega
      · have h1' : (ps[k].group == -1) = false := by simpa using h1
        by_cases h2 : ps[k].group < 0 ∨ (ss.length : Int) ≤ ps[k].group
        · have hnext : longFrom ss n (ps.drop k) = longFrom ss n (ps.drop (k + 1)) := by rw [HAT.out, klen_neg h1 h2, if_neg (by omega), Int.add_zero]
          have HNEXT := Lib.hid hnext
          have H1 := Lib.hid h1
          clear hnext h1
          rcases h2 with h2 | h2
          · have h3 : decide (0 ≤ ps[k].group) = false := by simp; omega
            go_wp2
            go_roundw
            case rel => exact ⟨k + 1, n, by omega, by go_num, by go_num, HBW.out.alloc hz _, by omega, by omega, by rw [HL.out, HNEXT.out]⟩
            case measure => simp [intOf]; omega
          · have h3 : decide (0 ≤ ps[k].group) = true := by simp; omega
            have h4 : decide (ps[k].group < (ss.length : Int)) = false := by simp; omega
            go_wp2
            go_roundw
            case rel => exact ⟨k + 1, n, by omega, by go_num, by go_num, HBW.out.alloc hz _, by omega, by omega, by rw [HL.out, HNEXT.out]⟩
            case measure => simp [intOf]; omega
        · obtain ⟨j, hj⟩ : ∃ j : Nat, ps[k].group = j := ⟨ps[k].group.toNat, by omega⟩
          have hjl : j < ss.length := by omega
          obtain ⟨g2, o2, rfl, hd0, hd1, hwf1, hwf2, hwf3, hwf4⟩ := span_at HS.out HSAME.out hjl
          have hg2 : g2 < wr.heap.size := World.block_lt_of_cell? wr _ hd0
          have hkl := klen_in hj hjl
          rw [hj] at hc0 h1' h2 hwf hwf'
          have HKL := Lib.hid hkl
          have HJ := Lib.hid hj
          have h3 : ((j : Nat) : Int) < ss.length := by omega
          clear hj hkl h1
          by_cases h4 : 0 ≤ ss[j].lo ∧ ss[j].lo ≤ ss[j].hi
          · have hkl : klen ss ps[k] = ss[j].hi - ss[j].lo := by rw [HKL.out, if_pos h4]
            have HKL := Lib.hid hkl
            obtain ⟨h5, h6⟩ := h4
            have h5' : decide (0 ≤ ss[j].lo) = true := by simpa using h5
            have h6' : decide (ss[j].lo ≤ ss[j].hi) = true := by simpa using h6
            clear hkl
            by_cases hgt : 1099511627776 - n < ss[j].hi - ss[j].lo
            · go_wp2
              go_ret
              exact ⟨retI (by rw [HL.out, HAT.out, HKL.out, if_pos hgt]), (HBW.out.alloc hz _).alloc (by simp; omega) _⟩
            · go_wp2
              go_roundw
              case rel => exact ⟨k + 1, n + (ss[j].hi - ss[j].lo), by omega, by go_num, rfl, (HBW.out.alloc hz _).alloc (by simp; omega) _, by omega, by omega, by rw [HL.out, HAT.out, HKL.out, if_neg (by omega)]⟩
              case measure => simp [intOf]; omega
          · have hnext : longFrom ss n (ps.drop k) = longFrom ss n (ps.drop (k + 1)) := by rw [HAT.out, HKL.out, if_neg h4, if_neg (by omega), Int.add_zero]
            have HNEXT := Lib.hid hnext
            clear hnext
            by_cases h5 : 0 ≤ ss[j].lo
            · have h5' : decide (0 ≤ ss[j].lo) = true := by simpa using h5
              have h6' : decide (ss[j].lo ≤ ss[j].hi) = false := by simp; omega
              go_wp2
              go_roundw
              case rel => exact ⟨k + 1, n, by omega, by go_num, by go_num, (HBW.out.alloc hz _).alloc (by simp; omega) _, by omega, by omega, by rw [HL.out, HNEXT.out]⟩
              case measure => simp [intOf]; omega
            · have h5' : decide (0 ≤ ss[j].lo) = false := by simpa using h5
              go_wp2
              go_roundw
              case rel => exact ⟨k + 1, n, by omega, by go_num, by go_num, (HBW.out.alloc hz _).alloc (by simp; omega) _, by omega, by omega, by rw [HL.out, HNEXT.out]⟩
              case measure => simp [intOf]; omega
    · obtain rfl : k = ps.length := by omega
      have hfin : longFrom ss 0 ps = n := by rw [HL.out, List.drop_length]; rfl
      have HF := Lib.hid hfin
      clear hfin
      go_wp2
      go_ret
      exact ⟨retI HF.out, HBW.out⟩

end Go.Proofs.YtebbilkkacbfjaaDoor
