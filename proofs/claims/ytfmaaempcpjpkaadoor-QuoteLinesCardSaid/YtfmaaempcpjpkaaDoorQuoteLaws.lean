/- The walks of the laws QuoteWords, QuoteUnlike and QuoteLines. Conditions: the tables and the sentinels lie as they are laid. -/
import Derived.Test.YtfmaaempcpjpkaaDoorQuoteWorks
import Derived.Test.YtfmaaempcpjpkaaDoorNLib
import Derived.Deep.RegionHeld3
namespace Go.Proofs.YtfmaaempcpjpkaaDoor
open Go.RowKit Go.Deep

theorem wordDQ (e : Int) (w : World) (h0 : -9223372036854775808 ≤ e) (h1 : e ≤ 9223372036854775807) (hQ : Hid (QEnv w)) : Calls Tryd.prog 17 #[.int .i64 e] w fun r w' => r = .returned (.string (Quote.wordB e)) ∧ Hid (Below w.heap.size w w') := by
  obtain ⟨ea, se, -, -, -, h4, h5⟩ := hQ.out
  exact wordD_any e w h0 h1 (Lib.hid h4)
theorem lineDQ (e a : Int) (x : ByteArray) (w : World) (he0 : -9223372036854775808 ≤ e) (he1 : e ≤ 9223372036854775807) (ha0 : -9223372036854775808 ≤ a) (ha1 : a ≤ 9223372036854775807) (hx : x.size ≤ 4294967296) (hQ : Hid (QEnv w)) :
    Calls Tryd.prog 19 #[.agg #[.int .i64 e, .int .i64 a, .string x]] w fun r w' => ∃ y, r = .returned (.string y) ∧ Hid (y.data.toList = lineL e a x.data.toList) ∧ Hid (Below w.heap.size w w') := by
  obtain ⟨ea, se, -, -, -, h4, h5⟩ := hQ.out
  exact lineD_any e a x w he0 he1 ha0 ha1 hx (Lib.hid h4)
set_option maxRecDepth 100000 in
set_option maxHeartbeats 16000000 in
theorem quoteWords_any (e : Int) (w : World) (h0 : -9223372036854775808 ≤ e) (h1 : e ≤ 9223372036854775807) (hQ : Hid (QEnv w)) :
    Calls Tryd.prog 4 #[.int .i64 e] w fun r w' => r = .returned (.bool true) ∧ Hid (Below w.heap.size w w') := by
  go_enter Tryd.func4, Tryd.ntmps4
  go_wp2_with fail
  go_loopg [3] 3 (fun j v3 wr => ∃ (k : Int), -1 ≤ k ∧ k ≤ 2 ∧ j = (2 - k).toNat ∧ v3 = .int .i64 k ∧ Hid (Below w.heap.size w wr))
  case atStart => exact ⟨-1, by omega, by omega, rfl, rfl, Lib.hid (Below.refl _ _)⟩
  case round =>
    obtain ⟨k, hk0, hk2, rfl, rfl, HB⟩ := hrel
    obtain ⟨wo, rfl⟩ : ∃ wo : World, wo = wr := ⟨_, rfl⟩
    by_cases hk : k ≤ 1
    · by_cases hin : -9223372036854775808 ≤ e + k ∧ e + k ≤ 9223372036854775807
      · obtain ⟨hi0, hi1⟩ := hin
        obtain ⟨S, hS⟩ : ∃ S, Quote.wordB (e + k) = S := ⟨_, rfl⟩
        have hne : (S.toList == S.toList) = true := by simp
        have HP := wordP (e + k) wo (by omega) (by omega) (Lib.hid (hQ.out.below HB.out))
        rw [hS] at HP
        have HP' := Lib.hid HP
        have HSS := Lib.hid hS
        clear HP hS
        go_wp2_with fail
        refine HP'.out.mono ?_
        rintro r w1 ⟨rfl, HB1⟩
        have HA1 := Lib.hid (HB.out.trans (HB1.out.mono HB.out.size))
        have HD := wordDQ (e + k) w1 (by omega) (by omega) (Lib.hid (hQ.out.below HA1.out))
        rw [HSS.out] at HD
        have HD' := Lib.hid HD
        clear HD
        go_wp2_with fail
        refine HD'.out.mono ?_
        rintro r w2 ⟨rfl, HB2⟩
        have HA2 := Lib.hid (HA1.out.trans (HB2.out.mono HA1.out.size))
        go_wp2_with fail
        go_roundg (2 - ((k : Int) + 1)).toNat
        case measure => omega
        case rel => exact ⟨k + 1, by omega, by omega, rfl, by go_num, HA2⟩
      · by_cases hk1 : k = 1
        · subst hk1
          obtain rfl : e = 9223372036854775807 := by omega
          have hwr : wrap64 9223372036854775808 = -9223372036854775808 := by unfold wrap64; rfl
          clear hin
          obtain ⟨S, hS⟩ : ∃ S, Quote.wordB (-9223372036854775808) = S := ⟨_, rfl⟩
          have hne : (S.toList == S.toList) = true := by simp
          have HP := wordP (-9223372036854775808) wo (by omega) (by omega) (Lib.hid (hQ.out.below HB.out))
          rw [hS] at HP
          have HP' := Lib.hid HP
          have HSS := Lib.hid hS
          clear HP hS
          go_wp2_with fail
          refine HP'.out.mono ?_
          rintro r w1 ⟨rfl, HB1⟩
          have HA1 := Lib.hid (HB.out.trans (HB1.out.mono HB.out.size))
          have HD := wordDQ (-9223372036854775808) w1 (by omega) (by omega) (Lib.hid (hQ.out.below HA1.out))
          rw [HSS.out] at HD
          have HD' := Lib.hid HD
          clear HD
          go_wp2_with fail
          refine HD'.out.mono ?_
          rintro r w2 ⟨rfl, HB2⟩
          have HA2 := Lib.hid (HA1.out.trans (HB2.out.mono HA1.out.size))
          go_wp2_with fail
          go_roundg (2 - ((1 : Int) + 1)).toNat
          case measure => omega
          case rel => exact ⟨1 + 1, by omega, by omega, rfl, by go_num, HA2⟩
        · obtain rfl : k = -1 := by omega
          obtain rfl : e = -9223372036854775808 := by omega
          have hwr : wrap64 (-9223372036854775809) = 9223372036854775807 := by unfold wrap64; rfl
          clear hin hk1
          obtain ⟨S, hS⟩ : ∃ S, Quote.wordB (9223372036854775807) = S := ⟨_, rfl⟩
          have hne : (S.toList == S.toList) = true := by simp
          have HP := wordP (9223372036854775807) wo (by omega) (by omega) (Lib.hid (hQ.out.below HB.out))
          rw [hS] at HP
          have HP' := Lib.hid HP
          have HSS := Lib.hid hS
          clear HP hS
          go_wp2_with fail
          refine HP'.out.mono ?_
          rintro r w1 ⟨rfl, HB1⟩
          have HA1 := Lib.hid (HB.out.trans (HB1.out.mono HB.out.size))
          have HD := wordDQ (9223372036854775807) w1 (by omega) (by omega) (Lib.hid (hQ.out.below HA1.out))
          rw [HSS.out] at HD
          have HD' := Lib.hid HD
          clear HD
          go_wp2_with fail
          refine HD'.out.mono ?_
          rintro r w2 ⟨rfl, HB2⟩
          have HA2 := Lib.hid (HA1.out.trans (HB2.out.mono HA1.out.size))
          go_wp2_with fail
          go_roundg (2 - ((-1 : Int) + 1)).toNat
          case measure => omega
          case rel => exact ⟨-1 + 1, by omega, by omega, rfl, by go_num, HA2⟩
    · have hk' : k = 2 := by omega
      subst hk'
      go_wp2_with fail
      refine (worksQ wo (Lib.hid (hQ.out.below HB.out))).mono ?_
      rintro r w1 ⟨rfl, HB1⟩
      go_wp2_with fail
      go_ret
      exact ⟨rfl, Lib.hid (HB.out.trans (HB1.out.mono HB.out.size))⟩
end Go.Proofs.YtfmaaempcpjpkaaDoor
