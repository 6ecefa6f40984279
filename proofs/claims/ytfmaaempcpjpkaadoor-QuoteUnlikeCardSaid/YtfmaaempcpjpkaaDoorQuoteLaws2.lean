/- The walk of the law QuoteUnlike. Conditions: the tables and the sentinels lie as they are laid. -/
import Derived.Test.YtfmaaempcpjpkaaDoorQuoteWorks
import Derived.Test.YtfmaaempcpjpkaaDoorNLib
import Derived.Deep.RegionHeld3
namespace Go.Proofs.YtfmaaempcpjpkaaDoor
open Go.RowKit Go.Deep

theorem ba_ne_word (a : Int) : ((Quote.wordB a).toList == []) = false := by
  rw [beq_eq_false_iff_ne, ByteArray.toList_eq]
  exact Quote.word_ne a
set_option maxRecDepth 100000 in
set_option maxHeartbeats 16000000 in
theorem quoteUnlike_any (a b : Int) (w : World) (ha0 : -9223372036854775808 ≤ a) (ha1 : a ≤ 9223372036854775807) (hb0 : -9223372036854775808 ≤ b) (hb1 : b ≤ 9223372036854775807) (hQ : Hid (QEnv w)) :
    Calls Tryd.prog 7 #[.int .i64 a, .int .i64 b] w fun r w' => r = .returned (.bool true) ∧ Hid (Below w.heap.size w w') := by
  have hne := Quote.word_ne a
  have heq : (Quote.wordB a).toList == (Quote.wordB b).toList ↔ a = b := by
    rw [beq_iff_eq, ByteArray.toList_eq, ByteArray.toList_eq]
    exact ⟨fun h => Quote.word_inj h, fun h => by rw [h]⟩
  obtain ⟨X, hX⟩ : ∃ X, Quote.wordB a = X := ⟨_, rfl⟩
  obtain ⟨Y, hY⟩ : ∃ Y, Quote.wordB b = Y := ⟨_, rfl⟩
  have hXe : X.toList.isEmpty = false := by
    rw [ByteArray.toList_eq, ← hX]
    show (Quote.wordL a).isEmpty = false
    cases h : Quote.wordL a with
    | nil => exact absurd h hne
    | cons x l => rfl
  have HP := wordP a w ha0 ha1 hQ
  rw [hX] at HP heq
  rw [hY] at heq
  have HP' := Lib.hid HP
  have HY := Lib.hid hY
  clear HP hX hY hne
  by_cases hab : a = b
  · have h1 : (X.toList == Y.toList) = true := heq.2 hab
    subst hab
    clear heq
    go_enter Tryd.func7, Tryd.ntmps7
    go_wp2_with fail
    refine HP'.out.mono ?_
    rintro r w1 ⟨rfl, HB1⟩
    have HD := wordP a w1 ha0 ha1 (Lib.hid (hQ.out.below HB1.out))
    rw [HY.out] at HD
    have HD' := Lib.hid HD
    clear HD
    go_wp2_with fail
    refine HD'.out.mono ?_
    rintro r w2 ⟨rfl, HB2⟩
    have HA2 := Lib.hid (HB1.out.trans (HB2.out.mono HB1.out.size))
    go_wp2_with fail
    refine (worksQ w2 (Lib.hid (hQ.out.below HA2.out))).mono ?_
    rintro r w3 ⟨rfl, HB3⟩
    go_wp2_with fail
    go_ret
    exact ⟨rfl, Lib.hid (HA2.out.trans (HB3.out.mono HA2.out.size))⟩
  · have h1 : (X.toList == Y.toList) = false := by
      cases h : (X.toList == Y.toList) with
      | false => rfl
      | true => exact absurd (heq.1 h) hab
    have h2 : (a == b) = false := by rw [beq_eq_false_iff_ne]; exact hab
    clear heq
    go_enter Tryd.func7, Tryd.ntmps7
    go_wp2_with fail
    refine HP'.out.mono ?_
    rintro r w1 ⟨rfl, HB1⟩
    have HD := wordP b w1 hb0 hb1 (Lib.hid (hQ.out.below HB1.out))
    rw [HY.out] at HD
    have HD' := Lib.hid HD
    clear HD
    clear hab
    go_wp2_with fail
    refine HD'.out.mono ?_
    rintro r w2 ⟨rfl, HB2⟩
    have HA2 := Lib.hid (HB1.out.trans (HB2.out.mono HB1.out.size))
    go_wp2_with fail
    refine (worksQ w2 (Lib.hid (hQ.out.below HA2.out))).mono ?_
    rintro r w3 ⟨rfl, HB3⟩
    go_wp2_with fail
    go_ret
    exact ⟨rfl, Lib.hid (HA2.out.trans (HB3.out.mono HA2.out.size))⟩
end Go.Proofs.YtfmaaempcpjpkaaDoor
