/- The walk of galleylaw02's plain, at a text that is readable. No conditions. -/
import Derived.Test.YtfmaaempcpjpkaaDoorQuoteWorks
import Derived.Test.YtfmaaempcpjpkaaDoorNLib
import Derived.Deep.RegionHeld3
namespace Go.Proofs.YtfmaaempcpjpkaaDoor
open Go.RowKit Go.Deep

set_option maxRecDepth 100000 in
set_option maxHeartbeats 16000000 in
theorem plain_any (t : ByteArray) (m : List UInt8) (w : World) (hnb : t.size ≤ 17179869184) (ht : Hid (t.data.toList = 34 :: (m ++ [34]))) (hm : Hid (Quote.plainB false m = true)) :
    Calls Tryd.prog 22 #[.string t] w fun r w' => r = .returned (.bool true) ∧ w = w' := by
  have HZ : Hid (t.size = m.length + 2) := Lib.hid (by rw [ba_size t _ ht.out]; simp)
  have h2 : 2 ≤ t.size := by have := HZ.out; omega
  have h2z : (2 : Int) ≤ (t.size : Int) := by omega
  have hat0 := ba_at t _ ht.out 0 34 rfl
  have hatE : ∀ h : t.size - 1 < t.size, t[t.size - 1]'h = 34 := ba_at t _ ht.out (t.size - 1) 34 (by rw [HZ.out]; show (34 :: (m ++ [34]))[m.length + 1]? = some 34; rw [List.getElem?_cons_succ, List.getElem?_append_right (Nat.le_refl _)]; simp)
  have hn1 : ((t.size : Int) - 1).toNat = t.size - 1 := by omega
  have HAT : Hid (∀ i, 1 ≤ i → i < t.size - 1 → ∃ a r, m.drop (i - 1) = a :: r ∧ m.drop i = r ∧ ∀ h : i < t.size, t[i]'h = a) := Lib.hid fun i h1 h3 => by
    have hi : i - 1 < m.length := by have := HZ.out; omega
    refine ⟨m[i - 1], m.drop i, ?_, rfl, ba_at t _ ht.out i m[i - 1] ?_⟩
    · have := List.drop_eq_getElem_cons hi
      rw [show i - 1 + 1 = i by omega] at this
      exact this
    · obtain ⟨j, rfl⟩ : ∃ j, i = j + 1 := ⟨i - 1, by omega⟩
      rw [List.getElem?_cons_succ, List.getElem?_append_left (by omega)]
      exact List.getElem?_eq_getElem (by omega)
  go_enter Tryd.func22, Tryd.ntmps22
  go_wp2_with fail
  clear hat0 hatE
  go_loopg [3, 4] t.size (fun j v3 v4 wr => ∃ (i : Nat) (sl : Bool), 1 ≤ i ∧ i ≤ t.size - 1 ∧ j = t.size + 1 - i ∧ v4 = .int .i64 i ∧ v3 = .bool sl ∧ w = wr ∧ Hid (Quote.plainB sl (m.drop (i - 1)) = true))
  case atStart => exact ⟨1, false, Nat.le_refl _, by omega, by omega, rfl, rfl, rfl, hm⟩
  case round =>
    obtain ⟨i, sl, hi1, hi2, rfl, rfl, rfl, rfl, HP⟩ := hrel
    by_cases hlt : i < t.size - 1
    · have hlz : (i : Int) < (t.size : Int) - 1 := by omega
      obtain ⟨a, r, hd, hd2, hat⟩ := HAT.out i hi1 hlt
      have HP2 := HP.out
      rw [hd] at HP2
      simp only [Quote.plainB] at HP2
      by_cases hbad : a.toNat < 32 ∨ a.toNat = 127 ∨ (a.toNat = 34 ∧ sl = false)
      · rw [if_pos hbad] at HP2; cases HP2
      rw [if_neg hbad, ← hd2] at HP2
      have HR : Hid (Quote.plainB (decide (a.toNat = 92) && !sl) (m.drop (i + 1 - 1)) = true) := Lib.hid HP2
      have g1 : ¬ a.toNat < 32 := fun h => hbad (.inl h)
      have g1z : ¬ (a.toNat : Int) < 32 := by omega
      have g2 : ((a.toNat : Int) == 127) = false := by rw [beq_eq_false_iff_ne]; intro e; exact hbad (.inr (.inl (by omega)))
      have hal := a.toNat_lt
      cases sl with
      | true =>
        have HR2 : Hid (Quote.plainB false (m.drop (i + 1 - 1)) = true) := Lib.hid (by have h9 := HR.out; simpa using h9)
        clear HP HP2 hbad HR hd hd2 g1
        by_cases h34 : a.toNat = 34
        · obtain rfl : a = 34 := Quote.u8_eq h34
          go_wp2_with fail
          go_roundg (t.size + 1 - (i + 1))
          case measure => omega
          case rel => exact ⟨i + 1, false, by omega, by omega, rfl, by go_num, rfl, rfl, HR2⟩
        · have g3 : ((a.toNat : Int) == 34) = false := by rw [beq_eq_false_iff_ne]; omega
          by_cases h92 : a.toNat = 92
          · obtain rfl : a = 92 := Quote.u8_eq h92
            go_wp2_with fail
            go_roundg (t.size + 1 - (i + 1))
            case measure => omega
            case rel => exact ⟨i + 1, false, by omega, by omega, rfl, by go_num, rfl, rfl, HR2⟩
          · have g4 : ((a.toNat : Int) == 92) = false := by rw [beq_eq_false_iff_ne]; omega
            clear h34 h92
            go_wp2_with fail
            go_roundg (t.size + 1 - (i + 1))
            case measure => omega
            case rel => exact ⟨i + 1, false, by omega, by omega, rfl, by go_num, rfl, rfl, HR2⟩
      | false =>
        have h34 : ¬ a.toNat = 34 := fun h => hbad (.inr (.inr ⟨h, rfl⟩))
        have g3 : ((a.toNat : Int) == 34) = false := by rw [beq_eq_false_iff_ne]; omega
        by_cases h92 : a.toNat = 92
        · have HR2 : Hid (Quote.plainB true (m.drop (i + 1 - 1)) = true) := Lib.hid (by have h9 := HR.out; rw [decide_eq_true h92] at h9; exact h9)
          obtain rfl : a = 92 := Quote.u8_eq h92
          clear HP HP2 hbad HR hd hd2 g1 h34 h92
          go_wp2_with fail
          go_roundg (t.size + 1 - (i + 1))
          case measure => omega
          case rel => exact ⟨i + 1, true, by omega, by omega, rfl, by go_num, rfl, rfl, HR2⟩
        · have HR2 : Hid (Quote.plainB false (m.drop (i + 1 - 1)) = true) := Lib.hid (by have h9 := HR.out; rw [decide_eq_false h92] at h9; exact h9)
          have g4 : ((a.toNat : Int) == 92) = false := by rw [beq_eq_false_iff_ne]; omega
          clear HP HP2 hbad HR hd hd2 g1 h34 h92
          go_wp2_with fail
          go_roundg (t.size + 1 - (i + 1))
          case measure => omega
          case rel => exact ⟨i + 1, false, by omega, by omega, rfl, by go_num, rfl, rfl, HR2⟩
    · have hie : i = t.size - 1 := by omega
      have hlz : ¬ (i : Int) < (t.size : Int) - 1 := by omega
      have hsl : sl = false := by
        have h9 := HP.out
        rw [List.drop_of_length_le (by have := HZ.out; omega)] at h9
        cases sl with
        | false => rfl
        | true => cases h9
      subst hsl
      clear hie
      go_wp2_with fail
      go_ret
      exact ⟨rfl, rfl⟩
end Go.Proofs.YtfmaaempcpjpkaaDoor
