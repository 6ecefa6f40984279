/- The length of the longest row, as the document reckons it: the walk of galleyref18.Least. No conditions. -/
import Derived.Test.YtgbjcpnlllaeeaaDoorProg
import Derived.Test.YtgbjcpnlllaeeaaDoorMem
import Derived.Test.YtgbjcpnlllaeeaaDoorFoldPlain
import Derived.WalkKit
import Derived.WalkSpells
import Derived.Deep.QuietTactic
import Derived.BigQuiet
import Derived.Lib.Hide
import Derived.Deep.DeepMust
namespace Go.Proofs.YtgbjcpnlllaeeaaDoor
open Go.RowKit

set_option maxRecDepth 100000 in
set_option maxHeartbeats 2000000 in
theorem least_any (A : Option Addr) (n ca : Nat) (l : List UInt8) (w : World) (hn : Hid (n = l.length)) (S : Blocks) (hl : SliceAt Rep.byte w S A ca l) :
    Calls Tryd.prog 12 #[.slice A n ca] w fun e w' => e = .returned (.int .i64 (Fold.leastGo 0 4 l : Nat)) ∧ w' = w := by
  have HL := Lib.hid hl
  have h1 := hl.len
  have h2 := hl.max
  rw [← hn.out] at h1
  clear hl
  go_enter Tryd.func12, Tryd.ntmps12
  go_wp2
  go_loopw [3, 4, 5] (fun m v i wr => wr = w ∧ ∃ (k a b : Nat), k ≤ n ∧ i = .int .i64 k ∧ v = .int .i64 a ∧ m = .int .i64 b ∧ Fold.leastGo 0 4 l = Fold.leastGo a b (l.drop k) ∧ a ≤ k ∧ b ≤ 4 + k) (fun _ _ i _ => n - (intOf i).toNat)
  case atStart => exact ⟨rfl, 0, 0, 4, Nat.zero_le _, rfl, rfl, rfl, rfl, by omega, by omega⟩
  case round =>
    obtain ⟨rfl, k, a, b, hk, rfl, rfl, rfl, hgo, ha, hb⟩ := hrel
    by_cases hlt : k < n
    · have hkl : k < l.length := by have := hn.out; omega
      obtain ⟨g, o, rfl, hS, hc⟩ := HL.out.byte hkl
      have hd := List.drop_eq_getElem_cons hkl
      obtain ⟨x, hx⟩ : ∃ x, x = l[k] := ⟨_, rfl⟩
      rw [← hx] at hc hd
      rw [hd] at hgo
      have HGO := Lib.hid hgo
      clear hgo hd hx
      by_cases h10 : x.toNat = 10
      · have hnew : Fold.leastGo 0 4 l = Fold.leastGo 0 b (l.drop (k + 1)) := by
          rw [HGO.out]
          show Fold.leastGo (if x.toNat = 10 then 0 else a + 1) (if (if x.toNat = 10 then 0 else a + 1) > b + 1 ∧ _ then _ else _) _ = _
          rw [if_pos h10, if_neg (by omega)]
        have HNEW := Lib.hid hnew
        rw [h10] at hc
        have hb0 : ¬ (b : Int) < -1 := by omega
        clear hnew h10
        go_wp2
        go_roundw
        case rel => exact ⟨by first | trivial | rfl, k + 1, 0, b, by omega, by go_num, rfl, rfl, HNEW.out, by omega, by omega⟩
        case measure => simp [intOf]; omega
      · have h10' : ((x.toNat : Int) == 10) = false := by rw [beq_eq_false_iff_ne]; omega
        by_cases hab : b < a
        · by_cases hk1 : k + 1 < n
          · have hkl1 : k + 1 < l.length := by have := hn.out; omega
            obtain ⟨g', o', he, hS', hc'⟩ := HL.out.byte hkl1
            simp only [Option.some.injEq, Addr.mk.injEq] at he
            obtain ⟨rfl, rfl, _⟩ := he
            have hd' := List.drop_eq_getElem_cons hkl1
            obtain ⟨y, hy⟩ : ∃ y, y = l[k + 1] := ⟨_, rfl⟩
            rw [← hy] at hc' hd'
            have hhead : (l.drop (k + 1)).head? = some y := by rw [hd']; rfl
            by_cases hy10 : y.toNat = 10
            · have hnew : Fold.leastGo 0 4 l = Fold.leastGo (a + 1) a (l.drop (k + 1)) := by
                rw [HGO.out]
                show Fold.leastGo (if x.toNat = 10 then 0 else a + 1) (if (if x.toNat = 10 then 0 else a + 1) > b + 1 ∧ _ then (if x.toNat = 10 then 0 else a + 1) - 1 else _) _ = _
                have ey : y = 10 := by rw [← UInt8.toNat_inj]; exact hy10
                rw [if_neg h10, if_pos ⟨by omega, by rw [hhead, ey]⟩]
                rfl
              have HNEW := Lib.hid hnew
              rw [hy10] at hc'
              clear hnew h10 hy10 hd' hhead hy
              go_wp2
              go_roundw
              case rel => exact ⟨by first | trivial | rfl, k + 1, a + 1, a, by omega, by go_num, by go_num, by go_num, HNEW.out, by omega, by omega⟩
              case measure => simp [intOf]; omega
            · have hnew : Fold.leastGo 0 4 l = Fold.leastGo (a + 1) b (l.drop (k + 1)) := by
                rw [HGO.out]
                show Fold.leastGo (if x.toNat = 10 then 0 else a + 1) (if (if x.toNat = 10 then 0 else a + 1) > b + 1 ∧ _ then (if x.toNat = 10 then 0 else a + 1) - 1 else _) _ = _
                rw [if_neg h10, if_neg]
                rintro ⟨_, h⟩
                rw [hhead] at h
                injection h with h
                rw [h] at hy10
                exact hy10 (by decide)
              have HNEW := Lib.hid hnew
              have hy' : ((y.toNat : Int) == 10) = false := by rw [beq_eq_false_iff_ne]; omega
              clear hnew h10 hy10 hd' hhead hy
              go_wp2
              go_roundw
              case rel => exact ⟨by first | trivial | rfl, k + 1, a + 1, b, by omega, by go_num, by go_num, rfl, HNEW.out, by omega, by omega⟩
              case measure => simp [intOf]; omega
          · have hnew : Fold.leastGo 0 4 l = Fold.leastGo (a + 1) b (l.drop (k + 1)) := by
              rw [HGO.out]
              show Fold.leastGo (if x.toNat = 10 then 0 else a + 1) (if (if x.toNat = 10 then 0 else a + 1) > b + 1 ∧ _ then (if x.toNat = 10 then 0 else a + 1) - 1 else _) _ = _
              rw [if_neg h10, if_neg]
              rintro ⟨_, h⟩
              rw [List.drop_of_length_le (by have := hn.out; omega)] at h
              cases h
            have HNEW := Lib.hid hnew
            clear hnew h10
            go_wp2
            go_roundw
            case rel => exact ⟨by first | trivial | rfl, k + 1, a + 1, b, by omega, by go_num, by go_num, rfl, HNEW.out, by omega, by omega⟩
            case measure => simp [intOf]; omega
        · have hnew : Fold.leastGo 0 4 l = Fold.leastGo (a + 1) b (l.drop (k + 1)) := by
            rw [HGO.out]
            show Fold.leastGo (if x.toNat = 10 then 0 else a + 1) (if (if x.toNat = 10 then 0 else a + 1) > b + 1 ∧ _ then (if x.toNat = 10 then 0 else a + 1) - 1 else _) _ = _
            rw [if_neg h10, if_neg (by omega)]
          have HNEW := Lib.hid hnew
          clear hnew h10
          go_wp2
          go_roundw
          case rel => exact ⟨by first | trivial | rfl, k + 1, a + 1, b, by omega, by go_num, by go_num, rfl, HNEW.out, by omega, by omega⟩
          case measure => simp [intOf]; omega
    · obtain rfl : k = n := by omega
      have hfin : Fold.leastGo 0 4 l = b := by
        rw [hgo, List.drop_of_length_le (by have := hn.out; omega)]; rfl
      have HFIN := Lib.hid hfin
      clear hgo hfin
      go_wp2
      go_ret
      exact ⟨by rw [HFIN.out]; rfl, rfl⟩
end Go.Proofs.YtgbjcpnlllaeeaaDoor
