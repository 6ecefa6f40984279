/- Characters: the walks of the document's size and fair. Condition: the place is in the row. -/
import Derived.Test.YtfmaaempcpjpkaaDoorQuote2
namespace Go.Proofs.YtfmaaempcpjpkaaDoor
open Go.RowKit Go.Deep

set_option maxRecDepth 100000 in
set_option maxHeartbeats 8000000 in
theorem size_any (A : Option Addr) (n c p : Nat) (l : List UInt8) (S : Blocks) (w : World) (hn : Hid (n = l.length)) (hl : Hid (SliceAt Rep.byte w S A c l)) (hp : p < n) (hnb : n ≤ 281474976710656) :
    Calls Tryd.prog 51 #[.slice A n c, .int .i64 p] w fun e w' => e = .returned (.int .i64 (Quote.sz (l.drop p) : Nat)) ∧ w' = w := by
  have hnc := hl.out.len
  have hcm := hl.out.max
  rw [← hn.out] at hnc
  have hpl : p < l.length := by have := hn.out; omega
  obtain ⟨g, o, rfl, hg, hc⟩ := hl.out.byte hpl
  have hdr : l.drop p = l[p] :: l.drop (p + 1) := List.drop_eq_getElem_cons hpl
  obtain ⟨x, hx⟩ : ∃ x, x = l[p] := ⟨_, rfl⟩
  rw [← hx] at hc hdr
  have hxl := x.toNat_lt
  have hpz : (p : Int) < (n : Int) := by omega
  clear hx
  have HC : Hid (∀ k, 1 ≤ k → p + k < n → ∃ y, l.drop (p + k) = y :: l.drop (p + k + 1) ∧ w.cell? ⟨g, o + (p + k), none⟩ = some (.int .u8 y.toNat)) := Lib.hid fun k h1 h2 => by
    have hq : p + k < l.length := by have := hn.out; omega
    obtain ⟨g', o', hgo, -, hd⟩ := hl.out.byte hq
    simp only [Option.some.injEq, Addr.mk.injEq] at hgo
    obtain ⟨rfl, rfl, -⟩ := hgo
    exact ⟨l[p + k], List.drop_eq_getElem_cons hq, hd⟩
  have HE : Hid (∀ k, n ≤ p + k → l.drop (p + k) = []) := Lib.hid fun k h => List.drop_of_length_le (by have := hn.out; omega)
  rw [hdr]
  clear hpl hg
  obtain ⟨R, hR⟩ : ∃ R, R = l.drop (p + 1) := ⟨_, rfl⟩
  rw [← hR]
  obtain ⟨a, ha⟩ : ∃ a, a = x.toNat := ⟨_, rfl⟩
  rw [← ha] at hc hxl
  by_cases h1 : a < 128
  · rw [Quote.sz_one R (by omega)]
    clear ha hdr hR
    go_enter Tryd.func51, Tryd.ntmps51
    go_wp2
    go_ret
    exact ⟨rfl, rfl⟩
  by_cases h2 : 192 ≤ a ∧ a < 248
  · obtain ⟨nn, low, cd, hF, hnn, hlow, hcd, hform⟩ : ∃ nn low cd, Quote.sz (x :: R) = Quote.fin nn low (Quote.contGo (nn - 1) cd R) ∧ (2 ≤ nn ∧ nn ≤ 4) ∧ (128 ≤ low ∧ low ≤ 65536) ∧ cd < 32 ∧ ((a < 224 ∧ nn = 2 ∧ low = 128 ∧ cd = a - 192) ∨ (224 ≤ a ∧ a < 240 ∧ nn = 3 ∧ low = 2048 ∧ cd = a - 224) ∨ (240 ≤ a ∧ nn = 4 ∧ low = 65536 ∧ cd = a - 240)) := by
      by_cases h3 : a < 224
      · exact ⟨2, 128, a - 192, by rw [ha]; exact Quote.sz_two R (by omega), by omega, by omega, by omega, .inl ⟨h3, rfl, rfl, rfl⟩⟩
      by_cases h4 : a < 240
      · exact ⟨3, 2048, a - 224, by rw [ha]; exact Quote.sz_three R (by omega), by omega, by omega, by omega, .inr (.inl ⟨by omega, h4, rfl, rfl, rfl⟩)⟩
      · exact ⟨4, 65536, a - 240, by rw [ha]; exact Quote.sz_four' R (by omega), by omega, by omega, by omega, .inr (.inr ⟨by omega, rfl, rfl, rfl⟩)⟩
    have HF := Lib.hid hF
    have HR := Lib.hid hR
    clear hF hR hdr ha
    have hcdz : (cd : Int) < 32 := by omega
    go_enter Tryd.func51, Tryd.ntmps51
    go_upto_block 0 with fail
    go_cut [6, 7, 8] from 16 (fun v6 v7 v8 wc => v6 = .int .i64 nn ∧ v7 = .int .i64 low ∧ v8 = .int .i64 cd ∧ wc = w)
    case first =>
      rcases hform with ⟨h3, rfl, rfl, h6⟩ | ⟨h3, h4, rfl, rfl, h6⟩ | ⟨h3, rfl, rfl, h6⟩
      · obtain rfl : a = cd + 192 := by omega
        clear h6 HF
        go_wp2_with fail
        go_meet
        case rel => exact ⟨rfl, rfl, by first | rfl | (congr 1; omega), rfl⟩
      · obtain rfl : a = cd + 224 := by omega
        clear h6 HF
        go_wp2_with fail
        go_meet
        case rel => exact ⟨rfl, rfl, by first | rfl | (congr 1; omega), rfl⟩
      · obtain rfl : a = cd + 240 := by omega
        clear h6 HF
        go_wp2_with fail
        go_meet
        case rel => exact ⟨rfl, rfl, by first | rfl | (congr 1; omega), rfl⟩
    case rest =>
      obtain ⟨rfl, rfl, rfl, rfl⟩ := hcut
      clear hform h1 h2
      go_wp2_with fail
      go_loopg [8, 9] (nn - 1) (fun j v8 v9 wr => ∃ (k code : Nat), 1 ≤ k ∧ k ≤ nn ∧ j = nn - k ∧ v8 = .int .i64 code ∧ v9 = .int .i64 k ∧ wr = wc ∧ Hid (Quote.sz (x :: R) = Quote.fin nn low (Quote.contGo (nn - k) code (l.drop (p + k)))) ∧ code ≤ 8388607 ∧ Hid (code < 32 * 64 ^ (k - 1)))
      case atStart => exact ⟨1, cd, by omega, by omega, rfl, rfl, rfl, rfl, Lib.hid (by rw [HF.out, HR.out]), by omega, Lib.hid (by omega)⟩
      case round =>
        obtain ⟨k, code, hk1, hkn, rfl, rfl, rfl, rfl, HK, hco, HCO⟩ := hrel
        by_cases hlt : k < nn
        · have hltz : (k : Int) < (nn : Int) := by omega
          obtain ⟨m, hm⟩ : ∃ m, nn - k = m + 1 := ⟨nn - k - 1, by omega⟩
          have HM := Lib.hid hm
          rw [hm] at HK
          clear hm
          by_cases hpk : p + k < n
          · obtain ⟨y, hy, hcy⟩ := HC.out k hk1 hpk
            have hyl := y.toNat_lt
            have hpkz : (p : Int) + (k : Int) < (n : Int) := by omega
            rw [hy] at HK
            clear hy
            by_cases hy1 : 128 ≤ y.toNat ∧ y.toNat ≤ 191
            · have HK2 : Hid (Quote.sz (x :: R) = Quote.fin nn low (Quote.contGo (nn - (k + 1)) (64 * code + y.toNat - 128) (l.drop (p + (k + 1))))) := Lib.hid (by
                have h9 := HM.out
                rw [HK.out, Quote.cont_step _ _ _ _ hy1, show nn - (k + 1) = m by omega, show p + (k + 1) = p + k + 1 by omega])
              have HCO2 : Hid (64 * code + y.toNat - 128 < 32 * 64 ^ (k + 1 - 1)) := Lib.hid (by
                have h9 := HCO.out
                rw [show k + 1 - 1 = k - 1 + 1 by omega, Nat.pow_succ]
                omega)
              have HCB : Hid (64 * code + y.toNat - 128 ≤ 8388607) := Lib.hid (by
                have h9 := HCO2.out
                have h10 : k = 1 ∨ k = 2 ∨ k = 3 := by omega
                rcases h10 with rfl | rfl | rfl <;> simp at h9 <;> omega)
              obtain ⟨hy2, hy3⟩ := hy1
              obtain ⟨code2, hc2⟩ : ∃ code2, code2 = 64 * code + y.toNat - 128 := ⟨_, rfl⟩
              have HC2 := Lib.hid hc2
              rw [← hc2] at HK2 HCO2 HCB
              clear hc2 HK HCO
              go_wp2_with fail
              go_roundg (nn - (k + 1))
              case measure => omega
              case rel => exact ⟨k + 1, code2, by omega, by omega, rfl, (by have h9 := HC2.out; congr 1; omega), (by go_num), rfl, HK2, HCB.out, HCO2⟩
            · have HK2 : Hid (Quote.sz (x :: R) = 0) := Lib.hid (by rw [HK.out, Quote.cont_no _ _ _ _ hy1]; rfl)
              rcases Nat.lt_or_ge y.toNat 128 with hy2 | hy2
              · clear hy1 HK HCO HM
                go_wp2_with fail
                go_ret
                exact ⟨retI2 (by first | (rw [HK2.out]; done) | (rw [HK2.out]; rfl)), rfl⟩
              · have hy3 : 191 < y.toNat := by omega
                clear hy1 HK HCO HM
                go_wp2_with fail
                go_ret
                exact ⟨retI2 (by first | (rw [HK2.out]; done) | (rw [HK2.out]; rfl)), rfl⟩
          · have HK2 : Hid (Quote.sz (x :: R) = 0) := Lib.hid (by rw [HK.out, HE.out k (by omega)]; rfl)
            have hpkz : (n : Int) ≤ (p : Int) + (k : Int) := by omega
            clear HK HCO HM
            go_wp2_with fail
            go_ret
            exact ⟨retI2 (by first | (rw [HK2.out]; done) | (rw [HK2.out]; rfl)), rfl⟩
        · obtain rfl : k = nn := by omega
          rw [show k - k = 0 by omega] at HK
          have HK : Hid (Quote.sz (x :: R) = Quote.fin k low (some code)) := HK
          clear HCO
          by_cases q1 : code < low
          · have HK2 : Hid (Quote.sz (x :: R) = 0) := Lib.hid (HK.out.trans (by unfold Quote.fin; simp only; rw [if_neg (by omega)]))
            clear HK
            go_wp2_with fail
            go_ret
            exact ⟨retI2 (by first | (rw [HK2.out]; done) | (rw [HK2.out]; rfl)), rfl⟩
          by_cases q2 : 1114111 < code
          · have HK2 : Hid (Quote.sz (x :: R) = 0) := Lib.hid (HK.out.trans (by unfold Quote.fin; simp only; rw [if_neg (by omega)]))
            clear HK
            go_wp2_with fail
            go_ret
            exact ⟨retI2 (by first | (rw [HK2.out]; done) | (rw [HK2.out]; rfl)), rfl⟩
          by_cases q3 : 55296 ≤ code ∧ code ≤ 57343
          · have HK2 : Hid (Quote.sz (x :: R) = 0) := Lib.hid (HK.out.trans (by unfold Quote.fin; simp only; rw [if_neg (by omega)]))
            clear HK
            obtain ⟨q4, q5⟩ := q3
            go_wp2_with fail
            go_ret
            exact ⟨retI2 (by first | (rw [HK2.out]; done) | (rw [HK2.out]; rfl)), rfl⟩
          have HK2 : Hid (Quote.sz (x :: R) = k) := Lib.hid (HK.out.trans (by unfold Quote.fin; simp only; rw [if_pos (by omega)]))
          clear HK
          rcases Nat.lt_or_ge code 55296 with q4 | q4
          · clear q3
            go_wp2_with fail
            go_ret
            exact ⟨retI2 (by first | (rw [HK2.out]; done) | (rw [HK2.out]; rfl)), rfl⟩
          · have q5 : 57343 < code := by omega
            clear q3
            go_wp2_with fail
            go_ret
            exact ⟨retI2 (by first | (rw [HK2.out]; done) | (rw [HK2.out]; rfl)), rfl⟩
  · rw [Quote.sz_no R (by omega) (by omega)]
    clear ha hdr hR
    rcases Nat.lt_or_ge a 192 with h3 | h3
    · clear h2
      go_enter Tryd.func51, Tryd.ntmps51
      go_wp2
      go_ret
      exact ⟨rfl, rfl⟩
    · have h4 : 248 ≤ a := by omega
      clear h2
      go_enter Tryd.func51, Tryd.ntmps51
      go_wp2
      go_ret
      exact ⟨rfl, rfl⟩
end Go.Proofs.YtfmaaempcpjpkaaDoor
