/- Characters: the walks of quote.fair, and of the document's size, fair, byteText and digit. No conditions. -/
import Derived.Test.YtfmaaempcpjpkaaDoorProg
import Derived.Test.YtfmaaempcpjpkaaDoorMem
import Derived.Test.YtfmaaempcpjpkaaDoorQuoteUtf
import Derived.Test.YtfmaaempcpjpkaaDoorQuoteSz
import Derived.WalkKit
import Derived.WalkSpells
import Derived.Deep.LoopGhost
import Derived.WalkMore
import Derived.BigQuiet
import Derived.Deep.Cut
import Derived.Deep.CutBlock
import Derived.Lib.Hide
namespace Go.Proofs.YtfmaaempcpjpkaaDoor
open Go.RowKit Go.Deep

theorem retI2 {k : IntKind} {a b : Int} (h : a = b) : Ending.returned (.int k a) = Ending.returned (.int k b) := by rw [h]
theorem retB2 {p : Prop} [Decidable p] {b : Bool} (h : p ↔ b = true) : Ending.returned (.bool b) = Ending.returned (.bool (decide p)) := by
  congr 2
  cases b <;> simp_all
set_option maxRecDepth 100000 in
set_option maxHeartbeats 4000000 in
theorem fairP_any (c : Nat) (w : World) : Calls Tryd.prog 50 #[.int .i32 c] w fun e w' => e = .returned (.bool (decide (Quote.fairR c))) ∧ w' = w := by
  by_cases h1 : c < 32
  · have hd : decide (Quote.fairR c) = false := decide_eq_false (by unfold Quote.fairR; omega)
    have f1 : decide ((32 : Int) ≤ (c : Int)) = false := decide_eq_false (by omega)
    rw [hd]
    go_enter Tryd.func50, Tryd.ntmps50
    go_wp2
    go_ret
    exact ⟨rfl, rfl⟩
  by_cases h2 : 127 ≤ c ∧ c ≤ 159
  · have hd : decide (Quote.fairR c) = false := decide_eq_false (by unfold Quote.fairR; omega)
    have f1 : ((32 : Int) ≤ (c : Int)) := by omega
    have f2 : ¬ (c : Int) < 127 := by omega
    have f3 : ¬ (159 : Int) < c := by omega
    rw [hd]
    go_enter Tryd.func50, Tryd.ntmps50
    go_wp2
    go_ret
    exact ⟨rfl, rfl⟩
  by_cases h3 : c = 34
  · subst h3
    go_enter Tryd.func50, Tryd.ntmps50
    go_wp2
    go_ret
    exact ⟨rfl, rfl⟩
  by_cases h4 : c = 92
  · subst h4
    go_enter Tryd.func50, Tryd.ntmps50
    go_wp2
    go_ret
    exact ⟨rfl, rfl⟩
  have hd : decide (Quote.fairR c) = true := decide_eq_true (by unfold Quote.fairR; omega)
  have f1 : ((32 : Int) ≤ (c : Int)) := by omega
  have f4 : ((c : Int) == 34) = false := by rw [beq_eq_false_iff_ne]; omega
  have f5 : ((c : Int) == 92) = false := by rw [beq_eq_false_iff_ne]; omega
  have f6 : ((c : Int) != 34) = true := by rw [bne_iff_ne]; omega
  have f7 : ((c : Int) != 92) = true := by rw [bne_iff_ne]; omega
  rw [hd]
  by_cases h5 : c < 127
  · have f2 : (c : Int) < 127 := by omega
    clear h1 h2 h3 h4 hd
    go_enter Tryd.func50, Tryd.ntmps50
    go_wp2
    go_ret
    exact ⟨rfl, rfl⟩
  · have f2 : ¬ (c : Int) < 127 := by omega
    have f3 : (159 : Int) < c := by omega
    clear h1 h2 h3 h4 hd h5
    go_enter Tryd.func50, Tryd.ntmps50
    go_wp2
    go_ret
    exact ⟨rfl, rfl⟩
set_option maxRecDepth 100000 in
set_option maxHeartbeats 4000000 in
theorem digit_any (b : UInt8) (w : World) : Calls Tryd.prog 55 #[.int .u8 b.toNat] w fun e w' => e = .returned (.int .i64 (match Quote.hexv b with | some v => (v : Int) | none => -1)) ∧ w' = w := by
  have hb := b.toNat_lt
  unfold Quote.hexv
  obtain ⟨c, hc⟩ : ∃ c, c = b.toNat := ⟨_, rfl⟩
  rw [← hc] at hb ⊢
  clear hc
  by_cases h1 : 48 ≤ c ∧ c ≤ 57
  · rw [if_pos h1]
    obtain ⟨k, rfl⟩ : ∃ k, c = 48 + k := ⟨c - 48, by omega⟩
    have e1 : 48 + k - 48 = k := by omega
    rw [e1]
    clear e1
    obtain ⟨h1, h2⟩ := h1
    go_enter Tryd.func55, Tryd.ntmps55
    go_wp2
    go_ret
    exact ⟨retI2 (by omega), rfl⟩
  rw [if_neg h1]
  by_cases h2 : 97 ≤ c ∧ c ≤ 102
  · rw [if_pos h2]
    obtain ⟨k, rfl⟩ : ∃ k, c = 97 + k := ⟨c - 97, by omega⟩
    have e1 : 97 + k - 87 = k + 10 := by omega
    rw [e1]
    clear e1
    obtain ⟨h3, h4⟩ := h2
    clear h1
    go_enter Tryd.func55, Tryd.ntmps55
    go_wp2
    go_ret
    exact ⟨retI2 (by omega), rfl⟩
  rw [if_neg h2]
  go_enter Tryd.func55, Tryd.ntmps55
  go_wp2
  all_goals go_ret
  all_goals exact ⟨rfl, rfl⟩
theorem hex_cut : ∀ i (_ : i < 16), (⟨#[48, 49, 50, 51, 52, 53, 54, 55, 56, 57, 97, 98, 99, 100, 101, 102]⟩ : ByteArray).extract i (i + 1) = ⟨#[Quote.hexd i]⟩ := by decide
theorem str_cat (a b : ByteArray) : a ++ b = ⟨a.data ++ b.data⟩ := by apply ByteArray.ext; exact ByteArray.data_append
set_option maxRecDepth 100000 in
set_option maxHeartbeats 4000000 in
theorem byteText_any (b : UInt8) (w : World) : Calls Tryd.prog 57 #[.int .u8 b.toNat] w fun e w' => e = .returned (.string ⟨(Quote.esc b).toArray⟩) ∧ ∃ q, w' = w.drewN q := by
  have hb := b.toNat_lt
  unfold Quote.esc
  by_cases h34 : b.toNat = 34
  · rw [if_pos h34, h34]
    go_enter Tryd.func57, Tryd.ntmps57
    go_wp2
    go_ret
    exact ⟨rfl, 0, rfl⟩
  rw [if_neg h34]
  by_cases h92 : b.toNat = 92
  · rw [if_pos h92, h92]
    go_enter Tryd.func57, Tryd.ntmps57
    go_wp2
    go_ret
    exact ⟨rfl, 0, rfl⟩
  rw [if_neg h92]
  by_cases h10 : b.toNat = 10
  · rw [if_pos h10, h10]
    go_enter Tryd.func57, Tryd.ntmps57
    go_wp2
    go_ret
    exact ⟨rfl, 0, rfl⟩
  rw [if_neg h10]
  by_cases h9 : b.toNat = 9
  · rw [if_pos h9, h9]
    go_enter Tryd.func57, Tryd.ntmps57
    go_wp2
    go_ret
    exact ⟨rfl, 0, rfl⟩
  rw [if_neg h9]
  by_cases h13 : b.toNat = 13
  · rw [if_pos h13, h13]
    go_enter Tryd.func57, Tryd.ntmps57
    go_wp2
    go_ret
    exact ⟨rfl, 0, rfl⟩
  rw [if_neg h13]
  obtain ⟨i, hi⟩ : ∃ i, i = b.toNat / 16 := ⟨_, rfl⟩
  obtain ⟨j, hj⟩ : ∃ j, j = b.toNat % 16 := ⟨_, rfl⟩
  have hs : (b.toNat : Int) / 16 = (i : Int) := by omega
  have hm : (b.toNat : Int) % 16 = (j : Int) := by omega
  have hi16 : i < 16 := by omega
  have hj16 : j < 16 := by omega
  have hi16z : (i : Int) < 16 := by omega
  have hj16z : (j : Int) < 16 := by omega
  have hxi := hex_cut i hi16
  have hxj := hex_cut j hj16
  rw [← hi, ← hj]
  clear hi hj
  go_enter Tryd.func57, Tryd.ntmps57
  go_upto_region 13 with fail
  go_quiet (fail)
  go_wp2
  go_ret
  refine ⟨?_, _, rfl⟩
  congr 2
end Go.Proofs.YtfmaaempcpjpkaaDoor
