/- The walk of the law QuoteLines. Conditions: the tables and the sentinels lie as they are laid. -/
import Derived.Test.YtfmaaempcpjpkaaDoorQuoteWorks
import Derived.Test.YtfmaaempcpjpkaaDoorNLib
import Derived.Deep.RegionHeld3
import Derived.Test.YtfmaaempcpjpkaaDoorQuoteLaws
namespace Go.Proofs.YtfmaaempcpjpkaaDoor
open Go.RowKit Go.Deep

set_option maxRecDepth 100000 in
set_option maxHeartbeats 16000000 in
theorem quoteLines_any (e a : Int) (x : ByteArray) (w : World) (he0 : -9223372036854775808 ≤ e) (he1 : e ≤ 9223372036854775807) (ha0 : -9223372036854775808 ≤ a) (ha1 : a ≤ 9223372036854775807) (hQ : Hid (QEnv w)) :
    Calls Tryd.prog 5 #[.agg #[.int .i64 e, .int .i64 a, .string x]] w fun r w' => r = .returned (.bool true) ∧ Hid (Below w.heap.size w w') := by
  have HBX := Lib.hid ((Below.refl _ w).alloc (Nat.le_refl _) (.cells #[.int .i64 e, .int .i64 a, .string x] 55))
  rcases Nat.lt_or_ge 2147483647 x.size with hlong | hlong
  · go_enter Tryd.func5, Tryd.ntmps5
    go_wp2_with fail
    refine (longY _ _ hlong).mono ?_
    rintro r w' ⟨rfl, rfl⟩
    go_wp2_with fail
    go_ret
    exact ⟨rfl, HBX⟩
  obtain ⟨Y, hY⟩ : ∃ Y : ByteArray, Y = ⟨(lineL e a x.data.toList).toArray⟩ := ⟨_, rfl⟩
  have HP : Hid (∀ W, QEnv W → Calls Tryd.prog 18 #[.agg #[.int .i64 e, .int .i64 a, .string x]] W fun r w' => r = .returned (.string Y) ∧ Below W.heap.size W w') := Lib.hid fun W h => (lineP e a x W he0 he1 ha0 ha1 (by omega) (Lib.hid h)).mono fun r w' ⟨y, h1, h2, h3⟩ => ⟨by rw [h1, hY, ba_eta y _ h2.out], h3.out⟩
  have HD : Hid (∀ W, QEnv W → Calls Tryd.prog 19 #[.agg #[.int .i64 e, .int .i64 a, .string x]] W fun r w' => r = .returned (.string Y) ∧ Below W.heap.size W w') := Lib.hid fun W h => (lineDQ e a x W he0 he1 ha0 ha1 (by omega) (Lib.hid h)).mono fun r w' ⟨y, h1, h2, h3⟩ => ⟨by rw [h1, hY, ba_eta y _ h2.out], h3.out⟩
  have HW : Hid (∀ W, QEnv W → Calls Tryd.prog 15 #[] W fun r w' => r = .returned (.bool true) ∧ Below W.heap.size W w') := Lib.hid fun W h => (worksQ W (Lib.hid h)).mono fun r w' ⟨h1, h3⟩ => ⟨h1, h3.out⟩
  have heq : (Y.toList == Y.toList) = true := by simp
  clear hY
  go_enter Tryd.func5, Tryd.ntmps5
  go_wp2_with fail
  refine (longN _ _ hlong).mono ?_
  rintro r w' ⟨rfl, rfl⟩
  obtain ⟨W0, hW0⟩ : ∃ W0, W0 = w.alloc (.cells #[.int .i64 e, .int .i64 a, .string x] 55) := ⟨_, rfl⟩
  have hz0 : W0.heap.size = w.heap.size + 1 := by rw [hW0]; simp
  have hc0 : W0.cell? ⟨w.heap.size, 0, none⟩ = some (.int .i64 e) := by rw [hW0]; simp
  have hc1 : W0.cell? ⟨w.heap.size, 1, none⟩ = some (.int .i64 a) := by rw [hW0]; simp
  have hc2 : W0.cell? ⟨w.heap.size, 2, none⟩ = some (.string x) := by rw [hW0]; simp
  have HBX : Hid (Below w.heap.size w W0) := Lib.hid (by rw [hW0]; exact HBX.out)
  rw [← hW0]
  clear hW0
  have HK0 : Hid (Below W0.heap.size W0 W0.drew ∧ W0.drew.cell? ⟨w.heap.size, 0, none⟩ = some (.int .i64 e) ∧ W0.drew.cell? ⟨w.heap.size, 1, none⟩ = some (.int .i64 a) ∧ W0.drew.cell? ⟨w.heap.size, 2, none⟩ = some (.string x)) := Lib.hid ⟨(Below.refl _ _).drew, hc0, hc1, hc2⟩
  have HKK : Hid (∀ W W', (Below W0.heap.size W0 W ∧ W.cell? ⟨w.heap.size, 0, none⟩ = some (.int .i64 e) ∧ W.cell? ⟨w.heap.size, 1, none⟩ = some (.int .i64 a) ∧ W.cell? ⟨w.heap.size, 2, none⟩ = some (.string x)) → Below W.heap.size W W' → (Below W0.heap.size W0 W' ∧ W'.cell? ⟨w.heap.size, 0, none⟩ = some (.int .i64 e) ∧ W'.cell? ⟨w.heap.size, 1, none⟩ = some (.int .i64 a) ∧ W'.cell? ⟨w.heap.size, 2, none⟩ = some (.string x))) := Lib.hid fun W W' ⟨h1, h2, h3, h4⟩ hb => by
    have hlt : w.heap.size < W.heap.size := by have := h1.size; omega
    exact ⟨h1.trans (hb.mono h1.size), (hb.cell (p := ⟨w.heap.size, 0, none⟩) hlt).trans h2, (hb.cell (p := ⟨w.heap.size, 1, none⟩) hlt).trans h3, (hb.cell (p := ⟨w.heap.size, 2, none⟩) hlt).trans h4⟩
  have HQS : Hid (∀ W, (Below W0.heap.size W0 W ∧ W.cell? ⟨w.heap.size, 0, none⟩ = some (.int .i64 e) ∧ W.cell? ⟨w.heap.size, 1, none⟩ = some (.int .i64 a) ∧ W.cell? ⟨w.heap.size, 2, none⟩ = some (.string x)) → QEnv W) := Lib.hid fun W h => (hQ.out.below HBX.out).below h.1
  clear hc0 hc1 hc2 hz0
  go_upto_region 3 with fail
  go_region_held3 (fun W => Below W0.heap.size W0 W ∧ W.cell? ⟨w.heap.size, 0, none⟩ = some (.int .i64 e) ∧ W.cell? ⟨w.heap.size, 1, none⟩ = some (.int .i64 a) ∧ W.cell? ⟨w.heap.size, 2, none⟩ = some (.string x)) (first | exact HK0.out | exact HKK.out _ _ (by assumption) (by assumption)) (first | (go_at_call 18; refine (HP.out _ (HQS.out _ (by assumption))).mono ?_; rintro r w2 ⟨rfl, hb2⟩) | (go_at_call 19; refine (HD.out _ (HQS.out _ (by assumption))).mono ?_; rintro r w2 ⟨rfl, hb2⟩) | (go_at_call 15; refine (HW.out _ (HQS.out _ (by assumption))).mono ?_; rintro r w2 ⟨rfl, hb2⟩))
  obtain ⟨hfin, -⟩ := (by assumption : (Below W0.heap.size W0 w2 ∧ w2.cell? ⟨w.heap.size, 0, none⟩ = some (.int .i64 e) ∧ w2.cell? ⟨w.heap.size, 1, none⟩ = some (.int .i64 a) ∧ w2.cell? ⟨w.heap.size, 2, none⟩ = some (.string x)))
  have HFIN := Lib.hid (HBX.out.trans (hfin.mono HBX.out.size))
  go_wp2_with fail
  go_ret
  exact ⟨rfl, HFIN⟩
end Go.Proofs.YtfmaaempcpjpkaaDoor
