/- Texts that lead to the claim, one behind the other: galleylaw29.works, galleylaw29.TempsNames: the walks. No conditions. -/
import Derived.Test.YtncpeogkccjmcaaTR40
import Derived.Test.YtncpeogkccjmcaaTR37
import Derived.Test.YtncpeogkccjmcaaTR28
import Derived.Test.YtncpeogkccjmcaaTR43
import Derived.Test.YtncpeogkccjmcaaTR44
namespace Go.Proofs.Ytncpeogkccjmcaa
open Go.RowKit Go.ChangeShapes Go.WideShapes Go.Deep

namespace Disk
def fsW : List Fin_ := [⟨[46, 103, 97, 108, 108, 101, 121, 45, 120], [1], 1, false⟩, ⟨[121], [], 0, false⟩]
def tw0 : St := fromSt 9 fsW
def tw1 : St := tw0.clean.1
theorem tw_facts : fromErr 9 fsW = 0 ∧ tw0.stale.length = 1 ∧ tw0.clean.2 = 0 ∧ tw1.stale = [] ∧ tw1.names = [[121]] ∧ tw1.done = 2 := by
  refine ⟨by decide, by decide, by decide, by decide, by decide, by decide⟩
theorem tw_fine : Fine tw0 := fine_from (by decide)
theorem tw_small : Small 0 tw0 := small_from _ _
def nA : ByteArray := ⟨#[97]⟩
def nTA : ByteArray := ⟨#[46, 103, 97, 108, 108, 101, 121, 45, 97]⟩
end Disk
def fRow (g : Nat) : Array Value := #[.string ⟨#[46, 103, 97, 108, 108, 101, 121, 45, 120]⟩, .slice (some ⟨g, 0, none⟩) 1 1, .int .i64 1, .bool false, .string ⟨#[121]⟩, .slice none 0 0, .int .i64 0, .bool false]
theorem lit_files (w : World) : SliceAt Rep.fin ((w.alloc (.cells #[.int .u8 1] 5)).alloc (.cells (fRow w.heap.size) 52)) (fun b => b < w.heap.size + 2) (some ⟨w.heap.size + 1, 0, none⟩) 2 Disk.fsW := by
  have h := SliceAt.newRow Rep.fin (w.alloc (.cells #[.int .u8 1] 5)) 52 (fRow w.heap.size) Disk.fsW (fun b => b = w.heap.size) 2 2 rfl (Nat.le_refl _) (by decide) (fun i hi => ?_) fun b hb => by subst hb; simp
  · rw [World.size_alloc] at h
    exact h.up fun b hb => by rcases hb with rfl | rfl <;> omega
  · match i, hi with
    | 0, _ =>
      refine ⟨some ⟨w.heap.size, 0, none⟩, 1, rfl, ?_, by simp [Disk.fsW, maxLen], by simp [Disk.fsW]; decide⟩
      have := SliceAt.newRow Rep.byte w 5 #[.int .u8 1] [1] nob 1 1 rfl (Nat.le_refl _) (by decide) (fun i hi => by
        match i, hi with
        | 0, _ => rfl) fun _ h => h.elim
      exact this.up fun b hb => hb.elim id fun h => h.elim
    | 1, _ => exact ⟨none, 0, rfl, SliceAt.nil _ _ _, by simp [Disk.fsW, maxLen], by simp [Disk.fsW]; decide⟩
section
variable {w : World}
theorem name_a (w : World) : Calls Try.prog 7 #[.string ⟨#[97]⟩] w fun e w' => e = .returned (.tuple #[.string ⟨#[46, 103, 97, 108, 108, 101, 121, 45, 97]⟩, .bool true]) ∧ Below w.heap.size w w' :=
  (tname_any ⟨#[97]⟩ w).mono fun _ _ h => ⟨h.1, h.2⟩
theorem is_ta (w : World) : Calls Try.prog 9 #[.string ⟨#[46, 103, 97, 108, 108, 101, 121, 45, 97]⟩] w fun e w' => e = .returned (.bool true) ∧ w = w' := is_any ⟨#[46, 103, 97, 108, 108, 101, 121, 45, 97]⟩ w
theorem is_a (w : World) : Calls Try.prog 9 #[.string ⟨#[97]⟩] w fun e w' => e = .returned (.bool false) ∧ w = w' := is_any ⟨#[97]⟩ w
set_option maxRecDepth 100000 in
set_option maxHeartbeats 4000000 in
theorem tworks_any : Calls Try.prog 11 #[] w fun e w' => e = .returned (.bool true) ∧ Below w.heap.size w w' := by
  obtain ⟨f0, f1, f2, f3, f4, f5⟩ := Disk.tw_facts
  have F0 := Lib.hid f0; have F1 := Lib.hid f1; have F2 := Lib.hid f2; have F3 := Lib.hid f3; have F4 := Lib.hid f4; have F5 := Lib.hid f5
  clear f0 f1 f2 f3 f4 f5
  have HFN := Lib.hid Disk.tw_fine
  have HSM := Lib.hid Disk.tw_small
  go_enter Try.func11, Try.ntmps11
  go_wp2_with fail
  refine (name_a w).mono ?_
  rintro e w1 ⟨rfl, hb1⟩
  have HB1 := Lib.hid hb1
  clear hb1
  go_wp2_with fail
  have HFR := Lib.hid (from_any (w := (w1.alloc (.cells #[.int .u8 1] 5)).alloc (.cells (fRow w1.heap.size) 52)) 9 (some ⟨w1.heap.size + 1, 0, none⟩) 2 2 Disk.fsW _ (Lib.hid rfl) (Lib.hid (lit_files w1)) (Lib.hid fun b hb => by simpa using hb) (Lib.hid (by decide)))
  refine HFR.out.mono ?_
  rintro e w2 (⟨h1, -⟩ | ⟨-, d, rfl, hd, hb2⟩)
  · exact absurd F0.out h1
  have K0 : Hid (Kd w w2 (btw ((w1.alloc (.cells #[.int .u8 1] 5)).alloc (.cells (fRow w1.heap.size) 52)).heap.size w2.heap.size) d Disk.tw0) := Lib.hid ⟨hd, (HB1.out.trans ((Below.alloc (Below.alloc (Below.refl _ w1) (Nat.le_refl _) _) (by simp) _).mono HB1.out.size)).trans (hb2.mono (by have := HB1.out.size; simp; omega)), fun b hb => by have := hb.1; have := HB1.out.size; simp at *; omega⟩
  obtain ⟨F, hF⟩ : ∃ F, F = btw ((w1.alloc (.cells #[.int .u8 1] 5)).alloc (.cells (fRow w1.heap.size) 52)).heap.size w2.heap.size := ⟨_, rfl⟩
  rw [← hF] at K0
  clear hd hb2 HFR hF
  go_wp2_with fail
  refine (is_ta w2).mono ?_
  rintro e w' ⟨rfl, rfl⟩
  go_wp2_with fail
  refine (is_a w2).mono ?_
  rintro e w' ⟨rfl, rfl⟩
  go_wp2_with fail
  refine (stale_any (Lib.hid K0.out.at_) HFN (by rw [F1.out]; decide)).mono ?_
  rintro e w3 ⟨A, n, c, rfl, hn, hnc, hcm, -, hb3⟩
  obtain rfl : n = 1 := hn.out.trans F1.out
  have K3 := Lib.hid (K0.out.far hb3)
  clear hb3 hn
  go_wp2_with fail
  refine (clean_any (Lib.hid K3.out.at_) HFN HSM (by decide)).mono ?_
  rintro e w4 hc
  obtain ⟨he, hk⟩ := K3.out.call hc
  rw [F2.out] at he
  subst he
  have K4 : Hid (Kd w w4 (grow F w3 w4) d Disk.tw1) := Lib.hid hk
  clear hc hk
  go_wp2_with fail
  have HFN1 : Hid (Disk.Fine Disk.tw1) := Lib.hid (Disk.fine_clean HFN.out)
  refine (stale_any (Lib.hid K4.out.at_) HFN1 (by rw [F3.out]; decide)).mono ?_
  rintro e w5 ⟨A5, n5, c5, rfl, hn5, hnc5, hcm5, -, hb5⟩
  obtain rfl : n5 = 0 := hn5.out.trans (by rw [F3.out]; rfl)
  have K5 := Lib.hid (K4.out.far hb5)
  clear hb5 hn5
  go_wp2_with fail
  refine (diskNames_any (Lib.hid K5.out.at_) HFN1).mono ?_
  rintro e w6 ⟨A6, n6, c6, rfl, hn6, hnc6, hcm6, ho6, hb6⟩
  rw [F4.out] at hn6 ho6
  obtain rfl : n6 = 1 := hn6.out
  obtain ⟨A7, c7, he7, hs7⟩ := ho6.slice
  simp only [Value.slice.injEq] at he7
  obtain ⟨rfl, -, rfl⟩ := he7
  have K6 := Lib.hid (K5.out.far hb6)
  have HS6 := Lib.hid hs7
  clear hb6 hn6 ho6 hs7
  go_wp2_with fail
  have HEQ : Hid (Calls Try.prog 29 #[.slice A6 1 c6, .slice (some ⟨w6.heap.size, 0, none⟩) 1 1] (w6.alloc (.cells #[.string ⟨#[121]⟩] 9)) fun e w' => e = .returned (.bool true) ∧ ∃ n, w' = (w6.alloc (.cells #[.string ⟨#[121]⟩] 9)).drewN n) := Lib.hid (by
    have h1 : SliceAt Rep.str (w6.alloc (.cells #[.string ⟨#[121]⟩] 9)) (fun b => b < w6.heap.size) A6 c6 [ba [121]] := HS6.out.keep (fun b hb => by
      rcases hb with ⟨-, h, -⟩ | h
      · exact h
      · exact h.elim) fun b hb => Below.heap_alloc w6 _ b (by
      rcases hb with ⟨-, h, -⟩ | h
      · exact h
      · exact h.elim)
    have h2 := str_one w6 (ba [121]) 9 (by decide)
    exact eqTexts A6 _ c6 1 [ba [121]] [ba [121]] _ _ _ h1 h2)
  refine HEQ.out.mono ?_
  rintro e w7 ⟨rfl, nq, rfl⟩
  have K7 : Hid (Kd w ((w6.alloc (.cells #[.string ⟨#[121]⟩] 9)).drewN nq) (grow F w3 w4) d Disk.tw1) := Lib.hid (K6.out.far ((Below.alloc (Below.refl _ _) (Nat.le_refl _) _).trans (below_dr _ _)))
  generalize (w6.alloc (.cells #[.string ⟨#[121]⟩] 9)).drewN nq = w8 at K7 ⊢
  have HD : Hid (Calls Try.prog 31 #[.pointer (some ⟨d, 0, none⟩)] w8 fun e w' => e = .returned (.int .i64 2) ∧ w8 = w') := Lib.hid ((done_any (Lib.hid K7.out.at_)).mono fun e w' h => ⟨by rw [h.1, F5.out], h.2⟩)
  go_wp2_with fail
  refine HD.out.mono ?_
  rintro e w9 ⟨rfl, rfl⟩
  go_wp2_with fail
  go_ret
  exact ⟨rfl, K7.out.below⟩
/-- TempsNames. -/
theorem long_str (n : Nat) (w : World) : Calls Try.prog 6 #[.int .i64 n] w fun e w' => e = .returned (.bool (decide (2147483647 < n))) ∧ w = w' := by
  by_cases h : 2147483647 < n
  · rw [decide_eq_true h]
    go_enter Try.func6, Try.ntmps6
    go_wp2_with fail
    go_ret
    exact ⟨retBo (decide_eq_true (by omega)), rfl⟩
  · rw [decide_eq_false h]
    go_enter Try.func6, Try.ntmps6
    go_wp2_with fail
    go_ret
    exact ⟨retBo (decide_eq_false (by omega)), rfl⟩
set_option maxRecDepth 100000 in
set_option maxHeartbeats 4000000 in
theorem tempsNames_law (s : ByteArray) (hs : s.size ≤ 9223372036854775807) : Calls Try.prog 3 #[.string s] w fun e w' => e = .returned (.bool true) ∧ Below w.heap.size w w' := by
  by_cases hl : 2147483647 < s.size
  · have HL := Lib.hid (long_str s.size w)
    rw [decide_eq_true hl] at HL
    go_enter Try.func3, Try.ntmps3
    go_wp2_with fail
    refine HL.out.mono ?_
    rintro e w' ⟨rfl, rfl⟩
    go_wp2_with fail
    go_ret
    exact ⟨rfl, Below.refl _ _⟩
  · have HL := Lib.hid (long_str s.size w)
    rw [decide_eq_false hl] at HL
    have HN1 := Lib.hid (tname_any s w)
    have HN2 := Lib.hid fun W => tname_ref s W (by omega)
    have HI1 := Lib.hid fun W => is_any s W
    have HI2 := Lib.hid fun W => is_ref s W
    unfold NameAns at HN1 HN2
    obtain ⟨t, ht⟩ : ∃ t, t = baT (Disk.tmpOf s.data.toList) := ⟨_, rfl⟩
    obtain ⟨q, hq⟩ : ∃ q, q = Disk.hasTmp s.data.toList := ⟨_, rfl⟩
    obtain ⟨i, hi⟩ : ∃ q, q = Disk.isTmp s.data.toList := ⟨_, rfl⟩
    rw [← ht, ← hq] at HN1
    simp only [← ht, ← hq, ← hi] at HN2 HI1 HI2
    clear ht hq hi
    go_enter Try.func3, Try.ntmps3
    go_wp2_with fail
    refine HL.out.mono ?_
    rintro e w' ⟨rfl, rfl⟩
    go_wp2_with fail
    refine HN1.out.mono ?_
    rintro e w1 ⟨rfl, hb1⟩
    have HB1 := Lib.hid hb1
    clear hb1
    go_wp2_with fail
    refine (HN2.out w1).mono ?_
    rintro e w2 ⟨rfl, hb2⟩
    have HB2 := Lib.hid (HB1.out.trans (hb2.mono HB1.out.size))
    clear hb2
    go_wp2_with fail
    refine (HI1.out w2).mono ?_
    rintro e w' ⟨rfl, rfl⟩
    go_wp2_with fail
    refine (HI2.out w2).mono ?_
    rintro e w' ⟨rfl, rfl⟩
    go_wp2_with fail
    refine tworks_any.mono ?_
    rintro e w4 ⟨rfl, hb4⟩
    have HB4 := Lib.hid (HB2.out.trans (hb4.mono HB2.out.size))
    clear hb4
    go_wp2_with fail
    go_ret
    exact ⟨rfl, HB4.out⟩
end
end Go.Proofs.Ytncpeogkccjmcaa
