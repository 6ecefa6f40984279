/- The walk of the law LongestBoth. Conditions: room. -/
import Derived.Test.YtfbaaccnnogajaaProg
import Derived.Test.YtfbaaccnnogajaaLS2
import Derived.Test.YtfbaaccnnogajaaPlaced
namespace Go.Proofs.Ytfbaaccnnogajaa
open Go.RowKit

section
variable (A B C : Option Addr) (na ca nb cb nt ct : Nat) (at_ : Int) (Ma Mb : List Instr) (text : List UInt8) (w : World)
set_option maxRecDepth 100000 in
set_option maxHeartbeats 1000000 in
theorem longestBoth_1 (ha : na ≤ 4611686018427387903) (hb : nb ≤ 4611686018427387903) (h : 2147483647 < na + nb ∨ 2147483647 < nt) : Calls Try.prog 6 #[.agg #[.slice A na ca, .slice B nb cb, .slice C nt ct, .int .i64 at_]] w fun e w' => e = .returned (.bool true) ∧ Below w.heap.size w w' := by
  by_cases h1 : 2147483647 < na + nb
  · have hl := fun W => long_yes (na + nb) W h1
    rw [show ((na + nb : Nat) : Int) = (na : Int) + nb by omega] at hl
    have HL := Lib.hid hl
    clear h hl
    go_enter Try.func6, Try.ntmps6
    go_wp2_with fail
    refine (HL.out _).mono ?_
    rintro e w' ⟨rfl, rfl⟩
    go_wp2_with fail
    go_ret
    exact ⟨rfl, (Below.refl _ _).alloc (Nat.le_refl _) _⟩
  · have h2 : 2147483647 < nt := by omega
    have hl := fun W => long_no (na + nb) W (by omega)
    rw [show ((na + nb : Nat) : Int) = (na : Int) + nb by omega] at hl
    have HL := Lib.hid hl
    clear h h1 hl
    go_enter Try.func6, Try.ntmps6
    go_wp2_with fail
    refine (HL.out _).mono ?_
    rintro e w' ⟨rfl, rfl⟩
    go_wp2_with fail
    refine (long_yes _ _ h2).mono ?_
    rintro e w' ⟨rfl, rfl⟩
    go_wp2_with fail
    go_ret
    exact ⟨rfl, (Below.refl _ _).alloc (Nat.le_refl _) _⟩
variable (h1 : na + nb ≤ 2147483647) (h2 : nt ≤ 2147483647)
include h1 h2
set_option maxRecDepth 100000 in
set_option maxHeartbeats 1000000 in
theorem longestBoth_2 (hv : Heavy (na + nb + 1) nt) : Calls Try.prog 6 #[.agg #[.slice A na ca, .slice B nb cb, .slice C nt ct, .int .i64 at_]] w fun e w' => e = .returned (.bool true) ∧ Below w.heap.size w w' := by
  have hl := fun W => long_no (na + nb) W h1
  rw [show ((na + nb : Nat) : Int) = (na : Int) + nb by omega] at hl
  have hh := fun W => heavy_yes (na + nb + 1) nt W h2 hv
  rw [show ((na + nb + 1 : Nat) : Int) = (na : Int) + nb + 1 by omega] at hh
  have HL := Lib.hid hl
  have HH := Lib.hid hh
  clear hv hl hh
  go_enter Try.func6, Try.ntmps6
  go_wp2_with fail
  refine (HL.out _).mono ?_
  rintro e w' ⟨rfl, rfl⟩
  go_wp2_with fail
  refine (long_no _ _ h2).mono ?_
  rintro e w' ⟨rfl, rfl⟩
  go_wp2_with fail
  refine (HH.out _).mono ?_
  rintro e w' ⟨rfl, rfl⟩
  go_wp2_with fail
  refine (works_any _).mono ?_
  rintro e w' ⟨rfl, hb⟩
  go_wp2_with fail
  go_ret
  exact ⟨rfl, ((Below.refl _ _).alloc (Nat.le_refl _) _).trans (hb.mono (by simp))⟩
variable (hv : Hid (¬ Heavy (na + nb + 1) nt)) (hna : Hid (na = Ma.length)) (hnb : Hid (nb = Mb.length)) (ha : Hid (SliceAt Rep.instr w (under w.heap.size) A ca Ma)) (hb : Hid (SliceAt Rep.instr w (under w.heap.size) B cb Mb))
include hv hna hnb ha hb
set_option maxRecDepth 100000 in
set_option maxHeartbeats 4000000 in
theorem longestBoth_3a (HMA : Hid (¬ MShaped Ma)) (HMB : Hid (¬ MShaped Mb)) : Calls Try.prog 6 #[.agg #[.slice A na ca, .slice B nb cb, .slice C nt ct, .int .i64 at_]] w fun e w' => e = .returned (.bool true) ∧ Below w.heap.size w w' := by
  have hl := fun W => long_no (na + nb) W h1
  rw [show ((na + nb : Nat) : Int) = (na : Int) + nb by omega] at hl
  have hh := fun W => heavy_no (na + nb + 1) nt W h2 hv.out
  rw [show ((na + nb + 1 : Nat) : Int) = (na : Int) + nb + 1 by omega] at hh
  have HL := Lib.hid hl
  have HH := Lib.hid hh
  have HB0 : Hid (∀ o, Below w.heap.size w (w.alloc o)) := Lib.hid fun o => (Below.refl _ _).alloc (Nat.le_refl _) o
  have HA0 : Hid (∀ o, SliceAt Rep.instr (w.alloc o) (under w.heap.size) A ca Ma) := Lib.hid fun o => ha.out.keep (fun _ h => h) (Same.of_below (HB0.out o) (fun _ h => h))
  clear hl hh
  go_enter Try.func6, Try.ntmps6
  go_wp2_with fail
  refine (HL.out _).mono ?_
  rintro e w' ⟨rfl, rfl⟩
  go_wp2_with fail
  refine (long_no _ _ h2).mono ?_
  rintro e w' ⟨rfl, rfl⟩
  go_wp2_with fail
  refine (HH.out _).mono ?_
  rintro e w' ⟨rfl, rfl⟩
  go_wp2_with fail
  refine (copyInstrs' A na ca Ma _ _ hna.out (HA0.out _) (by omega)).mono ?_
  rintro e w1 ⟨A1, c1, rfl, -, -, HN1⟩
  go_wp2_with fail
  refine (HN1.out HMA.out).mono ?_
  rintro e w2 ⟨rfl, hb2⟩
  have HB2 := Lib.hid ((HB0.out _).trans (hb2.mono (by simp)))
  clear hb2
  have HBT := Lib.hid (hb.out.keep (fun _ h => h) (Same.of_below HB2.out (fun _ h => h)))
  go_wp2_with fail
  refine (copyInstrs' B nb cb Mb w2 _ hnb.out HBT.out (by omega)).mono ?_
  rintro e w3 ⟨A3, c3, rfl, -, -, HN3⟩
  go_wp2_with fail
  refine (HN3.out HMB.out).mono ?_
  rintro e w4 ⟨rfl, hb4⟩
  have HB4 := Lib.hid (HB2.out.trans (hb4.mono HB2.out.size))
  clear hb4
  go_wp2_with fail
  refine (works_any _).mono ?_
  rintro e w' ⟨rfl, hb7⟩
  have HB7 := Lib.hid hb7
  clear hb7
  go_wp2_with fail
  go_ret
  exact ⟨rfl, HB4.out.trans (HB7.out.mono HB4.out.size)⟩
set_option maxRecDepth 100000 in
set_option maxHeartbeats 4000000 in
theorem longestBoth_3b (HMA : Hid (¬ MShaped Ma)) (HMB : Hid (MShaped Mb)) : Calls Try.prog 6 #[.agg #[.slice A na ca, .slice B nb cb, .slice C nt ct, .int .i64 at_]] w fun e w' => e = .returned (.bool true) ∧ Below w.heap.size w w' := by
  have hl := fun W => long_no (na + nb) W h1
  rw [show ((na + nb : Nat) : Int) = (na : Int) + nb by omega] at hl
  have hh := fun W => heavy_no (na + nb + 1) nt W h2 hv.out
  rw [show ((na + nb + 1 : Nat) : Int) = (na : Int) + nb + 1 by omega] at hh
  have HL := Lib.hid hl
  have HH := Lib.hid hh
  have HB0 : Hid (∀ o, Below w.heap.size w (w.alloc o)) := Lib.hid fun o => (Below.refl _ _).alloc (Nat.le_refl _) o
  have HA0 : Hid (∀ o, SliceAt Rep.instr (w.alloc o) (under w.heap.size) A ca Ma) := Lib.hid fun o => ha.out.keep (fun _ h => h) (Same.of_below (HB0.out o) (fun _ h => h))
  clear hl hh
  go_enter Try.func6, Try.ntmps6
  go_wp2_with fail
  refine (HL.out _).mono ?_
  rintro e w' ⟨rfl, rfl⟩
  go_wp2_with fail
  refine (long_no _ _ h2).mono ?_
  rintro e w' ⟨rfl, rfl⟩
  go_wp2_with fail
  refine (HH.out _).mono ?_
  rintro e w' ⟨rfl, rfl⟩
  go_wp2_with fail
  refine (copyInstrs' A na ca Ma _ _ hna.out (HA0.out _) (by omega)).mono ?_
  rintro e w1 ⟨A1, c1, rfl, -, -, HN1⟩
  go_wp2_with fail
  refine (HN1.out HMA.out).mono ?_
  rintro e w2 ⟨rfl, hb2⟩
  have HB2 := Lib.hid ((HB0.out _).trans (hb2.mono (by simp)))
  clear hb2
  have HBT := Lib.hid (hb.out.keep (fun _ h => h) (Same.of_below HB2.out (fun _ h => h)))
  go_wp2_with fail
  refine (copyInstrs' B nb cb Mb w2 _ hnb.out HBT.out (by omega)).mono ?_
  rintro e w3 ⟨A3, c3, rfl, -, HN3, -⟩
  go_wp2_with fail
  refine (HN3.out HMB.out).mono ?_
  rintro e w4 ⟨gt, Ft, rfl, hlt⟩
  have HLT := Lib.hid (hlt.up HB2.out)
  have HB4 := Lib.hid HLT.out.b
  clear hlt
  go_wp2_with fail
  refine (works_any _).mono ?_
  rintro e w' ⟨rfl, hb7⟩
  have HB7 := Lib.hid hb7
  clear hb7
  go_wp2_with fail
  go_ret
  exact ⟨rfl, HB4.out.trans (HB7.out.mono HB4.out.size)⟩
set_option maxRecDepth 100000 in
set_option maxHeartbeats 4000000 in
theorem longestBoth_3c (HMA : Hid (MShaped Ma)) (HMB : Hid (¬ MShaped Mb)) : Calls Try.prog 6 #[.agg #[.slice A na ca, .slice B nb cb, .slice C nt ct, .int .i64 at_]] w fun e w' => e = .returned (.bool true) ∧ Below w.heap.size w w' := by
  have hl := fun W => long_no (na + nb) W h1
  rw [show ((na + nb : Nat) : Int) = (na : Int) + nb by omega] at hl
  have hh := fun W => heavy_no (na + nb + 1) nt W h2 hv.out
  rw [show ((na + nb + 1 : Nat) : Int) = (na : Int) + nb + 1 by omega] at hh
  have HL := Lib.hid hl
  have HH := Lib.hid hh
  have HB0 : Hid (∀ o, Below w.heap.size w (w.alloc o)) := Lib.hid fun o => (Below.refl _ _).alloc (Nat.le_refl _) o
  have HA0 : Hid (∀ o, SliceAt Rep.instr (w.alloc o) (under w.heap.size) A ca Ma) := Lib.hid fun o => ha.out.keep (fun _ h => h) (Same.of_below (HB0.out o) (fun _ h => h))
  clear hl hh
  go_enter Try.func6, Try.ntmps6
  go_wp2_with fail
  refine (HL.out _).mono ?_
  rintro e w' ⟨rfl, rfl⟩
  go_wp2_with fail
  refine (long_no _ _ h2).mono ?_
  rintro e w' ⟨rfl, rfl⟩
  go_wp2_with fail
  refine (HH.out _).mono ?_
  rintro e w' ⟨rfl, rfl⟩
  go_wp2_with fail
  refine (copyInstrs' A na ca Ma _ _ hna.out (HA0.out _) (by omega)).mono ?_
  rintro e w1 ⟨A1, c1, rfl, -, HN1, -⟩
  go_wp2_with fail
  refine (HN1.out HMA.out).mono ?_
  rintro e w2 ⟨gs, Fs, rfl, hls⟩
  have HLS := Lib.hid (hls.up (HB0.out _))
  have HB2 := Lib.hid HLS.out.b
  clear hls
  have HBT := Lib.hid (hb.out.keep (fun _ h => h) (Same.of_below HB2.out (fun _ h => h)))
  go_wp2_with fail
  refine (copyInstrs' B nb cb Mb w2 _ hnb.out HBT.out (by omega)).mono ?_
  rintro e w3 ⟨A3, c3, rfl, -, -, HN3⟩
  go_wp2_with fail
  refine (HN3.out HMB.out).mono ?_
  rintro e w4 ⟨rfl, hb4⟩
  have HB4 := Lib.hid (HB2.out.trans (hb4.mono HB2.out.size))
  clear hb4
  go_wp2_with fail
  refine (works_any _).mono ?_
  rintro e w' ⟨rfl, hb7⟩
  have HB7 := Lib.hid hb7
  clear hb7
  go_wp2_with fail
  go_ret
  exact ⟨rfl, HB4.out.trans (HB7.out.mono HB4.out.size)⟩
set_option maxRecDepth 100000 in
set_option maxHeartbeats 4000000 in
theorem longestBoth_3d (HMA : Hid (MShaped Ma)) (HMB : Hid (MShaped Mb)) (h3 : 65536 < na + nb) : Calls Try.prog 6 #[.agg #[.slice A na ca, .slice B nb cb, .slice C nt ct, .int .i64 at_]] w fun e w' => e = .returned (.bool true) ∧ Below w.heap.size w w' := by
  have hl := fun W => long_no (na + nb) W h1
  rw [show ((na + nb : Nat) : Int) = (na : Int) + nb by omega] at hl
  have hh := fun W => heavy_no (na + nb + 1) nt W h2 hv.out
  rw [show ((na + nb + 1 : Nat) : Int) = (na : Int) + nb + 1 by omega] at hh
  have HL := Lib.hid hl
  have HH := Lib.hid hh
  have HB0 : Hid (∀ o, Below w.heap.size w (w.alloc o)) := Lib.hid fun o => (Below.refl _ _).alloc (Nat.le_refl _) o
  have HA0 : Hid (∀ o, SliceAt Rep.instr (w.alloc o) (under w.heap.size) A ca Ma) := Lib.hid fun o => ha.out.keep (fun _ h => h) (Same.of_below (HB0.out o) (fun _ h => h))
  clear hl hh
  have h4 : decide ((65536 : Int) < (na : Int) + nb) = true := decide_eq_true (by omega)
  go_enter Try.func6, Try.ntmps6
  go_wp2_with fail
  refine (HL.out _).mono ?_
  rintro e w' ⟨rfl, rfl⟩
  go_wp2_with fail
  refine (long_no _ _ h2).mono ?_
  rintro e w' ⟨rfl, rfl⟩
  go_wp2_with fail
  refine (HH.out _).mono ?_
  rintro e w' ⟨rfl, rfl⟩
  go_wp2_with fail
  refine (copyInstrs' A na ca Ma _ _ hna.out (HA0.out _) (by omega)).mono ?_
  rintro e w1 ⟨A1, c1, rfl, -, HN1, -⟩
  go_wp2_with fail
  refine (HN1.out HMA.out).mono ?_
  rintro e w2 ⟨gs, Fs, rfl, hls⟩
  have HLS := Lib.hid (hls.up (HB0.out _))
  have HB2 := Lib.hid HLS.out.b
  clear hls
  have HBT := Lib.hid (hb.out.keep (fun _ h => h) (Same.of_below HB2.out (fun _ h => h)))
  go_wp2_with fail
  refine (copyInstrs' B nb cb Mb w2 _ hnb.out HBT.out (by omega)).mono ?_
  rintro e w3 ⟨A3, c3, rfl, -, HN3, -⟩
  go_wp2_with fail
  refine (HN3.out HMB.out).mono ?_
  rintro e w4 ⟨gt, Ft, rfl, hlt⟩
  have HLT := Lib.hid (hlt.up HB2.out)
  have HB4 := Lib.hid HLT.out.b
  clear hlt
  go_wp2_with fail
  refine (works_any _).mono ?_
  rintro e w' ⟨rfl, hb7⟩
  have HB7 := Lib.hid hb7
  clear hb7
  go_wp2_with fail
  go_ret
  exact ⟨rfl, HB4.out.trans (HB7.out.mono HB4.out.size)⟩
end
end Go.Proofs.Ytfbaaccnnogajaa
