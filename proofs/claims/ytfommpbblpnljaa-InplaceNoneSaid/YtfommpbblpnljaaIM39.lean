/- Texts that lead to the claim, one behind the other: The walks of inplace.first over Edit's four calls, and of the calls themselves. No conditions. -/
import Derived.Test.YtfommpbblpnljaaIM36
import Derived.Test.YtfommpbblpnljaaIM37
import Derived.Test.YtfommpbblpnljaaIM38
import Derived.Deep.LoopGhost
namespace Go.Proofs.Ytfommpbblpnljaa
open Go.RowKit Go.ChangeShapes Go.WideShapes Go.Deep

def f0V (b2 b7 b11 : Nat) : Value := .func (.func 34) #[] #[.pointer (some ⟨b2, 0, none⟩), .pointer (some ⟨b7, 0, none⟩), .pointer (some ⟨b11, 0, none⟩)]
def f1V (o : Nat) : Value := .func (.func 35) #[.pointer (some ⟨o, 0, none⟩)] #[]
def f2V (dB tB : Nat) : Value := .func (.func 36) #[] #[.pointer (some ⟨dB, 0, none⟩), .pointer (some ⟨tB, 0, none⟩)]
def f3V (dB tB nB : Nat) : Value := .func (.func 38) #[] #[.pointer (some ⟨dB, 0, none⟩), .pointer (some ⟨tB, 0, none⟩), .pointer (some ⟨nB, 0, none⟩)]
/-- A step: its answer, and what holds behind it. -/
def Step (I : World → Prop) (R : Int → World → Prop) (e : Ending) (w' : World) : Prop := ∃ q, e = .returned (.int .i64 q) ∧ (q = 0 → I w') ∧ (q ≠ 0 → R q w')
set_option maxRecDepth 100000 in
set_option maxHeartbeats 1000000 in
theorem first_any (g b2 b7 b11 o dB tB nB : Nat) (w : World) (I : Nat → World → Prop) (R : Int → World → Prop) (h0 : I 0 w)
    (hc : Hid (∀ i W, I i W → W.heap[g]? = some (.cells #[f0V b2 b7 b11, f1V o, f2V dB tB, f3V dB tB nB] 77 (0, 0))))
    (k0 : Hid (∀ W, I 0 W → Calls Try.prog 34 #[.pointer (some ⟨b2, 0, none⟩), .pointer (some ⟨b7, 0, none⟩), .pointer (some ⟨b11, 0, none⟩)] W (Step (I 1) R)))
    (k1 : Hid (∀ W, I 1 W → Calls Try.prog 35 #[.pointer (some ⟨o, 0, none⟩)] W (Step (I 2) R)))
    (k2 : Hid (∀ W, I 2 W → Calls Try.prog 36 #[.pointer (some ⟨dB, 0, none⟩), .pointer (some ⟨tB, 0, none⟩)] W (Step (I 3) R)))
    (k3 : Hid (∀ W, I 3 W → Calls Try.prog 38 #[.pointer (some ⟨dB, 0, none⟩), .pointer (some ⟨tB, 0, none⟩), .pointer (some ⟨nB, 0, none⟩)] W (Step (I 4) R)))
    (k4 : Hid (∀ W, I 4 W → R 0 W)) :
    Calls Try.prog 33 #[.slice (some ⟨g, 0, none⟩) 4 4] w fun e w' => ∃ q, e = .returned (.int .i64 q) ∧ R q w' := by
  have hH := Lib.hid h0
  clear h0
  go_enter Try.func33, Try.ntmps33
  go_wp2_with fail
  go_loopg [8] 4 (fun k iv wr => ∃ (i : Nat), i ≤ 4 ∧ iv = .int .i64 i ∧ k = 4 - i ∧ Hid (I i wr))
  case atStart => exact ⟨0, Nat.zero_le _, rfl, rfl, hH⟩
  case round =>
    obtain ⟨i, hi, rfl, rfl, HI⟩ := hrel
    rcases Nat.lt_or_ge i 4 with hlt | hge
    · have hcc := hc.out i wr HI.out
      match i, hlt with
      | 0, _ =>
        have c0 : wr.cell? ⟨g, 0, none⟩ = some (f0V b2 b7 b11) := (cell_of_row wr g 0 _ _ (0, 0) hcc).trans rfl
        unfold f0V at c0
        have K := Lib.hid (k0.out wr HI.out)
        clear hcc
        go_wp2_with fail
        refine K.out.mono ?_
        rintro e w1 ⟨q, rfl, hq1, hq2⟩
        have HQ1 := Lib.hid hq1
        have HQ2 := Lib.hid hq2
        clear hq1 hq2 K c0
        by_cases hq : q = 0
        · have hqb : (q != 0) = false := by rw [hq]; rfl
          go_wp2_with fail
          go_roundg 3
          · exact ⟨1, by omega, by first | rfl | go_num, rfl, Lib.hid (HQ1.out hq)⟩
          · omega
        · have hqb : (q != 0) = true := bne_iff_ne.2 hq
          go_wp2_with fail
          go_ret
          exact ⟨_, rfl, HQ2.out hq⟩
      | 1, _ =>
        have c0 : wr.cell? ⟨g, 1, none⟩ = some (f1V o) := (cell_of_row wr g 1 _ _ (0, 0) hcc).trans rfl
        unfold f1V at c0
        have K := Lib.hid (k1.out wr HI.out)
        clear hcc
        go_wp2_with fail
        refine K.out.mono ?_
        rintro e w1 ⟨q, rfl, hq1, hq2⟩
        have HQ1 := Lib.hid hq1
        have HQ2 := Lib.hid hq2
        clear hq1 hq2 K c0
        by_cases hq : q = 0
        · have hqb : (q != 0) = false := by rw [hq]; rfl
          go_wp2_with fail
          go_roundg 2
          · exact ⟨2, by omega, by first | rfl | go_num, rfl, Lib.hid (HQ1.out hq)⟩
          · omega
        · have hqb : (q != 0) = true := bne_iff_ne.2 hq
          go_wp2_with fail
          go_ret
          exact ⟨_, rfl, HQ2.out hq⟩
      | 2, _ =>
        have c0 : wr.cell? ⟨g, 2, none⟩ = some (f2V dB tB) := (cell_of_row wr g 2 _ _ (0, 0) hcc).trans rfl
        unfold f2V at c0
        have K := Lib.hid (k2.out wr HI.out)
        clear hcc
        go_wp2_with fail
        refine K.out.mono ?_
        rintro e w1 ⟨q, rfl, hq1, hq2⟩
        have HQ1 := Lib.hid hq1
        have HQ2 := Lib.hid hq2
        clear hq1 hq2 K c0
        by_cases hq : q = 0
        · have hqb : (q != 0) = false := by rw [hq]; rfl
          go_wp2_with fail
          go_roundg 1
          · exact ⟨3, by omega, by first | rfl | go_num, rfl, Lib.hid (HQ1.out hq)⟩
          · omega
        · have hqb : (q != 0) = true := bne_iff_ne.2 hq
          go_wp2_with fail
          go_ret
          exact ⟨_, rfl, HQ2.out hq⟩
      | 3, _ =>
        have c0 : wr.cell? ⟨g, 3, none⟩ = some (f3V dB tB nB) := (cell_of_row wr g 3 _ _ (0, 0) hcc).trans rfl
        unfold f3V at c0
        have K := Lib.hid (k3.out wr HI.out)
        clear hcc
        go_wp2_with fail
        refine K.out.mono ?_
        rintro e w1 ⟨q, rfl, hq1, hq2⟩
        have HQ1 := Lib.hid hq1
        have HQ2 := Lib.hid hq2
        clear hq1 hq2 K c0
        by_cases hq : q = 0
        · have hqb : (q != 0) = false := by rw [hq]; rfl
          go_wp2_with fail
          go_roundg 0
          · exact ⟨4, by omega, by first | rfl | go_num, rfl, Lib.hid (HQ1.out hq)⟩
          · omega
        · have hqb : (q != 0) = true := bne_iff_ne.2 hq
          go_wp2_with fail
          go_ret
          exact ⟨_, rfl, HQ2.out hq⟩
    · obtain rfl : i = 4 := by omega
      go_wp2_with fail
      go_ret
      exact ⟨_, rfl, k4.out _ HI.out⟩
end Go.Proofs.Ytfommpbblpnljaa
