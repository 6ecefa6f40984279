/- Texts that lead to the claim, one behind the other: May a file stand under a name: the walk of disk.isName, of strings.ContainsAny at "\x00\n/" and any bytes. Condition: none. -/
import Derived.Test.YtncpeogkccjmcaaGreatDoorTK10
import Derived.Test.YtncpeogkccjmcaaGreatDoorTK1
import Derived.Test.YtncpeogkccjmcaaGreatDoorTK2
import Derived.Test.YtncpeogkccjmcaaGreatDoorShelf
import Derived.Test.YtncpeogkccjmcaaGreatDoorProg
import Derived.WalkKit
import Derived.WalkSpells
import Derived.WalkMore
import Derived.Deep.QuietTactic
import Derived.BigQuiet
import Derived.Deep.LoopGhost
import Derived.Deep.CutBlock
import Derived.Lib.OthersKept
import Derived.Lib.IndexAny
namespace Go.Proofs.YtncpeogkccjmcaaGreatDoor
open Go.RowKit Go.Deep

theorem retIn {k : IntKind} {a b : Int} (h : a = b) : Ending.returned (.int k a) = Ending.returned (.int k b) := by rw [h]
theorem retBo {a b : Bool} (h : a = b) : Ending.returned (.bool a) = Ending.returned (.bool b) := by rw [h]
def badB : ByteArray := ⟨#[0, 10, 47]⟩
theorem run_rune_high (r : Nat) (y : ByteArray) (hy : Utf8.encode r = y) (W : World) : (convert 21 9 (.int .i32 r)).run Tryz.prog W = .ok (.string y) W := by
  rw [← hy]
  simp [convert, run_underlying Tryz.underlying21, run_underlying Tryz.underlying9, Conv.intToString]
theorem idx_none (b : UInt8) (h : 128 ≤ b.toNat) : Lib.indexByte [47] b = -1 ∧ Lib.indexByte [10, 47] b = -1 ∧ Lib.indexByte ([] : List UInt8) b = -1 := by
  have h1 : (47 : UInt8) ≠ b := by rintro rfl; simp at h
  have h2 : (10 : UInt8) ≠ b := by rintro rfl; simp at h
  simp [Lib.indexByte, h1, h2]
theorem ch_facts {ch : ByteArray} (hch : ch = ⟨#[0, 10, 47]⟩) : ch.size = 3 ∧ (∀ h : 0 < ch.size, ch[0]'h = 0) ∧ (∀ h : 1 < ch.size, ch[1]'h = 10) ∧ (∀ h : 2 < ch.size, ch[2]'h = 47) ∧ (ch.extract 2 3).data.toList = [47] ∧ (ch.extract 3 3).data.toList = [] ∧ ch.data.toList = [0, 10, 47] := by
  subst hch
  exact ⟨rfl, fun _ => rfl, fun _ => rfl, fun _ => rfl, rfl, rfl, rfl⟩
theorem below_dr {B : Nat} (w : World) (m : Nat) : Below B w (w.drewN m) := ⟨rfl, rfl, rfl, Nat.le_refl _, fun _ _ => rfl⟩
section
variable (r : Nat) (w : World) (h1 : 128 ≤ r) (h2 : r ≤ 1114111) (h3 : Hid (¬ (55296 ≤ r ∧ r < 57344))) (ch : ByteArray) (hch : Hid (ch = ⟨#[0, 10, 47]⟩))
include h1 h2 h3 hch
set_option maxRecDepth 100000 in
set_option maxHeartbeats 4000000 in
theorem indexRune_2 (y : ByteArray) (b : UInt8) (hy : Hid (Utf8.encode r = y)) (hys : y.size = 2) (hyb : ∀ h : 1 < y.size, y[1]'h = b) (hb : Hid (128 ≤ b.toNat)) (hne : r ≠ 65533) :
    Calls Tryz.prog 108 #[.string ch, .int .i32 r] w fun e w' => e = .returned (.int .i64 (-1)) ∧ Below w.heap.size w w' := by
  have hcv := fun W => run_rune_high r _ hy.out W
  have hv : Lib.validRune (r : Int) = true := by have := h3.out; simp [Lib.validRune]; omega
  have hb' := hb.out
  have hne' : ((r : Int) == 65533) = false := beq_eq_false_iff_ne.2 (by omega)
  have hi128 : decide ((r : Int) < 128) = false := decide_eq_false (by omega)
  have HV := Lib.hid hv
  obtain ⟨hc3, -, hc1, -, hx2, -, -⟩ := ch_facts hch.out
  clear hv hne
  go_enter Tryz.func108, Tryz.ntmps108
  go_wp2_with (go_at_call 116; refine (Tryz.utf8_ValidRune _ _).mono ?_; rintro e w' ⟨rfl, hw⟩; rw [hw, HV.out])
  go_step3
  go_wp2_with fail
  have q1 : ((10 : Int) != (b.toNat : Int)) = true := by rw [bne_iff_ne]; omega
  have q3 : (b.toNat : Int).toNat.toUInt8 = b := by simp
  have q4 : Lib.indexByte [47] b = -1 := (idx_none b hb').1
  have kI : ∀ W, Calls Tryz.prog 115 #[.string (ch.extract 2 3), .int .u8 b.toNat] W fun e w' => e = .returned (.int .i64 (-1)) ∧ w' = W := fun W => (Tryz.strings_IndexByte _ _ _).mono fun e w' h => ⟨by rw [h.1, hx2, q3, q4], h.2⟩
  clear q3 q4 hx2
  have q5 : IntKind.i64.wrap (2 : Int) = 2 := by decide
  go_loopg [9] 1 (fun k i wr => i = .int .i64 1 ∧ Hid (wr = w))
  case atStart => exact ⟨rfl, Lib.hid rfl⟩
  case round =>
    obtain ⟨rfl, HW⟩ := hrel
    go_wp2_with fail
    go_step3
    go_wp2_with fail
    go_quiet (fail)
    generalize hW : wr.drewN _ = W
    have HWW := Lib.hid hW
    clear hW
    go_wp2_with fail
    go_quiet ((go_at_call 115; exact Calls.quiet_of_same (kI _)))
    generalize hW2 : W.drewN _ = W2
    have HWW2 := Lib.hid hW2
    clear hW2
    go_wp2_with fail
    rw [Exit.noGoto_ret]
    go_wp2_with fail
    try rw [Exit.noGoto_ret]
    go_ret
    exact ⟨rfl, by rw [← HWW2.out, ← HWW.out, HW.out]; exact (below_dr _ _).trans (below_dr _ _)⟩
set_option maxRecDepth 100000 in
set_option maxHeartbeats 4000000 in
theorem indexRune_3 (y : ByteArray) (b : UInt8) (hy : Hid (Utf8.encode r = y)) (hys : y.size = 3) (hyb : ∀ h : 2 < y.size, y[2]'h = b) (hb : Hid (128 ≤ b.toNat)) (hne : r ≠ 65533) :
    Calls Tryz.prog 108 #[.string ch, .int .i32 r] w fun e w' => e = .returned (.int .i64 (-1)) ∧ Below w.heap.size w w' := by
  have hcv := fun W => run_rune_high r _ hy.out W
  have hv : Lib.validRune (r : Int) = true := by have := h3.out; simp [Lib.validRune]; omega
  have hb' := hb.out
  have hne' : ((r : Int) == 65533) = false := beq_eq_false_iff_ne.2 (by omega)
  have hi128 : decide ((r : Int) < 128) = false := decide_eq_false (by omega)
  have HV := Lib.hid hv
  obtain ⟨hc3, -, -, hc1, -, -, -⟩ := ch_facts hch.out
  clear hv hne
  go_enter Tryz.func108, Tryz.ntmps108
  go_wp2_with (go_at_call 116; refine (Tryz.utf8_ValidRune _ _).mono ?_; rintro e w' ⟨rfl, hw⟩; rw [hw, HV.out])
  go_step3
  go_wp2_with fail
  have q1 : ((47 : Int) != (b.toNat : Int)) = true := by rw [bne_iff_ne]; omega
  have q3 : (b.toNat : Int).toNat.toUInt8 = b := by simp
  have q4 : Lib.indexByte [] b = -1 := (idx_none b hb').2.2
  have kI : ∀ W, Calls Tryz.prog 115 #[.string ByteArray.empty, .int .u8 b.toNat] W fun e w' => e = .returned (.int .i64 (-1)) ∧ w' = W := fun W => (Tryz.strings_IndexByte _ _ _).mono fun e w' h => ⟨by rw [h.1, show ByteArray.empty.data.toList = [] from rfl, q3, q4], h.2⟩
  clear q3 q4
  have q5 : IntKind.i64.wrap (3 : Int) = 3 := by decide
  go_loopg [9] 1 (fun k i wr => i = .int .i64 2 ∧ Hid (wr = w))
  case atStart => exact ⟨rfl, Lib.hid rfl⟩
  case round =>
    obtain ⟨rfl, HW⟩ := hrel
    go_wp2_with fail
    go_step3
    go_wp2_with fail
    go_quiet (fail)
    generalize hW : wr.drewN _ = W
    have HWW := Lib.hid hW
    clear hW
    go_wp2_with fail
    go_quiet ((go_at_call 115; exact Calls.quiet_of_same (kI _)))
    generalize hW2 : W.drewN _ = W2
    have HWW2 := Lib.hid hW2
    clear hW2
    go_wp2_with fail
    rw [Exit.noGoto_ret]
    go_wp2_with fail
    try rw [Exit.noGoto_ret]
    go_ret
    exact ⟨rfl, by rw [← HWW2.out, ← HWW.out, HW.out]; exact (below_dr _ _).trans (below_dr _ _)⟩
set_option maxRecDepth 100000 in
set_option maxHeartbeats 4000000 in
theorem indexRune_4 (y : ByteArray) (hy : Hid (Utf8.encode r = y)) (hys : y.size = 4) (hne : r ≠ 65533) :
    Calls Tryz.prog 108 #[.string ch, .int .i32 r] w fun e w' => e = .returned (.int .i64 (-1)) ∧ Below w.heap.size w w' := by
  have hcv := fun W => run_rune_high r _ hy.out W
  have hv : Lib.validRune (r : Int) = true := by have := h3.out; simp [Lib.validRune]; omega
  have hne' : ((r : Int) == 65533) = false := beq_eq_false_iff_ne.2 (by omega)
  have hi128 : decide ((r : Int) < 128) = false := decide_eq_false (by omega)
  have HV := Lib.hid hv
  obtain ⟨hc3, -, -, -, -, -, -⟩ := ch_facts hch.out
  clear hv hne
  go_enter Tryz.func108, Tryz.ntmps108
  go_wp2_with (go_at_call 116; refine (Tryz.utf8_ValidRune _ _).mono ?_; rintro e w' ⟨rfl, hw⟩; rw [hw, HV.out])
  go_step3
  go_wp2_with fail
  go_loopg [9] 1 (fun k i wr => i = .int .i64 3 ∧ Hid (wr = w))
  case atStart => exact ⟨rfl, Lib.hid rfl⟩
  case round =>
    obtain ⟨rfl, HW⟩ := hrel
    go_wp2_with fail
    (try rw [Exit.noGoto_ret])
    go_ret
    exact ⟨rfl, by rw [HW.out]; exact Below.refl _ _⟩
set_option maxRecDepth 100000 in
set_option maxHeartbeats 4000000 in
omit h1 h2 h3 in
theorem indexRune_err (_hr : Hid (r = 65533)) : Calls Tryz.prog 108 #[.string ch, .int .i32 65533] w fun e w' => e = .returned (.int .i64 (-1)) ∧ Below w.heap.size w w' := by
  obtain ⟨hc3, k0, k1, k2, -, -, -⟩ := ch_facts hch.out
  go_enter Tryz.func108, Tryz.ntmps108
  go_wp2_with fail
  go_loopg [5, 6] 3 (fun k _ _ wr => ∃ i : Nat, k = 3 - i ∧ i ≤ 3 ∧ Hid (wr.heap[w.heap.size]? = some (.stringIter ch i)) ∧ Hid (Below w.heap.size w wr))
  case atStart => exact ⟨0, rfl, by omega, Lib.hid (World.iter_heap w ch 0), Lib.hid (Below.alloc (Below.refl _ _) (Nat.le_refl _) _)⟩
  case round =>
    obtain ⟨i, rfl, hi, HI, HB⟩ := hrel
    rcases Nat.lt_or_ge i 3 with h | h
    · obtain ⟨x, hx, hx1, hx2⟩ : ∃ x : UInt8, (∀ h : i < ch.size, ch[i]'h = x) ∧ x.toNat < 128 ∧ Hid (x.toNat ≠ 65533) := by
        match i, h with
        | 0, _ => exact ⟨0, k0, by decide, Lib.hid (by decide)⟩
        | 1, _ => exact ⟨10, k1, by decide, Lib.hid (by decide)⟩
        | 2, _ => exact ⟨47, k2, by decide, Lib.hid (by decide)⟩
      have hnx := fun ty => Lib.run_next_ascii_at (P := Tryz.prog) wr w.heap.size ch i ty HI.out (by omega) (by rw [hx]; exact hx1)
      rw [hx] at hnx
      have hxe : ((x.toNat : Int) == 65533) = false := beq_eq_false_iff_ne.2 (by have := hx2.out; omega)
      clear k0 k1 k2 hx
      go_wp2_with fail
      go_roundg (3 - (i + 1))
      case measure => omega
      case rel => exact ⟨i + 1, rfl, by omega, Lib.hid (Lib.iterAt_heap wr _ ch i _ HI.out), Lib.hid (Lib.below_iterAt HB.out (Nat.le_refl _) ch _)⟩
    · obtain rfl : i = 3 := by omega
      have hnx := fun ty => Lib.run_next_end_at (P := Tryz.prog) wr w.heap.size ch 3 ty HI.out (by omega)
      clear k0 k1 k2
      go_wp2_with fail
      (try rw [Exit.noGoto_ret])
      go_ret
      exact ⟨rfl, HB.out⟩
theorem indexRune_high : Calls Tryz.prog 108 #[.string ch, .int .i32 r] w fun e w' => e = .returned (.int .i64 (-1)) ∧ Below w.heap.size w w' := by
  by_cases hne : r = 65533
  · subst hne
    exact indexRune_err 65533 w ch hch (Lib.hid rfl)
  · obtain ⟨y, hy⟩ : ∃ y, Utf8.encode (r : Int) = y := ⟨_, rfl⟩
    rcases Quote.encode_high r h1 h2 h3.out with ⟨a, b, e, hb⟩ | ⟨a, b, c, e, hb⟩ | ⟨a, b, c, d, e, hb⟩
    · rw [hy] at e
      exact indexRune_2 r w h1 h2 h3 ch hch y b (Lib.hid hy) (by rw [e]; rfl) (by subst e; intro h; rfl) (Lib.hid hb) hne
    · rw [hy] at e
      exact indexRune_3 r w h1 h2 h3 ch hch y c (Lib.hid hy) (by rw [e]; rfl) (by subst e; intro h; rfl) (Lib.hid hb) hne
    · rw [hy] at e
      exact indexRune_4 r w h1 h2 h3 ch hch y (Lib.hid hy) (by rw [e]; rfl) hne
end
theorem ascii_idx (x : UInt8) : (Lib.indexByte [0, 10, 47] x = -1 ∧ [0, 10, 47].contains x = false) ∨ (0 ≤ Lib.indexByte [0, 10, 47] x ∧ [0, 10, 47].contains x = true) := by
  by_cases h0 : x = 0
  · subst h0; right; decide
  · by_cases h1 : x = 10
    · subst h1; right; decide
    · by_cases h2 : x = 47
      · subst h2; right; decide
      · left
        have e0 : ¬ (0 : UInt8) = x := fun e => h0 e.symm
        have e1 : ¬ (10 : UInt8) = x := fun e => h1 e.symm
        have e2 : ¬ (47 : UInt8) = x := fun e => h2 e.symm
        simp [Lib.indexByte, e0, e1, e2, h0, h1, h2]
theorem NoAny.high {s chars : List UInt8} {i n : Nat} (h : Lib.NoAny s chars i) (hc : ∀ c ∈ chars, c.toNat < 128) (hn : ∀ j b, i ≤ j → j < i + n → s[j]? = some b → 128 ≤ b.toNat) : Lib.NoAny s chars (i + n) := by
  intro j b hj hb
  by_cases e : j < i
  · exact h j b e hb
  · have := hn j b (by omega) hj hb
    rw [← Bool.not_eq_true, List.contains_iff_mem]
    intro hm
    have := hc b hm
    omega
set_option maxRecDepth 100000 in
set_option maxHeartbeats 4000000 in
/-- strings.IndexAny at "\x00\n/", eight bytes or fewer. -/
theorem indexAny_few (s : ByteArray) (w : World) (ch : ByteArray) (hch : Hid (ch = ⟨#[0, 10, 47]⟩)) (h8 : s.size ≤ 8) :
    Calls Tryz.prog 105 #[.string s, .string ch] w fun e w' => e = .returned (.int .i64 (Lib.indexAny s.data.toList ch.data.toList)) ∧ Below w.heap.size w w' := by
  obtain ⟨hc3, -, -, -, -, -, hcl⟩ := ch_facts hch.out
  have HCL := Lib.hid hcl
  have hemp : ch.toList.isEmpty = false := by rw [ByteArray.toList_eq, hcl]; rfl
  have h8z : decide ((8 : Int) < (s.size : Int)) = false := decide_eq_false (by omega)
  clear hcl
  go_enter Tryz.func105, Tryz.ntmps105
  go_wp2_with (go_at_call 109; refine (Tryz.strings_shouldUseASCIISet _ _).mono ?_; rintro e w' ⟨rfl, hw⟩; rw [hw, h8z])
  go_loopg [9, 10] s.size (fun k _ _ wr => ∃ i : Nat, k = s.size - i ∧ i ≤ s.size ∧ Hid (wr.heap[w.heap.size]? = some (.stringIter s i)) ∧ Hid (Below w.heap.size w wr) ∧ Hid (Lib.NoAny s.data.toList ch.data.toList i))
  case atStart => exact ⟨0, rfl, by omega, Lib.hid (World.iter_heap w s 0), Lib.hid (Below.alloc (Below.refl _ _) (Nat.le_refl _) _), Lib.hid (Lib.NoAny.zero _ _)⟩
  case round =>
    obtain ⟨i, rfl, hi, HI, HB, HN⟩ := hrel
    by_cases h : i < s.size
    · obtain ⟨x, hx⟩ : ∃ x : UInt8, s[i]'h = x := ⟨_, rfl⟩
      have hxl : Hid (s.data.toList[i]? = some x) := Lib.hid (by rw [← hx]; exact Lib.data_getElem? s i h)
      by_cases hhi : x.toNat < 128
      · have hnx := fun ty => Lib.run_next_ascii_at (P := Tryz.prog) wr w.heap.size s i ty HI.out h (by rw [hx]; exact hhi)
        rw [hx] at hnx
        have HI2 := Lib.hid (Lib.iterAt_heap wr _ s i (i + 1) HI.out)
        have HB2 := Lib.hid (Lib.below_iterAt HB.out (Nat.le_refl _) s (i + 1))
        obtain ⟨W, hW⟩ : ∃ W, W = wr.iterAt w.heap.size s (i + 1) := ⟨_, rfl⟩
        rw [← hW] at hnx HI2 HB2
        clear hW hx
        rcases ascii_idx x with ⟨e1, e2⟩ | ⟨e1, e2⟩
        · have E2 := Lib.hid e2
          have E1 := Lib.hid e1
          clear e1 e2
          go_wp2_with (go_at_call 108; refine (Tryz.strings_IndexRune_ascii _ _ _ (by omega) (by omega)).mono ?_; rintro e w' ⟨rfl, hw⟩; rw [hw, HCL.out, show ((x.toNat : Int).toNat.toUInt8) = x from by simp, E1.out])
          go_roundg (s.size - (i + 1))
          case measure => omega
          case rel => exact ⟨i + 1, rfl, by omega, HI2, HB2, Lib.hid (HN.out.succ hxl.out (by rw [HCL.out]; exact E2.out))⟩
        · have E2 := Lib.hid e2
          obtain ⟨q, hq⟩ : ∃ q, Lib.indexByte [0, 10, 47] x = q := ⟨_, rfl⟩
          rw [hq] at e1
          have E1 := Lib.hid hq
          clear hq e2
          go_wp2_with (go_at_call 108; refine (Tryz.strings_IndexRune_ascii _ _ _ (by omega) (by omega)).mono ?_; rintro e w' ⟨rfl, hw⟩; rw [hw, HCL.out, show ((x.toNat : Int).toNat.toUInt8) = x from by simp, E1.out])
          go_ret
          exact ⟨retIn (by rw [Lib.indexAny_hit HN.out hxl.out (by rw [HCL.out]; exact E2.out)]), HB2.out⟩
      · obtain ⟨r, n, e1, a1, a2, a3, a4, a5, a6⟩ := Quote.decode_high s i h (by rw [hx]; omega)
        have hnx := fun ty => Lib.run_next_any_at (P := Tryz.prog) wr w.heap.size s i ty HI.out h
        rw [e1] at hnx
        simp only at hnx
        have HI2 := Lib.hid (Lib.iterAt_heap wr _ s i (i + n) HI.out)
        have HB2 := Lib.hid (Lib.below_iterAt HB.out (Nat.le_refl _) s (i + n))
        obtain ⟨W, hW⟩ : ∃ W, W = wr.iterAt w.heap.size s (i + n) := ⟨_, rfl⟩
        rw [← hW] at hnx HI2 HB2
        have A3 := Lib.hid a3
        have A6 := Lib.hid a6
        clear hW hx e1 a3 a6
        go_wp2_with (go_at_call 108; refine (indexRune_high r _ a1 a2 A3 ch hch).mono ?_; rintro e w2 ⟨rfl, hb2⟩; have HBB := Lib.hid hb2; clear hb2)
        go_roundg (s.size - (i + n))
        case measure => omega
        case rel =>
          refine ⟨i + n, rfl, a5, Lib.hid ((HBB.out.block _ (Array.getElem?_eq_some_iff.1 HI2.out).1).trans HI2.out), Lib.hid (HB2.out.trans (HBB.out.mono HB2.out.size)), Lib.hid (NoAny.high HN.out (fun c hc => ?_) A6.out)⟩
          rw [HCL.out] at hc
          simp only [List.mem_cons, List.not_mem_nil, or_false] at hc
          rcases hc with rfl | rfl | rfl <;> decide
    · obtain rfl : i = s.size := by omega
      have hnx := fun ty => Lib.run_next_end_at (P := Tryz.prog) wr w.heap.size s s.size ty HI.out h
      go_wp2_with fail
      go_ret
      exact ⟨retIn (by rw [Lib.indexAny_none (by rw [show s.data.toList.length = s.size from Array.length_toList]; exact HN.out)]), HB.out⟩
theorem contains_any (s : List UInt8) : decide (0 ≤ Lib.indexAny s [0, 10, 47]) = s.any fun b => b == 0 || b == 10 || b == 47 := by
  induction s with
  | nil => rfl
  | cons b l ih =>
    have hg := Lib.indexAny_ge [0, 10, 47] l
    have hc : ([0, 10, 47] : List UInt8).contains b = (b == 0 || b == 10 || b == 47) := by simp [List.contains, List.elem, Bool.or_assoc]; cases (b == 0) <;> cases (b == 10) <;> cases (b == 47) <;> rfl
    rw [Lib.indexAny, hc, List.any_cons, ← ih]
    cases (b == 0 || b == 10 || b == 47)
    · simp only [Bool.false_or, Bool.false_eq_true, if_false]
      split
      · rename_i h
        have : Lib.indexAny l [0, 10, 47] = -1 := by simpa using h
        rw [this]
      · rename_i h
        have : Lib.indexAny l [0, 10, 47] ≠ -1 := by simpa using h
        exact decide_eq_decide.2 (by omega)
    · rfl
theorem zero256 : ∀ w, (zeroValue 180).run Tryz.prog w = .ok (.agg (Array.replicate 256 (.bool false))) w := fun w => by
  kernel_rfl
theorem indexAny_all (s : ByteArray) (w : World) (hs : s.size < 4294967281) :
    Calls Tryz.prog 105 #[.string s, .string badB] w fun e w' => e = .returned (.int .i64 (Lib.indexAny s.data.toList [0, 10, 47])) ∧ Below w.heap.size w w' := by
  by_cases h8 : s.size ≤ 8
  · exact indexAny_few s w badB (Lib.hid rfl) h8
  · refine (Tryz.strings_IndexAny_long zero256 s badB w (by decide) (by omega) hs (by decide) (fun j b hb => ?_)).mono ?_
    · match j, hb with
      | 0, hb => cases hb; decide
      | 1, hb => cases hb; decide
      | 2, hb => cases hb; decide
      | k + 3, hb => exact absurd hb (by simp [badB])
    · rintro e w' ⟨rfl, rfl⟩
      exact ⟨rfl, ((Below.refl _ _).alloc (Nat.le_refl _) _).alloc (by simp) _⟩
set_option maxRecDepth 100000 in
theorem containsAny_all (s : ByteArray) (w : World) (hs : s.size < 4294967281) :
    Calls Tryz.prog 82 #[.string s, .string badB] w fun e w' => e = .returned (.bool (s.data.toList.any fun b => b == 0 || b == 10 || b == 47)) ∧ Below w.heap.size w w' := by
  obtain ⟨ch, hch⟩ : ∃ ch, ch = badB := ⟨_, rfl⟩
  rw [← hch]
  have hc := Lib.hid hch
  clear hch
  go_enter Tryz.func82, Tryz.ntmps82
  obtain ⟨q, hq⟩ : ∃ q, Lib.indexAny s.data.toList [0, 10, 47] = q := ⟨_, rfl⟩
  have HQ := Lib.hid hq
  clear hq
  go_wp2_with (go_at_call 105; rw [hc.out]; refine (indexAny_all s _ hs).mono ?_; rintro e w2 ⟨rfl, hb2⟩; have HBB := Lib.hid hb2; clear hb2; rw [HQ.out])
  go_ret
  exact ⟨retBo (by rw [← contains_any, HQ.out]), HBB.out⟩
set_option maxRecDepth 100000 in
/-- disk.isName. -/
theorem isName_any (s : ByteArray) (w : World) (_hs : s.size ≤ maxLen) :
    Calls Tryz.prog 19 #[.string s] w fun e w' => e = .returned (.bool (Disk.isName s.data.toList)) ∧ Below w.heap.size w w' := by
  have hl : s.data.toList.length = s.size := Array.length_toList
  have HL := Lib.hid hl
  clear hl
  by_cases h1 : 1 ≤ s.size
  · have e1 : decide ((1 : Int) ≤ (s.size : Int)) = true := decide_eq_true (by omega)
    by_cases h2 : s.size ≤ 64
    · obtain ⟨q, hq⟩ : ∃ q, (s.data.toList.any fun b => b == 0 || b == 10 || b == 47) = q := ⟨_, rfl⟩
      have HQ := Lib.hid hq
      clear hq
      go_enter Tryz.func19, Tryz.ntmps19
      go_wp2_with (go_at_call 82; refine (containsAny_all s _ (by omega)).mono ?_; rintro e w2 ⟨rfl, hb2⟩; have HBB := Lib.hid hb2; clear hb2; rw [HQ.out])
      go_ret
      refine ⟨?_, HBB.out⟩
      unfold Disk.isName
      rw [HQ.out, HL.out, decide_eq_true h1, decide_eq_true h2]
      simp
    · go_enter Tryz.func19, Tryz.ntmps19
      go_wp2_with fail
      go_ret
      refine ⟨?_, Below.refl _ _⟩
      unfold Disk.isName
      rw [HL.out, decide_eq_false h2]
      simp
  · go_enter Tryz.func19, Tryz.ntmps19
    go_wp2_with fail
    go_ret
    refine ⟨?_, Below.refl _ _⟩
    unfold Disk.isName
    rw [HL.out, decide_eq_false h1]
    simp
end Go.Proofs.YtncpeogkccjmcaaGreatDoor
