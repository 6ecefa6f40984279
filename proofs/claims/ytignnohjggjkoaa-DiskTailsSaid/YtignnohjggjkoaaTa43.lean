/- Texts that lead to the claim, one behind the other: A new disk takes a file, and has it: the walk of galleylaw03.lives. No conditions. -/
import Derived.Test.YtignnohjggjkoaaTa39
import Derived.Test.YtignnohjggjkoaaTa21
import Derived.Test.YtignnohjggjkoaaTa24
import Derived.Test.YtignnohjggjkoaaTa25
import Derived.Test.YtignnohjggjkoaaTa26
import Derived.Test.YtignnohjggjkoaaTa31
import Derived.Test.YtignnohjggjkoaaTa42
namespace Go.Proofs.Ytignnohjggjkoaa
open Go.RowKit Go.ChangeShapes Go.WideShapes Go.Deep

section
variable {w : World}
theorem grow_base {F : Blocks} {B : Nat} {w w' : World} (h : ∀ b, F b → B ≤ b) (hw : B ≤ w.heap.size) : ∀ b, grow F w w' b → B ≤ b := fun b hb => hb.elim (h b) fun h => Nat.le_trans hw h.1
/-- A disk of the call's own. -/
structure Kd (w0 w : World) (F : Blocks) (d : Nat) (s : Disk.St) : Prop where
  at_ : DiskAt w F d s
  below : Below w0.heap.size w0 w
  base : ∀ b, F b → w0.heap.size ≤ b
theorem Kd.call {w0 w w' : World} {F : Blocks} {d : Nat} {s : Disk.St} {r : Disk.St × Int} {e : Ending} (h : Kd w0 w F d s) (hc : DiskCall w F d r e w') : e = .returned (.int .i64 r.2) ∧ Kd w0 w' (grow F w w') d r.1 :=
  ⟨hc.1, hc.2.1, h.below.trans (hc.2.2.below h.below.size h.base), grow_base h.base h.below.size⟩
theorem Kd.far {w0 w w' : World} {F : Blocks} {d : Nat} {s : Disk.St} (h : Kd w0 w F d s) (hb : Below w.heap.size w w') : Kd w0 w' F d s := by
  obtain ⟨loc, blk, bn, bo, rowv, pA, pC, hB⟩ := h.at_
  exact ⟨(hB.far hb).at_, h.below.trans (hb.mono h.below.size), h.base⟩
set_option maxRecDepth 100000 in
set_option maxHeartbeats 4000000 in
theorem lives_any : Calls Try.prog 8 #[] w fun e w' => e = .returned (.bool true) ∧ Below w.heap.size w w' := by
  obtain ⟨l0, l1, l2, l3, l4, l5, l6⟩ := Disk.lv_facts
  obtain ⟨f0, f1, f2, f3⟩ := Disk.lv_fine
  obtain ⟨s0, s1, s2, s3⟩ := Disk.lv_small
  have HF0 := Lib.hid f0; have HF1 := Lib.hid f1; have HF2 := Lib.hid f2; have HF3 := Lib.hid f3
  have HS0 := Lib.hid s0; have HS1 := Lib.hid s1; have HS2 := Lib.hid s2; have HS3 := Lib.hid s3
  have L0 := Lib.hid l0; have L1 := Lib.hid l1; have L2 := Lib.hid l2; have L3 := Lib.hid l3; have L4 := Lib.hid l4; have L5 := Lib.hid l5; have L6 := Lib.hid l6
  clear l0 l1 l2 l3 l4 l5 l6 f0 f1 f2 f3 s0 s1 s2 s3
  go_enter Try.func8, Try.ntmps8
  go_wp2_with fail
  refine (new_any 10).mono ?_
  rintro e w1 (⟨h1, -, -⟩ | ⟨-, d, rfl, h2, h3⟩)
  · exact absurd L0.out h1
  have K1 : Hid (Kd w w1 (btw w.heap.size w1.heap.size) d Disk.lv0) := Lib.hid ⟨h2, h3, fun b hb => hb.1⟩
  clear h2 h3
  go_wp2_with fail
  refine (make_any ⟨#[97]⟩ (by decide) (Lib.hid K1.out.at_) HF0 HS0 (by omega)).mono ?_
  rintro e w2 hc
  obtain ⟨he, hk⟩ := K1.out.call hc
  have he2 : e = .returned (.int .i64 0) := he.trans (by rw [show (⟨#[97]⟩ : ByteArray).data.toList = [97] from rfl, L1.out])
  subst he2
  obtain ⟨F2, hF2⟩ : ∃ F, F = grow (btw w.heap.size w1.heap.size) w1 w2 := ⟨_, rfl⟩
  rw [← hF2] at hk
  have K2 : Hid (Kd w w2 F2 d Disk.lv1) := Lib.hid hk
  clear hc he hk hF2
  go_wp2_with fail
  have K2b := Lib.hid (K2.out.far (Below.alloc (Below.refl w2.heap.size w2) (Nat.le_refl _) (.cells #[.int .u8 1, .int .u8 2] 5)))
  refine (append_any ⟨#[97]⟩ (by decide) (some ⟨w2.heap.size, 0, none⟩) 2 2 [1, 2] (fun b => b = w2.heap.size) (Lib.hid rfl) (Lib.hid ((SliceAt.newRow Rep.byte w2 _ _ [1, 2] nob 2 2 rfl (Nat.le_refl _) (by decide) (fun i hi => ?_) fun _ h => h.elim).up fun b hb => hb.elim id fun h => h.elim)) (Lib.hid ?_) (by omega) (Lib.hid K2b.out.at_) HF1 HS1 (by omega)).mono ?_
  · match i, hi with
    | 0, _ => rfl
    | 1, _ => rfl
  · rintro b rfl
    refine ⟨by simp, fun h => ?_⟩
    obtain ⟨loc, blk, bn, bo, rowv, pA, pC, hB⟩ := K2.out.at_
    exact absurd (hB.lt _ h) (Nat.lt_irrefl _)
  rintro e w3 hc
  obtain ⟨he, hk⟩ := K2b.out.call hc
  have he2 : e = .returned (.int .i64 0) := he.trans (by rw [show (⟨#[97]⟩ : ByteArray).data.toList = [97] from rfl, L2.out])
  subst he2
  obtain ⟨F3, hF3⟩ : ∃ F, F = grow F2 (w2.alloc (.cells #[.int .u8 1, .int .u8 2] 5)) w3 := ⟨_, rfl⟩
  rw [← hF3] at hk
  have K3 : Hid (Kd w w3 F3 d Disk.lv2) := Lib.hid hk
  clear hc he hk hF3
  go_wp2_with fail
  refine (sync_any ⟨#[98]⟩ (by decide) (Lib.hid K3.out.at_) HF2 HS2 (by omega)).mono ?_
  rintro e w4 hc
  obtain ⟨he, hk⟩ := K3.out.call hc
  have he2 : e = .returned (.int .i64 21) := he.trans (by rw [show (⟨#[98]⟩ : ByteArray).data.toList = [98] from rfl, L3.out])
  subst he2
  obtain ⟨F4, hF4⟩ : ∃ F, F = grow F3 w3 w4 := ⟨_, rfl⟩
  rw [← hF4] at hk
  have K4 : Hid (Kd w w4 F4 d Disk.lv3) := Lib.hid hk
  clear hc he hk hF4
  go_wp2_with fail
  refine (read_any ⟨#[97]⟩ (by decide) (Lib.hid K4.out.at_) HF3).mono ?_
  rintro e w5 ⟨A, n, c, he, hn, hnc, hcm, hown, hb5⟩
  rw [show (⟨#[97]⟩ : ByteArray).data.toList = [97] from rfl, L4.out] at he hn hown
  subst he
  obtain rfl : n = 2 := hn.out
  obtain ⟨A9, c9, he9, hsl⟩ := hown.slice
  simp only [Value.slice.injEq] at he9
  obtain ⟨rfl, -, rfl⟩ := he9
  have HSL := Lib.hid hsl
  have K5 := Lib.hid (K4.out.far hb5)
  have HB5 := Lib.hid hb5
  clear hown hb5 hsl
  go_wp2_with fail
  have HEQ : Hid (Calls Try.prog 16 #[.slice A 2 c, .slice (some ⟨w5.heap.size, 0, none⟩) 2 2] (w5.alloc (.cells #[.int .u8 1, .int .u8 2] 5)) fun e w' => e = .returned (.bool true) ∧ ∃ n, w' = (w5.alloc (.cells #[.int .u8 1, .int .u8 2] 5)).drewN n) := Lib.hid (by
    have h1 : SliceAt Rep.byte (w5.alloc (.cells #[.int .u8 1, .int .u8 2] 5)) (fun b => b < w5.heap.size) A c [1, 2] := HSL.out.keep (fun b hb => by
      rcases hb with ⟨-, h, -⟩ | h
      · exact h
      · exact h.elim) fun b hb => Below.heap_alloc w5 _ b (by
      rcases hb with ⟨-, h, -⟩ | h
      · exact h
      · exact h.elim)
    have h2 : SliceAt Rep.byte (w5.alloc (.cells #[.int .u8 1, .int .u8 2] 5)) _ (some ⟨w5.heap.size, 0, none⟩) 2 [1, 2] := SliceAt.newRow Rep.byte w5 _ _ [1, 2] nob 2 2 rfl (Nat.le_refl _) (by decide) (fun i hi => by
      match i, hi with
      | 0, _ => rfl
      | 1, _ => rfl) fun _ h => h.elim
    exact eqBytes A _ c 2 [1, 2] [1, 2] _ _ _ h1 h2)
  refine HEQ.out.mono ?_
  rintro e w6 ⟨rfl, nq, rfl⟩
  have K6 : Hid (Kd w ((w5.alloc (.cells #[.int .u8 1, .int .u8 2] 5)).drewN nq) F4 d Disk.lv3) := Lib.hid (K5.out.far ((Below.alloc (Below.refl _ _) (Nat.le_refl _) _).trans (below_dr _ _)))
  generalize (w5.alloc (.cells #[.int .u8 1, .int .u8 2] 5)).drewN nq = w7 at K6 ⊢
  have HP : Hid (Calls Try.prog 21 #[.pointer (some ⟨d, 0, none⟩)] w7 fun e w' => e = .returned (.int .i64 1) ∧ w7 = w') := Lib.hid ((pending_any (Lib.hid K6.out.at_)).mono fun e w' h => ⟨by rw [h.1, L5.out]; rfl, h.2⟩)
  have HD : Hid (Calls Try.prog 25 #[.pointer (some ⟨d, 0, none⟩)] w7 fun e w' => e = .returned (.int .i64 2) ∧ w7 = w') := Lib.hid ((done_any (Lib.hid K6.out.at_)).mono fun e w' h => ⟨by rw [h.1, L6.out], h.2⟩)
  go_wp2_with fail
  refine HP.out.mono ?_
  rintro e w8 ⟨rfl, rfl⟩
  go_wp2_with fail
  refine HD.out.mono ?_
  rintro e w8 ⟨rfl, rfl⟩
  go_wp2_with fail
  go_ret
  exact ⟨rfl, K6.out.below⟩
end
end Go.Proofs.Ytignnohjggjkoaa
