/- Texts that lead to the claim, one behind the other: A file of three bytes gets two others: the walk of galleylaw30.lives. Edit of a disk that is none. No conditions. -/
import Derived.Test.YtfommpbblpnljaaWH32
import Derived.Test.YtfommpbblpnljaaWH33
import Derived.Test.YtfommpbblpnljaaWH19
import Derived.WalkSpells
import Derived.Lib.SlBytesConst
namespace Go.Proofs.Ytfommpbblpnljaa
open Go.RowKit Go.ChangeShapes Go.WideShapes Go.Deep

section
variable {w W W' : World} {F G : Blocks} {d : Nat} {s : Disk.St} {t : Disk.Nm} {o dB tB : Nat} {ou : Disk.Ou}
set_option maxRecDepth 100000 in
theorem edit_nd (x : Option Addr) (h : Hid (ND (.pointer x) w)) (n : ByteArray) (fn : FuncId) (cap : Array Value) : Calls Try.prog 6 #[.pointer x, .string n, .func (.func fn) #[] cap] w fun e w' => e = .returned (.int .i64 1) ∧ Below w.heap.size w w' := by
  have hb0 : Below w.heap.size w (((w.alloc (.cells #[.pointer x] 22)).alloc (.cells #[.string n] 9)).alloc (.cells #[.func (.func fn) #[] cap] 34)) :=
    Below.alloc (Below.alloc (Below.alloc (Below.refl _ _) (Nat.le_refl _) _) (by simp) _) (by simp <;> omega) _
  have HR := Lib.hid (read_nd (.pointer x) (((w.alloc (.cells #[.pointer x] 22)).alloc (.cells #[.string n] 9)).alloc (.cells #[.func (.func fn) #[] cap] 34)) n (Lib.hid (h.out.far hb0)))
  have HB0 := Lib.hid hb0
  clear hb0
  go_enter_defers Try.func6, Try.ntmps6
  go_wp2_with fail
  refine HR.out.mono ?_
  rintro e w1 ⟨rfl, h1⟩
  have H1 := Lib.hid h1
  clear h1
  go_wp2_with fail
  refine ⟨_, results_tmp rfl _ _ _, ?_⟩
  have h2 := HB0.out.trans (H1.out.mono HB0.out.size)
  exact ⟨rfl, Below.alloc h2 h2.size _⟩
theorem OutCall.after {w1 : World} (hb : Below w.heap.size w w1) (hl : ∀ b, G b → b < w.heap.size) {r : Disk.St × Disk.Ou × Int} {e : Ending} {w' : World} (h : OutCall w1 G d t o dB tB r e w') : OutCall w G d t o dB tB r e w' :=
  ⟨h.1, h.2.1.up (fun _ hb' => hb'.elim .inl fun hb' => .inr ⟨Nat.le_trans hb.size hb'.1, hb'.2⟩) (grow_lt hl (Nat.le_trans hb.size h.2.2.size)), (Only.of_below hb G).trans h.2.2 fun _ hx => .inl hx⟩
set_option maxRecDepth 100000 in
set_option maxHeartbeats 1000000 in
/-- The run of lives. -/
theorem livesRun_any (hf : Hid (Disk.Fine s)) {k : Nat} (hk : Hid (Disk.Small k s)) (hkb : k ≤ 1099511627776) (ht : t.length ≤ maxLen) (h : Hid (OutS w G d s t o dB tB ⟨[], 0⟩)) (A : Option Addr) (m c : Nat) (hm : m = 3) (S : Blocks) (hs : Hid (SliceAt Rep.byte w S A c [111, 108, 100])) :
    Calls Try.prog 41 #[.slice A m c, .pointer (some ⟨o, 0, none⟩)] w (OutCall w G d t o dB tB (s.ouWrite t ⟨[], 0⟩ [110, 101])) := by
  subst hm
  have kc := fun (w : World) (C : Array Value) (n c : Nat) => Lib.run_convert_bytes_const (P := Try.prog) w 32 5 C n c Try.underlying32 Try.underlying5
  have hcv := run_bytes_string (P := Try.prog) w 32 5 9 Try.underlying32 Try.underlying5 Try.underlying9 S A 3 c [111, 108, 100] rfl hs.out
  go_enter Try.func41, Try.ntmps41
  go_wp2_with fail
  obtain ⟨W1, hW1⟩ : ∃ W, W = (w.alloc (.cells #[.int .u8 110, .int .u8 101] 5 (2, 3))).alloc (.cells #[.slice (some ⟨w.heap.size, 0, none⟩) 2 2] 32) := ⟨_, rfl⟩
  have hb1 : Below w.heap.size w W1 := by rw [hW1]; exact Below.alloc (Below.alloc (Below.refl _ _) (Nat.le_refl _) _) (by simp) _
  have hs1 : SliceAt Rep.byte (w.alloc (.cells #[.int .u8 110, .int .u8 101] 5 (2, 3))) (fun b => b = w.heap.size) (some ⟨w.heap.size, 0, none⟩) 2 [110, 101] := (SliceAt.newRow Rep.byte w 5 #[.int .u8 110, .int .u8 101] [110, 101] nob 2 2 rfl (Nat.le_refl _) (by decide) (fun i hi => by
    match i, hi with
    | 0, _ => rfl
    | 1, _ => rfl) (fun _ h => h.elim) (2, 3)).up fun b hb => hb.elim id fun h => h.elim
  have hs2 : SliceAt Rep.byte.slice W1 (fun b => w.heap.size ≤ b ∧ b < W1.heap.size) (some ⟨w.heap.size + 1, 0, none⟩) 1 [[110, 101]] := by
    have := SliceAt.newRow Rep.byte.slice (w.alloc (.cells #[.int .u8 110, .int .u8 101] 5 (2, 3))) 32 #[.slice (some ⟨w.heap.size, 0, none⟩) 2 2] [[110, 101]] (fun b => b = w.heap.size) 1 1 rfl (Nat.le_refl _) (by decide) (fun i hi => by
      match i, hi with
      | 0, _ => exact ⟨_, _, rfl, hs1⟩) (fun b hb => by simp; omega)
    rw [World.size_alloc, ← hW1] at this
    have hsz : W1.heap.size = w.heap.size + 1 + 1 := by rw [hW1]; simp
    refine this.up fun b hb => ?_
    rcases hb with rfl | rfl <;> omega
  have HW := Lib.hid (write_any (ou := ⟨[], 0⟩) (Lib.hid (h.out.far hb1)) hf hk hkb ht (some ⟨w.heap.size + 1, 0, none⟩) 1 1 [[110, 101]] _ (Lib.hid rfl) (Lib.hid hs2) (Lib.hid fun b hb => ⟨hb.2, fun hg => Nat.lt_irrefl _ (Nat.lt_of_lt_of_le (h.out.lt b hg) hb.1)⟩) (by simp))
  have HB1 := Lib.hid hb1
  rw [← hW1]
  clear hb1 hs1 hs2 hW1
  refine HW.out.mono ?_
  intro e w2 hc
  have h2 := OutCall.after HB1.out h.out.lt hc
  obtain rfl := hc.1
  have H2 := Lib.hid h2
  clear h2 hc
  go_wp2_with fail
  go_ret
  exact H2.out
end
namespace Disk
def ev0 : St := fromSt 100 [⟨[102], [111, 108, 100], 3, false⟩]
def evR (s : St) : St × Ou × Int := s.ouWrite (tmpOf [102]) ⟨[], 0⟩ [110, 101]
theorem ev_facts : fromErr 100 [⟨[102], [111, 108, 100], 3, false⟩] = 0 ∧ (ev0.read [102]).1 = [111, 108, 100] ∧ (ev0.edit [102] evR).2 = 0 ∧ (ev0.edit [102] evR).1.read [102] = ([110, 101], 0) ∧ (ev0.edit [102] evR).1.names.length = 1 := by
  refine ⟨by decide, by decide, by decide, by decide, by decide⟩
theorem ev_fine : Fine ev0 ∧ Fine (evR (ev0.ahead [102]).1).1 ∧ Fine (ev0.edit [102] evR).1 := by
  have h0 : Fine ev0 := fine_from (by decide)
  have h1 := fine_ouWrite (fine_ahead h0 [102]) (tmpOf [102]) ⟨[], 0⟩ [110, 101]
  exact ⟨h0, h1, fine_edit h0 h1⟩
theorem ev_small : Small 0 ev0 ∧ Small 2 (ev0.ahead [102]).1 ∧ Small 3 (evR (ev0.ahead [102]).1).1 ∧ Small 7 (ev0.edit [102] evR).1 := by
  have h0 : Small 0 ev0 := small_from _ _
  have h2 := small_ahead h0 [102]
  have h1 := small_ouWrite h2 (tmpOf [102]) ⟨[], 0⟩ [110, 101]
  exact ⟨h0, h2, h1, small_mono (small_edit h0 h1) (by omega)⟩
end Disk
section
variable {w : World}
set_option maxRecDepth 100000 in
set_option maxHeartbeats 4000000 in
theorem editLives_any : Calls Try.prog 8 #[] w fun e w' => e = .returned (.bool true) ∧ Below w.heap.size w w' := by
  obtain ⟨l0, l1, l2, l3, l4⟩ := Disk.ev_facts
  obtain ⟨f0, f1, f2⟩ := Disk.ev_fine
  obtain ⟨s0, s1, s2, s3⟩ := Disk.ev_small
  have L0 := Lib.hid l0; have L1 := Lib.hid l1; have L2 := Lib.hid l2; have L3 := Lib.hid l3; have L4 := Lib.hid l4
  have F0 := Lib.hid f0; have F1 := Lib.hid f1; have F2 := Lib.hid f2
  have S0 := Lib.hid s0; have S1 := Lib.hid s1; have S2 := Lib.hid s2; have S3 := Lib.hid s3
  clear l0 l1 l2 l3 l4 f0 f1 f2 s0 s1 s2 s3
  have kc := fun (w : World) (C : Array Value) (n c : Nat) => Lib.run_convert_bytes_const (P := Try.prog) w 32 5 C n c Try.underlying32 Try.underlying5
  go_enter Try.func8, Try.ntmps8
  go_wp2_with fail
  obtain ⟨W1, hW1⟩ : ∃ W, W = (w.alloc (.cells #[.int .u8 111, .int .u8 108, .int .u8 100] 5 (3, 4))).alloc (.cells #[.string ⟨#[102]⟩, .slice (some ⟨w.heap.size, 0, none⟩) 3 3, .int .i64 3, .bool false] 61) := ⟨_, rfl⟩
  have hb1 : Below w.heap.size w W1 := by rw [hW1]; exact Below.alloc (Below.alloc (Below.refl _ _) (Nat.le_refl _) _) (by simp) _
  have hs1 : SliceAt Rep.byte (w.alloc (.cells #[.int .u8 111, .int .u8 108, .int .u8 100] 5 (3, 4))) (fun b => b = w.heap.size) (some ⟨w.heap.size, 0, none⟩) 3 [111, 108, 100] := (SliceAt.newRow Rep.byte w 5 #[.int .u8 111, .int .u8 108, .int .u8 100] [111, 108, 100] nob 3 3 rfl (Nat.le_refl _) (by decide) (fun i hi => by
    match i, hi with
    | 0, _ => rfl
    | 1, _ => rfl
    | 2, _ => rfl) (fun _ h => h.elim) (3, 4)).up fun b hb => hb.elim id fun h => h.elim
  have hs2 : SliceAt Rep.fin W1 (fun b => b < W1.heap.size) (some ⟨w.heap.size + 1, 0, none⟩) 1 [⟨[102], [111, 108, 100], 3, false⟩] := by
    have := SliceAt.newRow Rep.fin (w.alloc (.cells #[.int .u8 111, .int .u8 108, .int .u8 100] 5 (3, 4))) 61 #[.string ⟨#[102]⟩, .slice (some ⟨w.heap.size, 0, none⟩) 3 3, .int .i64 3, .bool false] [⟨[102], [111, 108, 100], 3, false⟩] (fun b => b = w.heap.size) 1 1 rfl (Nat.le_refl _) (by decide) (fun i hi => by
      match i, hi with
      | 0, _ => exact ⟨_, _, rfl, hs1, by simp [maxLen], rfl⟩) (fun b hb => by simp; omega)
    rw [World.size_alloc, ← hW1] at this
    have hsz : W1.heap.size = w.heap.size + 1 + 1 := by rw [hW1]; simp
    refine this.up fun b hb => ?_
    rcases hb with rfl | rfl <;> omega
  have HF := Lib.hid (from_any (w := W1) 100 (some ⟨w.heap.size + 1, 0, none⟩) 1 1 [⟨[102], [111, 108, 100], 3, false⟩] _ (Lib.hid rfl) (Lib.hid hs2) (Lib.hid fun b hb => hb) (Lib.hid (by simp)))
  have HB1 := Lib.hid hb1
  rw [← hW1]
  clear hb1 hs1 hs2 hW1
  refine HF.out.mono ?_
  rintro e w1 (⟨h1, -, -⟩ | ⟨-, d, rfl, h2, h3⟩)
  · exact absurd L0.out h1
  have HD1 : Hid (DiskAt w1 (btw W1.heap.size w1.heap.size) d Disk.ev0) := Lib.hid h2
  have HB2 := Lib.hid (HB1.out.trans (h3.mono HB1.out.size))
  have HLO : Hid (w.heap.size ≤ W1.heap.size) := Lib.hid HB1.out.size
  have HSZ := Lib.hid h3.size
  clear h2 h3 HF HB1
  have eL : ∀ args w, (callFunc 41 args).run Try.prog w = .ok (.enter 41 args) w := enters_of Try.func41 (by kernel_rfl) rfl
  have HE := Lib.hid (edit_any HD1 F0 S0 (by omega) ⟨#[102]⟩ (by decide) 41 #[] eL nob (fun b h => h.elim) Disk.evR (fun _ _ => True) (fun _ _ _ _ _ _ => trivial)
    (Lib.hid (by
      intro W G A m c o dB tB ho hg hout hm hown hng
      rw [show (⟨#[102]⟩ : ByteArray).data.toList = [102] from rfl] at hout hm hown ⊢
      rw [L1.out] at hm hown
      obtain ⟨A', c', he, hs⟩ := hown.slice
      simp only [Value.slice.injEq] at he
      obtain ⟨rfl, -, rfl⟩ := he
      refine (livesRun_any (Lib.hid (Disk.fine_ahead F0.out [102])) S1 (by omega) (by decide) (Lib.hid hout) A m c (by rw [hm]; rfl) _ (Lib.hid hs)).mono ?_
      rintro e w' ⟨h1, h2, h3⟩
      exact ⟨h1, _, nob, h2, trivial, fun b hb => hb.imp id (·.1), fun _ h => h.elim, h3.mono fun b hb => .inl hb⟩)) F1 S2 (by omega) (by decide))
  clear eL
  rw [show (⟨#[102]⟩ : ByteArray).data.toList = [102] from rfl] at HE
  go_wp2_with fail
  refine HE.out.mono ?_
  rintro e w2 ⟨he, G2, h4, h5, h6, -⟩
  rw [L2.out] at he
  subst he
  have HD2 := Lib.hid h4
  have HB3 : Hid (Below w.heap.size w w2) := Lib.hid (HB2.out.trans ((h6.below (B := W1.heap.size) HSZ.out fun b hb => hb.elim (·.1) fun h => h.elim).mono HLO.out))
  clear h4 h5 h6 HE
  have HRD := Lib.hid (read_any ⟨#[102]⟩ (by decide) HD2 F2)
  rw [show (⟨#[102]⟩ : ByteArray).data.toList = [102] from rfl, L3.out] at HRD
  go_wp2_with fail
  refine HRD.out.mono ?_
  rintro e w3 ⟨A, n, c, rfl, hn, hnc, hcm, hown, hb⟩
  obtain rfl : n = 2 := hn.out
  obtain ⟨A9, c9, he9, hsl⟩ := hown.slice
  simp only [Value.slice.injEq] at he9
  obtain ⟨rfl, -, rfl⟩ := he9
  have hcv := run_bytes_string (P := Try.prog) w3 32 5 9 Try.underlying32 Try.underlying5 Try.underlying9 _ A 2 c [110, 101] rfl hsl
  have HB4 := Lib.hid hb
  have HNM := Lib.hid (diskNames_any (Lib.hid (HD2.out.far hb)) F2)
  clear hown hb hsl hn HRD
  go_wp2_with fail
  refine HNM.out.mono ?_
  rintro e w4 ⟨A5, n5, c5, rfl, hn5, -, -, -, hb5⟩
  have HB5 := Lib.hid (HB3.out.trans ((HB4.out.trans (hb5.mono HB4.out.size)).mono HB3.out.size))
  obtain rfl : n5 = 1 := by rw [hn5.out, L4.out]
  clear hn5 hb5
  go_wp2_with fail
  go_ret
  exact ⟨rfl, HB5.out⟩
end
end Go.Proofs.Ytfommpbblpnljaa
