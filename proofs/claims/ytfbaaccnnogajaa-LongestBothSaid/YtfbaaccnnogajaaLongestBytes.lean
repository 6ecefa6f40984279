/- The walk of the law LongestBytes. Conditions: room. -/
import Derived.Test.YtfbaaccnnogajaaProg
import Derived.Test.YtfbaaccnnogajaaLongestIs
import Derived.Test.YtfbaaccnnogajaaBytesPlain
import Derived.Test.YtfbaaccnnogajaaEqBytes
namespace Go.Proofs.Ytfbaaccnnogajaa
open Go.RowKit

theorem setI_ok (b : UInt8) : (setI b).ok := by
  have key : ∀ x : Fin 256, (Lit.int .u64 (oneC (UInt8.ofNat x)).c0).wf = true ∧ (Lit.int .u64 (oneC (UInt8.ofNat x)).c1).wf = true ∧ (Lit.int .u64 (oneC (UInt8.ofNat x)).c2).wf = true ∧ (Lit.int .u64 (oneC (UInt8.ofNat x)).c3).wf = true := by decide +kernel
  have h := key ⟨b.toNat, b.toNat_lt⟩
  simp only [UInt8.ofNat_toNat] at h
  exact ⟨rfl, h.1, h.2.1, h.2.2.1, h.2.2.2, rfl, rfl⟩
theorem doneI_ok : doneI.ok := ⟨rfl, rfl, rfl, rfl, rfl, rfl, rfl⟩
/-- New of a machine of the call's own. -/
theorem newOwn {w w' : World} {v : Value} {M : List Instr} (hb : Below w.heap.size w w') (hv : Own Rep.instr 64 w' w.heap.size nob v M) : ∃ A n c, v = .slice A n c ∧
    Hid (MShaped M → Calls Try.prog 11 #[.slice A n c] w' fun e w2 => ∃ gs F, e = .returned (.tuple #[.pointer (some ⟨gs, 0, none⟩), .int .i64 0]) ∧ LS w w2 w'.heap.size gs M F 0 []) ∧
    Hid (¬ MShaped M → Calls Try.prog 11 #[.slice A n c] w' fun e w2 => e = .returned (.tuple #[.pointer none, .int .i64 49]) ∧ Below w.heap.size w w2) := by
  obtain ⟨A', c', rfl, hs⟩ := hv.slice
  have hS : ∀ b, ((w.heap.size ≤ b ∧ b < w'.heap.size ∧ some b = (Value.slice A' M.length c').ownBlock) ∨ nob b) → b < w'.heap.size := fun b h => by
    rcases h with h | h
    · exact h.2.1
    · exact h.elim
  refine ⟨A', _, c', rfl, Lib.hid fun hM => (new_ok M A' _ c' w' _ hs hS rfl hM).mono ?_, Lib.hid fun hM => (new_no M A' _ c' w' _ hs hS rfl hM).mono ?_⟩
  · rintro e w2 ⟨gs, F, rfl, h1, h2⟩
    exact ⟨gs, F, rfl, h1, hb.trans (h2.mono hb.size), hb.size⟩
  · rintro e w2 ⟨rfl, h2⟩
    exact ⟨rfl, hb.trans (h2.mono hb.size)⟩
section
variable (A T : Option Addr) (nb cb n ct : Nat) (b text : List UInt8) (w : World)
set_option maxRecDepth 100000 in
set_option maxHeartbeats 1000000 in
theorem longestBytes_1 (at_ : Int) (h : 2147483647 < n ∨ 65536 < nb) : Calls Try.prog 7 #[.slice A nb cb, .slice T n ct, .int .i64 at_] w fun e w' => e = .returned (.bool true) ∧ Below w.heap.size w w' := by
  by_cases h1 : 2147483647 < n
  · clear h
    go_enter Try.func7, Try.ntmps7
    go_wp2_with fail
    refine (long_yes _ _ h1).mono ?_
    rintro e w' ⟨rfl, rfl⟩
    go_wp2_with fail
    go_ret
    exact ⟨rfl, Below.refl _ _⟩
  · have h2 : decide ((65536 : Int) < nb) = true := decide_eq_true (by omega)
    have h1' : n ≤ 2147483647 := by omega
    clear h h1
    go_enter Try.func7, Try.ntmps7
    go_wp2_with fail
    refine (long_no _ _ h1').mono ?_
    rintro e w' ⟨rfl, rfl⟩
    go_wp2_with fail
    go_ret
    exact ⟨rfl, Below.refl _ _⟩
variable (h1 : nb ≤ 65536) (h2 : n ≤ 2147483647)
include h1 h2
set_option maxRecDepth 100000 in
set_option maxHeartbeats 1000000 in
theorem longestBytes_2 (at_ : Int) (hv : Heavy (nb + 1) n) : Calls Try.prog 7 #[.slice A nb cb, .slice T n ct, .int .i64 at_] w fun e w' => e = .returned (.bool true) ∧ Below w.heap.size w w' := by
  have hh := fun W => heavy_yes (nb + 1) n W h2 hv
  rw [show (((nb + 1 : Nat)) : Int) = (nb : Int) + 1 by omega] at hh
  have HH := Lib.hid hh
  have h3 : decide ((65536 : Int) < nb) = false := decide_eq_false (by omega)
  clear hv hh
  go_enter Try.func7, Try.ntmps7
  go_wp2_with fail
  refine (long_no _ _ h2).mono ?_
  rintro e w' ⟨rfl, rfl⟩
  go_wp2_with fail
  refine (HH.out _).mono ?_
  rintro e w' ⟨rfl, rfl⟩
  go_wp2_with fail
  refine (works_any _).mono ?_
  rintro e w' ⟨rfl, hb⟩
  go_wp2_with fail
  go_ret
  exact ⟨rfl, hb⟩
variable (hv : Hid (¬ Heavy (nb + 1) n)) (hnb : Hid (nb = b.length)) (hbx : Hid (SliceAt Rep.byte w (under w.heap.size) A cb b)) (hnt : Hid (n = text.length)) (ht : Hid (SliceAt Rep.byte w (under w.heap.size) T ct text)) (hcb : nb ≤ cb) (hcb2 : cb ≤ 9223372036854775807)
include hv hnb hbx hnt ht hcb hcb2
set_option maxRecDepth 100000 in
set_option maxHeartbeats 4000000 in
theorem longestBytes_3 (at_ : Int) : Calls Try.prog 7 #[.slice A nb cb, .slice T n ct, .int .i64 at_] w fun e w' => e = .returned (.bool true) ∧ Below w.heap.size w w' := by
  have hh := fun W => heavy_no (nb + 1) n W h2 hv.out
  rw [show (((nb + 1 : Nat)) : Int) = (nb : Int) + 1 by omega] at hh
  have HH := Lib.hid hh
  have h3 : decide ((65536 : Int) < nb) = false := decide_eq_false (by omega)
  clear hh
  go_enter Try.func7, Try.ntmps7
  go_wp2_with fail
  refine (long_no _ _ h2).mono ?_
  rintro e w' ⟨rfl, rfl⟩
  go_wp2_with fail
  refine (HH.out _).mono ?_
  rintro e w' ⟨rfl, rfl⟩
  go_wp2_with fail
  go_loopg [7, 8] nb (fun k v iv wr => ∃ i : Nat, i ≤ nb ∧ iv = .int .i64 i ∧ k = nb - i ∧ Own Rep.instr 64 wr w.heap.size nob v ((b.take i).map setI) ∧ Below w.heap.size w wr)
  case atStart => exact ⟨0, Nat.zero_le _, rfl, rfl, Own.nil _ _ _ _, Below.refl _ _⟩
  case round =>
    obtain ⟨i, hi, rfl, rfl, hown, hbw⟩ := hrel
    by_cases hin : i < nb
    · have hil : i < b.length := by have := hnb.out; omega
      obtain ⟨gb, ob, rfl, hSb, hcell⟩ := (hbx.out.keep (fun _ h => h) (Same.of_below hbw (fun _ h => h))).byte hil
      have hone := fun W => one_any b[i] W
      obtain ⟨bn, hbn⟩ : ∃ bn : Nat, bn = b[i].toNat := ⟨_, rfl⟩
      rw [← hbn] at hcell hone
      have his : ∀ W, Rep.instr.is W nob [.int .i8 1, .int .u64 (oneC b[i]).c0, .int .u64 (oneC b[i]).c1, .int .u64 (oneC b[i]).c2, .int .u64 (oneC b[i]).c3, .int .i64 0, .int .i64 0] (setI b[i]) := fun W => Rep.instr_is.2 ⟨rfl, setI_ok _⟩
      obtain ⟨q0, hq0⟩ : ∃ q, q = (oneC b[i]).c0 := ⟨_, rfl⟩
      obtain ⟨q1, hq1⟩ : ∃ q, q = (oneC b[i]).c1 := ⟨_, rfl⟩
      obtain ⟨q2, hq2⟩ : ∃ q, q = (oneC b[i]).c2 := ⟨_, rfl⟩
      obtain ⟨q3, hq3⟩ : ∃ q, q = (oneC b[i]).c3 := ⟨_, rfl⟩
      rw [← hq0, ← hq1, ← hq2, ← hq3] at hone his
      have htk : (b.take (i + 1)).map setI = (b.take i).map setI ++ [setI b[i]] := by rw [List.take_succ_eq_append_getElem hil, List.map_append]; rfl
      have hlen : ((b.take i).map setI).length ≤ 65536 := by simp; omega
      obtain ⟨L, hL⟩ : ∃ L, L = (b.take i).map setI := ⟨_, rfl⟩
      rw [← hL] at hown htk hlen
      obtain ⟨Av, nv, cv, rfl, -, -, -⟩ := hown.form
      have HONE := Lib.hid hone
      have HIS := Lib.hid his
      have HTK := Lib.hid htk
      have HOWN := Lib.hid hown
      have HBW := Lib.hid hbw
      have hsz := hbw.size
      clear hone his htk hown hbw hL hq0 hq1 hq2 hq3 hbn
      go_wp2_with fail
      refine (HONE.out _).mono ?_
      rintro e w1 ⟨rfl, hb1⟩
      have hsz1 := hb1.size
      have HB1 := Lib.hid hb1
      clear hb1
      go_wp2_with (at_builtin; refine wpList_append_Own _ rfl (.tmp 35) (.tmp 42) 22 rfl Rep.instr w.heap.size 64 56 stInstrs nob _ L rfl ((HOWN.out.far HB1.out).alloc _) _ _ _ [setI b[i]] rfl (SliceAt.new1At Rep.instr _ _ _ (setI b[i]) _ (HIS.out _) rfl) nob (fun _ h => h.elim) (fun _ h => h) (fun _ _ h => Rep.instr_is.2 (Rep.instr_is.1 h)) (by simp; omega) (by simp; omega) (by simp; omega) ?_; intro v2 w2 hown2 hg2 hat2; have HOWN2 := Lib.hid hown2; have HG2 := Lib.hid hg2; clear hown2 hg2 hat2)
      go_roundg (nb - (i + 1))
      case measure => omega
      case rel =>
        refine ⟨i + 1, by omega, by go_num, rfl, by rw [HTK.out]; exact HOWN2.out, ?_⟩
        exact below_own ((HBW.out.trans (HB1.out.mono hsz)).alloc (by omega) _) ((HOWN.out.far HB1.out).alloc _) HG2.out (by simp; omega)
    · obtain rfl : i = nb := by omega
      have hbt : b.take i = b := List.take_of_length_le (by have := hnb.out; omega)
      rw [hbt] at hown
      have hM : (b.map setI) ++ [doneI] = bytesM b := rfl
      have hlen : (b.map setI).length ≤ 65536 := by simp; have := hnb.out; omega
      obtain ⟨L, hL⟩ : ∃ L, L = b.map setI := ⟨_, rfl⟩
      rw [← hL] at hown hM hlen
      obtain ⟨Av, nv, cv, rfl, -, -, -⟩ := hown.form
      have his : ∀ W, Rep.instr.is W nob [.int .i8 6, .int .u64 0, .int .u64 0, .int .u64 0, .int .u64 0, .int .i64 0, .int .i64 0] doneI := fun W => Rep.instr_is.2 ⟨rfl, doneI_ok⟩
      have HIS := Lib.hid his
      have HOWN := Lib.hid hown
      have HBW := Lib.hid hbw
      have HM := Lib.hid hM
      have hsz := hbw.size
      clear his hown hbw hL hM hbt
      go_wp2_with (at_builtin; refine wpList_append_Own _ rfl (.tmp 44) (.tmp 46) 22 rfl Rep.instr w.heap.size 64 56 stInstrs nob _ L rfl (HOWN.out.alloc _) _ _ _ [doneI] rfl (SliceAt.new1At Rep.instr _ _ _ doneI _ (HIS.out _) rfl) nob (fun _ h => h.elim) (fun _ h => h) (fun _ _ h => Rep.instr_is.2 (Rep.instr_is.1 h)) (by simp; omega) (by simp; omega) (by simp; omega) ?_; intro v2 w2 hown2 hg2 hat2; have hb2 : Below w.heap.size w w2 := below_own (HBW.out.alloc hsz _) (HOWN.out.alloc _) hg2 (by simp; omega); obtain ⟨A2, n2, c2, rfl, HN, -⟩ := newOwn hb2 hown2; clear hown2 hg2 hat2 hb2)
      have hsh : MShaped (L ++ [doneI]) := by rw [HM.out]; exact bytesM_shaped b (by have := hnb.out; omega)
      have HSH := Lib.hid hsh
      clear hsh
      refine (HN.out HSH.out).mono ?_
      rintro e w3 ⟨gs, F, rfl, hls⟩
      rw [HM.out] at hls
      have HSH2 : Hid (MShaped (bytesM b)) := Lib.hid (by rw [← HM.out]; exact HSH.out)
      have HTW := Lib.hid (ht.out.keep (fun _ h => h) (Same.of_below hls.b (fun _ h => h)))
      have HLS := Lib.hid hls
      have hl := light hv.out
      have hl1 : text.length ≤ 400 := by have := hnt.out; omega
      have hl2 : (bytesM b).length * ((text.length + 1) * (text.length + 1)) ≤ 1048576 := by rw [bytesM_len, ← hnt.out, ← hnb.out]; exact hl.2
      have HL2 := Lib.hid hl2
      clear hls hl hl2
      go_wp2_with fail
      refine (copyBytes' T n ct text w3 _ hnt.out HTW.out h2).mono ?_
      rintro e w4 ⟨T4, c4, rfl, HO4, HB4⟩
      go_wp2_with fail
      by_cases hneg : at_ < 0
      · refine (HLS.out.find_neg HSH2.out HB4.out at_ hneg).mono ?_
        rintro e w5 ⟨rfl, hls5, -⟩
        have hq5 := heap_alloc_new w5 (.cells #[.int .i64 0, .int .i64 0] 42)
        have HLS5 := Lib.hid (hls5.far ((Below.refl _ _).alloc (Nat.le_refl _) (.cells #[.int .i64 0, .int .i64 0] 42)))
        clear hls5 hq5
        go_wp2_with fail
        refine (works_any _).mono ?_
        rintro e w' ⟨rfl, hb⟩
        have HB := Lib.hid hb
        clear hb
        go_wp2_with fail
        go_ret
        exact ⟨rfl, HLS5.out.b.trans (HB.out.mono HLS5.out.b.size)⟩
      · obtain ⟨k, rfl⟩ : ∃ k : Nat, at_ = k := ⟨at_.toNat, by omega⟩
        have hneg' : decide ((k : Int) < 0) = false := decide_eq_false hneg
        clear hneg
        obtain ⟨r, hr⟩ : ∃ r, r = findAll (bytesM b) text k := ⟨_, rfl⟩
        have hf := HLS.out.find HSH2.out HB4.out HO4.out hl1 HL2.out k
        rw [← hr] at hf
        obtain ⟨xa, hxa⟩ : ∃ xa, xa = spanA r.1 := ⟨_, rfl⟩
        obtain ⟨xb, hxb⟩ : ∃ xb, xb = spanB r.1 := ⟨_, rfl⟩
        obtain ⟨ok, hok⟩ : ∃ ok, ok = r.1.isSome := ⟨_, rfl⟩
        rw [← hxa, ← hxb, ← hok] at hf
        have HR := Lib.hid hr
        have HXA := Lib.hid hxa
        have HXB := Lib.hid hxb
        have HOK := Lib.hid hok
        clear hr hxa hxb hok
        refine hf.mono ?_
        rintro e w5 ⟨rfl, F5, E5, hls5, -⟩
        have HQ5 := Lib.hid (heap_alloc_new w5 (.cells #[.int .i64 xa, .int .i64 xb] 42))
        have HLS5 := Lib.hid (hls5.far ((Below.refl _ _).alloc (Nat.le_refl _) (.cells #[.int .i64 xa, .int .i64 xb] 42)))
        clear hls5 hf
        go_wp2_with fail
        go_loopg [13] (n + 1 - k) (fun gk pv wr => ∃ p : Nat, pv = .int .i64 p ∧ k ≤ p ∧ gk = n + 1 - p ∧ Below w.heap.size w wr ∧ wr.heap[w5.heap.size]? = some (.cells #[.int .i64 xa, .int .i64 xb] 42 (0, 0)) ∧ Hid (findAt (bytesM b) text (text.length + 1 - p) p = r.1))
        case atStart => exact ⟨k, rfl, Nat.le_refl _, rfl, HLS5.out.b, HQ5.out, Lib.hid (by rw [HR.out, findAll_fst])⟩
        case round =>
          obtain ⟨p, rfl, hkp, rfl, hbw6, hq6, hg6⟩ := hrel
          have e0 : wr.cell? ⟨w5.heap.size, 0, none⟩ = some (.int .i64 xa) := (cell_of_row wr w5.heap.size 0 _ _ _ hq6).trans rfl
          have e1 : wr.cell? ⟨w5.heap.size, 1, none⟩ = some (.int .i64 xb) := (cell_of_row wr w5.heap.size 1 _ _ _ hq6).trans rfl
          have HQ6 := Lib.hid hq6
          have HBW6 := Lib.hid hbw6
          have htc : n ≤ ct := by rw [hnt.out]; exact ht.out.len
          have htc2 := ht.out.max
          clear hq6 hbw6
          by_cases hp : p + i ≤ n
          · have hT := ht.out.keep (fun _ h => h) (Same.of_below HBW6.out (fun _ h => h))
            have hB := hbx.out.keep (fun _ h => h) (Same.of_below HBW6.out (fun _ h => h))
            have heq := eqBytes (cutA T ct p 1) A (ct - p) cb ((text.take (p + i)).drop p) b wr _ _ (hT.cutA (i := p) (j := p + i) (by omega) (by have := hnt.out; omega) rfl) hB
            have hlen2 : ((text.take (p + i)).drop p).length = i := by simp; have := hnt.out; omega
            rw [hlen2, ← hnb.out] at heq
            have hrun := run_slice_both wr stBytes T n ct p (p + i) (by omega) (by omega)
            rw [show ((p + i : Nat) : Int) = (p : Int) + i by omega, Nat.add_sub_cancel_left] at hrun
            have hpi := prefix_iff b text p
            rw [← hnb.out] at hpi
            have hst := findAt_bytes_step b text (n - p) p (by have := hnt.out; omega)
            rw [show n - p + 1 = text.length + 1 - p by have := hnt.out; omega, hg6.out, ← hnb.out] at hst
            by_cases hpre : b <+: text.drop p
            · rw [decide_eq_true (hpi.1 hpre)] at heq
              rw [if_pos hpre] at hst
              obtain rfl : ok = true := by rw [HOK.out, hst]; rfl
              obtain rfl : xa = p := by rw [HXA.out, hst]; rfl
              obtain rfl : xb = (p : Int) + i := by rw [HXB.out, hst]; show ((p + i : Nat) : Int) = _; omega
              have HEQ := Lib.hid heq
              clear heq hst hpre hpi hT hB hlen2
              go_wp2_with fail
              refine HEQ.out.mono ?_
              rintro e w' ⟨rfl, nd, rfl⟩
              go_wp2_with fail
              refine (works_any _).mono ?_
              rintro e w' ⟨rfl, hb⟩
              have hb' : Below wr.heap.size wr w' := ⟨hb.os, hb.tape, hb.output, hb.size, hb.block⟩
              have HB := Lib.hid hb'
              clear hb hb'
              go_wp2_with fail
              go_ret
              exact ⟨rfl, HBW6.out.trans (HB.out.mono HBW6.out.size)⟩
            · rw [decide_eq_false (fun h => hpre (hpi.2 h))] at heq
              rw [if_neg hpre] at hst
              have HEQ := Lib.hid heq
              have HST := Lib.hid hst
              clear heq hst hpre hpi hT hB hlen2
              go_wp2_with fail
              refine HEQ.out.mono ?_
              rintro e w' ⟨rfl, nd, rfl⟩
              go_wp2_with fail
              go_roundg (n + 1 - (p + 1))
              case measure => omega
              case rel => exact ⟨p + 1, by go_num, by omega, rfl, HBW6.out.trans ⟨rfl, rfl, rfl, Nat.le_refl _, fun _ _ => rfl⟩, HQ6.out, Lib.hid (by rw [show text.length + 1 - (p + 1) = n - p by have := hnt.out; omega]; exact HST.out.symm)⟩
          · have hst : r.1 = none := by
              rw [← hg6.out]
              by_cases hpt : p ≤ text.length + 1
              · exact findAt_bytes_end b text _ p (by omega) (by have := hnt.out; have := hnb.out; omega)
              · rw [show text.length + 1 - p = 0 by omega]; rfl
            obtain rfl : ok = false := by rw [HOK.out, hst]; rfl
            obtain rfl : xa = 0 := by rw [HXA.out, hst]; rfl
            obtain rfl : xb = 0 := by rw [HXB.out, hst]; rfl
            clear hst
            go_wp2_with fail
            refine (works_any _).mono ?_
            rintro e w' ⟨rfl, hb⟩
            have HB := Lib.hid hb
            clear hb
            go_wp2_with fail
            go_ret
            exact ⟨rfl, HBW6.out.trans (HB.out.mono HBW6.out.size)⟩
end
end Go.Proofs.Ytfbaaccnnogajaa
