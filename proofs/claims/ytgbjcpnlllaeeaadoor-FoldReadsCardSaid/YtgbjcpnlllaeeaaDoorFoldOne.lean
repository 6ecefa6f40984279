/- What is shown, one byte of it read: the walk of fold.one. Condition: the table of letters lies as its initialiser lays it. -/
import Derived.Test.YtgbjcpnlllaeeaaDoorProg
import Derived.Test.YtgbjcpnlllaeeaaDoorFold
import Derived.Test.YtgbjcpnlllaeeaaDoorIndexByte
import Derived.WalkKit
import Derived.WalkSpells
import Derived.Deep.QuietTactic
import Derived.BigQuiet
import Derived.Lib.Hide
import Derived.Deep.DeepMust
namespace Go.Proofs.YtgbjcpnlllaeeaaDoor
open Go.RowKit

theorem idx_lib (l : List UInt8) (d : UInt8) : ∀ n, (match Fold.idxFrom n l d with | some i => (i : Int) | none => -1) = if Lib.indexByte l d = -1 then -1 else n + Lib.indexByte l d := by
  induction l with
  | nil => intro n; rfl
  | cons x r ih =>
    intro n
    have hge := Lib.indexByte_ge r d
    have e2 : Lib.indexByte (x :: r) d = if x == d then 0 else if Lib.indexByte r d == -1 then -1 else Lib.indexByte r d + 1 := rfl
    have e1 : Fold.idxFrom n (x :: r) d = if x = d then some n else Fold.idxFrom (n + 1) r d := rfl
    rw [e1, e2]
    by_cases h : x = d
    · subst h; simp
    · have h' : (x == d) = false := beq_eq_false_iff_ne.2 h
      rw [if_neg h, ih (n + 1), h']
      generalize Lib.indexByte r d = j at hge ⊢
      by_cases h1 : j = -1
      · subst h1; simp
      · have h1' : (j == -1) = false := beq_eq_false_iff_ne.2 h1
        rw [if_neg h1, h1']
        simp only [Bool.false_eq_true, if_false]
        rw [if_neg (by omega)]
        push_cast; omega
theorem idx_some' (d : UInt8) (i : Nat) (h : Fold.idxFrom 0 Fold.ltrs d = some i) : Lib.indexByte Fold.ltrs d = i := by
  have := idx_lib Fold.ltrs d 0
  rw [h] at this
  simp only at this
  split at this
  · omega
  · omega
theorem idx_none' (d : UInt8) (h : Fold.idxFrom 0 Fold.ltrs d = none) : Lib.indexByte Fold.ltrs d = -1 := by
  have := idx_lib Fold.ltrs d 0
  have hge := Lib.indexByte_ge Fold.ltrs d
  rw [h] at this
  simp only at this
  split at this
  · assumption
  · omega
theorem letters_at (w : World) (h : Ltrs w) (d : UInt8) : Calls Tryd.prog 48 #[.slice (some ⟨0, 0, none⟩) 7 7, .int .u8 d.toNat] w fun e w' => e = .returned (.int .i64 (Lib.indexByte Fold.ltrs d)) ∧ w' = w :=
  indexByte_any 0 0 7 7 Fold.ltrs d w rfl fun i hi => by
    have := h i hi
    rw [Nat.zero_add, this, Fold.ltr, List.getD_eq_getElem?_getD, List.getElem?_eq_getElem hi]
    rfl
theorem slice_letters (W : World) : (Instr.sliceAt 65 (.pointer (some ⟨0, 0, none⟩)) none none none).run Tryd.prog W = .ok (.slice (some ⟨0, 0, none⟩) 7 7) W := by kernel_rfl
theorem Ltrs.drewN {w : World} (h : Ltrs w) (n : Nat) : Ltrs (w.drewN n) := h

/-- What one answers. -/
def OneAns (l : List UInt8) (w : World) (e : Ending) (w' : World) : Prop := e = .returned (.tuple #[.int .u8 (Fold.one l).1.toNat, .int .i64 (Fold.one l).2]) ∧ ∃ m, w' = w.drewN m
theorem oneI {l : List UInt8} {w : World} {x : UInt8} {n : Nat} {v : Int} (h : Fold.one l = (x, n)) (hv : v = x.toNat) (m : Nat) : OneAns l w (.returned (.tuple #[.int .u8 v, .int .i64 n])) (w.drewN m) := by
  subst hv; unfold OneAns; rw [h]; exact ⟨rfl, m, rfl⟩
theorem oneAns {l : List UInt8} {w : World} {x : UInt8} {n : Nat} (h : Fold.one l = (x, n)) (m : Nat) : OneAns l w (.returned (.tuple #[.int .u8 x.toNat, .int .i64 n])) (w.drewN m) := by
  unfold OneAns; rw [h]; exact ⟨rfl, m, rfl⟩

set_option maxHeartbeats 1000000 in
theorem one_nil (A : Option Addr) (ca : Nat) (w : World) : Calls Tryd.prog 22 #[.slice A 0 ca] w fun e w' => OneAns [] w e w' := by
  go_enter Tryd.func22, Tryd.ntmps22
  go_wp2
  go_ret2
  exact oneAns (x := 0) (n := 0) rfl 0

section
variable (g o n ca : Nat) (w : World) (hnc : n ≤ ca) (hcm : ca ≤ 9223372036854775807)
include hnc hcm
omit hnc hcm in
set_option maxHeartbeats 1000000 in
theorem one_plain (c : UInt8) (r : List UInt8) (hn : n = r.length + 1) (h0 : w.cell? ⟨g, o, none⟩ = some (.int .u8 c.toNat)) (hc : c.toNat ≠ 92) :
    Calls Tryd.prog 22 #[.slice (some ⟨g, o, none⟩) n ca] w fun e w' => OneAns (c :: r) w e w' := by
  have h1 : ((c.toNat : Int) != 92) = true := by rw [bne_iff_ne]; omega
  have h1' : ((c.toNat : Int) == 92) = false := by rw [beq_eq_false_iff_ne]; omega
  have hn0 : ((n : Int) == 0) = false := by rw [beq_eq_false_iff_ne]; omega
  have hn1 : 0 < n := by omega
  have hone : Fold.one (c :: r) = if Fold.kind c = 0 then (c, 1) else (0, 0) := by
    show (if c.toNat ≠ 92 then _ else _) = _
    rw [if_pos hc]
  have HO := Lib.hid hone
  clear hone hc hn
  by_cases hk : Fold.kind c = 0
  · have HK := Lib.hid hk
    have hf := HO.out
    rw [if_pos hk] at hf
    have HF := Lib.hid hf
    clear hk hf HO
    go_enter Tryd.func22, Tryd.ntmps22
    go_wp2_with (go_at_call 47; refine (kind_any _ _).mono ?_; rw [HK.out]; rintro e w' ⟨rfl, rfl⟩)
    go_ret2
    exact oneAns HF.out 0
  · have hf := HO.out
    rw [if_neg hk] at hf
    have HF := Lib.hid hf
    have hk' : (((Fold.kind c : Nat) : Int) == 0) = false := by rw [beq_eq_false_iff_ne]; omega
    clear hk hf HO
    go_enter Tryd.func22, Tryd.ntmps22
    go_wp2_with (go_at_call 47; refine (kind_any _ _).mono ?_; rintro e w' ⟨rfl, rfl⟩)
    go_ret2
    exact oneAns HF.out 0
omit hcm in
set_option maxHeartbeats 1000000 in
theorem one_end (hn : n = 1) (h0 : w.cell? ⟨g, o, none⟩ = some (.int .u8 92)) :
    Calls Tryd.prog 22 #[.slice (some ⟨g, o, none⟩) n ca] w fun e w' => OneAns [92] w e w' := by
  subst hn
  go_enter Tryd.func22, Tryd.ntmps22
  go_wp2
  go_ret2
  exact oneAns (x := 0) (n := 0) rfl 0
omit hnc hcm in
set_option maxHeartbeats 1000000 in
theorem one_back (r : List UInt8) (hn : 1 < n) (h0 : w.cell? ⟨g, o, none⟩ = some (.int .u8 92)) (h1 : w.cell? ⟨g, o + 1, none⟩ = some (.int .u8 92)) :
    Calls Tryd.prog 22 #[.slice (some ⟨g, o, none⟩) n ca] w fun e w' => OneAns (92 :: 92 :: r) w e w' := by
  have hn0 : ((n : Int) == 0) = false := by rw [beq_eq_false_iff_ne]; omega
  have hn1 : 0 < n := by omega
  go_enter Tryd.func22, Tryd.ntmps22
  go_wp2
  go_ret2
  exact oneAns (x := 92) (n := 2) rfl 0
omit hnc hcm in
set_option maxHeartbeats 4000000 in
theorem one_letter (hL : Hid (Ltrs w)) (d : UInt8) (i : Nat) (r : List UInt8) (hi : Fold.idxFrom 0 Fold.ltrs d = some i) (hd : d.toNat ≠ 92) (hn : 1 < n) (h0 : w.cell? ⟨g, o, none⟩ = some (.int .u8 92)) (h1 : w.cell? ⟨g, o + 1, none⟩ = some (.int .u8 d.toNat)) :
    Calls Tryd.prog 22 #[.slice (some ⟨g, o, none⟩) n ca] w fun e w' => OneAns (92 :: d :: r) w e w' := by
  have hone : Fold.one (92 :: d :: r) = (UInt8.ofNat (7 + i), 2) := by
    show (if d.toNat = 92 then _ else _) = _
    rw [if_neg hd, hi]
  have hi6 := (Fold.idx_some d i hi).1
  have hlib := idx_some' d i hi
  have HLIB := Lib.hid hlib
  have HONE := Lib.hid hone
  have hn0 : ((n : Int) == 0) = false := by rw [beq_eq_false_iff_ne]; omega
  have hn1 : 0 < n := by omega
  have h92 : ((d.toNat : Int) == 92) = false := by rw [beq_eq_false_iff_ne]; omega
  clear hi hd hlib hone
  have hcall : Hid (∀ m : Nat, Calls Tryd.prog 48 #[.slice (some ⟨0, 0, none⟩) 7 7, .int .u8 d.toNat] (w.drewN m) fun e w'' => e = .returned (.int .i64 i) ∧ ∃ q, w'' = w.drewN q) := fun m =>
    (letters_at _ (hL.out.drewN _) d).mono fun e w'' ⟨h, h'⟩ => ⟨by rw [h, HLIB.out], m, h'⟩
  have hsl := slice_letters
  go_enter Tryd.func22, Tryd.ntmps22
  go_wp2
  go_quiet ((go_at_call 48; exact hcall.out _))
  go_wp2
  go_ret2
  exact oneI HONE.out (by rw [Fold.ofN _ (by omega)]; push_cast; rfl) _

section
variable (hL : Hid (Ltrs w)) (d : UInt8) (r : List UInt8) (hi : Fold.idxFrom 0 Fold.ltrs d = none) (hd : d.toNat ≠ 92) (hn : 1 < n) (h0 : w.cell? ⟨g, o, none⟩ = some (.int .u8 92)) (h1 : w.cell? ⟨g, o + 1, none⟩ = some (.int .u8 d.toNat))
include hL hi hd hn h0 h1
omit hnc hcm hn h0 h1 hd in
theorem hcall_none : Hid (∀ m : Nat, Calls Tryd.prog 48 #[.slice (some ⟨0, 0, none⟩) 7 7, .int .u8 d.toNat] (w.drewN m) fun e w'' => e = .returned (.int .i64 (-1)) ∧ ∃ q, w'' = w.drewN q) := fun m =>
    (letters_at _ (hL.out.drewN _) d).mono fun e w'' ⟨h, h'⟩ => ⟨by rw [h, idx_none' d hi], m, h'⟩
omit hnc hcm in
set_option maxHeartbeats 4000000 in
theorem one_short (hn4 : n < 4) (hr : r.length + 2 = n) :
    Calls Tryd.prog 22 #[.slice (some ⟨g, o, none⟩) n ca] w fun e w' => OneAns (92 :: d :: r) w e w' := by
  have hone : Fold.one (92 :: d :: r) = (0, 0) := by
    show (if d.toNat = 92 then _ else _) = _
    rw [if_neg hd, hi]
    match r, hr with
    | [], _ => rfl
    | [_], _ => rfl
    | _ :: _ :: _, hr => simp at hr; omega
  have HONE := Lib.hid hone
  have hn0 : ((n : Int) == 0) = false := by rw [beq_eq_false_iff_ne]; omega
  have hn1 : 0 < n := by omega
  have h92 : ((d.toNat : Int) == 92) = false := by rw [beq_eq_false_iff_ne]; omega
  have hcall := hcall_none w hL d hi
  clear hi hd hone hr
  have hsl := slice_letters
  go_enter Tryd.func22, Tryd.ntmps22
  go_wp2
  go_quiet ((go_at_call 48; exact hcall.out _))
  go_wp2
  go_ret2
  exact oneI HONE.out rfl _
omit hnc hcm hn in
set_option maxHeartbeats 4000000 in
theorem one_high (hn4 : 4 ≤ n) (h51 : 51 < d.toNat) :
    Calls Tryd.prog 22 #[.slice (some ⟨g, o, none⟩) n ca] w fun e w' => OneAns (92 :: d :: r) w e w' := by
  have hone : Fold.one (92 :: d :: r) = (0, 0) := by
    show (if d.toNat = 92 then _ else _) = _
    rw [if_neg hd, hi]
    match r with
    | [] => rfl
    | [_] => rfl
    | _ :: _ :: _ =>
      simp only
      rw [if_neg (by omega)]
  have HONE := Lib.hid hone
  have hn0 : ((n : Int) == 0) = false := by rw [beq_eq_false_iff_ne]; omega
  have hn1 : 0 < n := by omega
  have h92 : ((d.toNat : Int) == 92) = false := by rw [beq_eq_false_iff_ne]; omega
  have hcall := hcall_none w hL d hi
  clear hi hd hone
  have hsl := slice_letters
  go_enter Tryd.func22, Tryd.ntmps22
  go_wp2
  go_quiet ((go_at_call 48; exact hcall.out _))
  go_wp2
  go_ret2
  exact oneI HONE.out rfl _

/-- The number that digits are. -/
def octs (l : List UInt8) : Nat := l.foldl (fun a x => 8 * a + (x.toNat - 48)) 0
omit hnc hcm hL hi hd hn h0 h1 in
theorem octs_snoc (l : List UInt8) (x : UInt8) : octs (l ++ [x]) = 8 * octs l + (x.toNat - 48) := by simp [octs]

omit hn in
set_option maxRecDepth 100000 in
set_option maxHeartbeats 4000000 in
theorem one_octal (hn4 : 4 ≤ n) (h51 : d.toNat ≤ 51) (e f : UInt8) (r' : List UInt8) (hr : r = e :: f :: r') (h2 : w.cell? ⟨g, o + 2, none⟩ = some (.int .u8 e.toNat)) (h3 : w.cell? ⟨g, o + 3, none⟩ = some (.int .u8 f.toNat)) :
    Calls Tryd.prog 22 #[.slice (some ⟨g, o, none⟩) n ca] w fun e w' => OneAns (92 :: d :: r) w e w' := by
  have hone : Fold.one (92 :: d :: r) = if d.toNat ≤ 51 ∧ Fold.digit d ∧ Fold.digit e ∧ Fold.digit f then
            (let n := 64 * (d.toNat - 48) + 8 * (e.toNat - 48) + (f.toNat - 48); if Fold.kind (UInt8.ofNat n) = 2 then (UInt8.ofNat n, 4) else (0, 0)) else (0, 0) := by
    show (if d.toNat = 92 then _ else _) = _
    rw [if_neg hd, hi, hr]
  have HONE := Lib.hid hone
  have hn0 : ((n : Int) == 0) = false := by rw [beq_eq_false_iff_ne]; omega
  have hn1 : 0 < n := by omega
  have h92 : ((d.toNat : Int) == 92) = false := by rw [beq_eq_false_iff_ne]; omega
  have hcall := hcall_none w hL d hi
  have hcut : ∀ W : World, (Instr.sliceAt 22 (.slice (some ⟨g, o, none⟩) n ca) (some (.int .i64 1)) (some (.int .i64 4)) none).run Tryd.prog W = .ok (.slice (some ⟨g, o + 1, none⟩) 3 (ca - 1)) W := by
    intro W
    have := run_slice_both (P := Tryd.prog) W stBytes (some ⟨g, o, none⟩) n ca 1 4 (by omega) (by omega)
    rw [show ((1 : Nat) : Int) = 1 from rfl, show ((4 : Nat) : Int) = 4 from rfl] at this
    rw [this]
    have hne : ¬ ca = 1 := by omega
    simp [cutA, hne, Go.WideShapes.add_plain]
  have h51' : (d.toNat : Int) ≤ 51 := by omega
  have hca3 : 3 ≤ ca - 1 := by omega
  clear hi hd hone hr
  have hsl := slice_letters
  go_enter Tryd.func22, Tryd.ntmps22
  go_wp2
  go_quiet ((go_at_call 48; exact hcall.out _))
  go_wp2
  go_loopw [6, 50] (fun v i wr => (∃ q, wr = w.drewN q) ∧ ∃ (k a : Nat), k ≤ 3 ∧ i = .int .i64 k ∧ v = .int .i64 a ∧ a = octs ([d, e, f].take k) ∧ a ≤ 511 ∧ (k = 3 → a ≤ 255) ∧ ∀ x ∈ [d, e, f].take k, Fold.digit x = true) (fun _ i _ => 3 - (intOf i).toNat)
  case atStart => exact ⟨⟨_, rfl⟩, 0, 0, by omega, rfl, rfl, rfl, by omega, by omega, by simp⟩
  case round =>
    obtain ⟨⟨q, rfl⟩, k, a, hk, rfl, rfl, ha, ha5, ha2, hdig⟩ := hrel
    by_cases hlt : k < 3
    · have hkl : k < [d, e, f].length := by simpa using hlt
      obtain ⟨x, hx⟩ : ∃ x, x = [d, e, f][k] := ⟨_, rfl⟩
      have hcell : w.cell? ⟨g, o + 1 + k, none⟩ = some (.int .u8 x.toNat) := by
        have : k = 0 ∨ k = 1 ∨ k = 2 := by omega
        rcases this with rfl | rfl | rfl
        · rw [hx]; exact h1
        · rw [hx]; exact h2
        · rw [hx]; exact h3
      have htake : [d, e, f].take (k + 1) = [d, e, f].take k ++ [x] := by rw [List.take_succ_eq_append_getElem hkl, hx]
      have hmem : x ∈ [d, e, f] := by rw [hx]; exact List.getElem_mem hkl
      by_cases hg : Fold.digit x = true
      · have hg' : 48 ≤ x.toNat ∧ x.toNat ≤ 55 := by simpa [Fold.digit] using hg
        have hg1 : ¬ (x.toNat : Int) < 48 := by omega
        have hg2 : ¬ (55 : Int) < x.toNat := by omega
        have hg3 : (48 : Int) ≤ x.toNat := by omega
        have hg4 : (x.toNat : Int) ≤ 55 := by omega
        have hnew : 8 * a + (x.toNat - 48) = octs ([d, e, f].take (k + 1)) := by rw [htake, octs_snoc, ← ha]
        have hdig2 : ∀ y ∈ [d, e, f].take (k + 1), Fold.digit y = true := by
          rw [htake]; intro y hy
          rcases List.mem_append.1 hy with h | h
          · exact hdig y h
          · simp at h; rw [h]; exact hg
        have hbound : 8 * a + (x.toNat - 48) ≤ 511 ∧ (k + 1 = 3 → 8 * a + (x.toNat - 48) ≤ 255) := by
          have hdd : d.toNat - 48 ≤ 3 := by omega
          have : k = 0 ∨ k = 1 ∨ k = 2 := by omega
          have he : Fold.digit e = true → e.toNat ≤ 55 := by intro h; simp [Fold.digit] at h; omega
          rcases this with rfl | rfl | rfl
          · simp [octs] at ha; omega
          · have hd1 := hdig d (by simp)
            simp [octs] at ha; omega
          · have hd1 := hdig d (by simp)
            have he1 := he (hdig e (by simp))
            simp [octs] at ha; omega
        have HNEW := Lib.hid hnew
        have HD := Lib.hid hdig2
        have HBD := Lib.hid hbound
        clear hnew hdig2 hbound ha hdig htake hmem hx hg hg' ha2
        go_wp2
        go_roundw
        case rel => exact ⟨⟨q, rfl⟩, k + 1, 8 * a + (x.toNat - 48), by omega, by go_num, by congr 1; omega, HNEW.out, HBD.out.1, HBD.out.2, HD.out⟩
        case measure => simp [intOf]; omega
      · have hans : Fold.one (92 :: d :: r) = (0, 0) := by
          rw [HONE.out, if_neg]
          rintro ⟨_, g1, g2, g3⟩
          simp at hmem
          rcases hmem with rfl | rfl | rfl
          · exact hg g1
          · exact hg g2
          · exact hg g3
        have HANS := Lib.hid hans
        have hg' : x.toNat < 48 ∨ 55 < x.toNat := by
          simp [Fold.digit] at hg; omega
        clear hans hg htake hmem hx ha hdig ha2
        rcases hg' with hg' | hg'
        · have hg1 : (x.toNat : Int) < 48 := by omega
          clear hg'
          go_wp2
          go_ret2
          exact oneI HANS.out rfl _
        · have hg1 : ¬ (x.toNat : Int) < 48 := by omega
          have hg2 : (55 : Int) < x.toNat := by omega
          clear hg'
          go_wp2
          go_ret2
          exact oneI HANS.out rfl _
    · obtain rfl : k = 3 := by omega
      have h255 := ha2 rfl
      have hall : ∀ x ∈ [d, e, f], Fold.digit x = true := by simpa using hdig
      have hval : a = 64 * (d.toNat - 48) + 8 * (e.toNat - 48) + (f.toNat - 48) := by
        rw [ha]; simp [octs]; omega
      have hans : Fold.one (92 :: d :: r) = if Fold.kind (UInt8.ofNat a) = 2 then (UInt8.ofNat a, 4) else (0, 0) := by
        rw [HONE.out, if_pos ⟨by omega, hall d (by simp), hall e (by simp), hall f (by simp)⟩, ← hval]
      have hof := Fold.ofN a (by omega)
      have hkk : Hid (∀ W : World, Calls Tryd.prog 47 #[.int .u8 (a : Nat)] W fun e w' => e = .returned (.int .i64 (Fold.kind (UInt8.ofNat a) : Nat)) ∧ w' = W) := fun W => by
        have := kind_any (UInt8.ofNat a) W
        rw [hof] at this; exact this
      have HOF := Lib.hid hof
      clear ha hdig hall hval ha2 ha5
      by_cases hk2 : Fold.kind (UInt8.ofNat a) = 2
      · rw [if_pos hk2] at hans
        have HANS := Lib.hid hans
        rw [hk2] at hkk
        clear hans hk2 hof
        go_wp2_with (go_at_call 47; refine (hkk.out _).mono ?_; rintro e' w' ⟨rfl, rfl⟩)
        go_ret2
        exact oneI HANS.out (by rw [HOF.out]) _
      · rw [if_neg hk2] at hans
        have HANS := Lib.hid hans
        have hk2' : ((Fold.kind (UInt8.ofNat a) : Int) != 2) = true := by rw [bne_iff_ne]; omega
        obtain ⟨kd, hkd⟩ : ∃ kd, kd = Fold.kind (UInt8.ofNat a) := ⟨_, rfl⟩
        rw [← hkd] at hkk hk2'
        clear hans hk2 hof hkd
        go_wp2_with (go_at_call 47; refine (hkk.out _).mono ?_; rintro e' w' ⟨rfl, rfl⟩)
        go_ret2
        exact oneI HANS.out rfl _
end
end

/-- One byte read. -/
theorem one_any (A : Option Addr) (n ca : Nat) (l : List UInt8) (w : World) (hn : Hid (n = l.length)) (S : Blocks) (hl : SliceAt Rep.byte w S A ca l) (hL : Hid (Ltrs w)) :
    Calls Tryd.prog 22 #[.slice A n ca] w fun e w' => OneAns l w e w' := by
  have hlen := hl.len
  have hmax := hl.max
  match l, hn, hl, hlen with
  | [], hn, _, _ =>
    obtain rfl : n = 0 := hn.out
    exact one_nil A ca w
  | c :: r, hn, hl, hlen =>
    have hn' : n = r.length + 1 := hn.out
    obtain ⟨g, o, rfl, hS, h0⟩ := hl.byte (i := 0) (by simp)
    have hat : ∀ i (hi : i < (c :: r).length), w.cell? ⟨g, o + i, none⟩ = some (.int .u8 (c :: r)[i].toNat) := fun i hi => by
      obtain ⟨g', o', he, _, hc⟩ := hl.byte hi
      simp only [Option.some.injEq, Addr.mk.injEq] at he
      obtain ⟨rfl, rfl, _⟩ := he
      exact hc
    have h0' : w.cell? ⟨g, o, none⟩ = some (.int .u8 c.toNat) := hat 0 (by simp)
    rw [List.length_cons] at hlen
    by_cases hc : c.toNat ≠ 92
    · exact one_plain g o n ca w c r hn' h0' hc
    · have ec : c = 92 := by rw [← UInt8.toNat_inj]; simpa using hc
      subst ec
      match r, hn', hat, hlen with
      | [], hn', _, _ => exact one_end g o n ca w (by omega) hn' h0'
      | d :: r', hn', hat, hlen =>
        have h1 : w.cell? ⟨g, o + 1, none⟩ = some (.int .u8 d.toNat) := hat 1 (by simp)
        rw [List.length_cons] at hn' hlen
        by_cases hd : d.toNat = 92
        · have ed : d = 92 := by rw [← UInt8.toNat_inj]; simpa using hd
          subst ed
          exact one_back g o n ca w r' (by omega) h0' h1
        · cases hi : Fold.idxFrom 0 Fold.ltrs d with
          | some i => exact one_letter g o n ca w hL d i r' hi hd (by omega) h0' h1
          | none =>
            by_cases hn4 : n < 4
            · exact one_short g o n ca w hL d r' hi hd (by omega) h0' h1 hn4 (by omega)
            · by_cases h51 : 51 < d.toNat
              · exact one_high g o n ca w hL d r' hi hd h0' h1 (by omega) h51
              · match r', hn', hat with
                | [], hn', _ => simp at hn'; omega
                | [_], hn', _ => simp at hn'; omega
                | e :: f :: r'', hn', hat =>
                  exact one_octal g o n ca w (by omega) hmax hL d _ hi hd h0' h1 (by omega) (by omega) e f r'' rfl (hat 2 (by simp)) (hat 3 (by simp))
end Go.Proofs.YtgbjcpnlllaeeaaDoor
