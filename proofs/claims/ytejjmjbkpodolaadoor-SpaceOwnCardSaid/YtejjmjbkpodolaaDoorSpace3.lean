/- The program's own space, third part: New, Do, First, Cut. Condition: room. -/
import Derived.Test.YtejjmjbkpodolaaDoorDeeds
namespace Go.Proofs.YtejjmjbkpodolaaDoor
open Go.RowKit Go.ChangeShapes Go.WideShapes Go.Deep

set_option maxRecDepth 100000 in
theorem new_ok (w : World) (m : Nat) (hm : m ≤ 1048576) : Calls Tryd.prog 6 #[.int .i64 m] w fun e w' => ∃ g, e = .returned (.tuple #[.pointer (some ⟨g, 0, none⟩), .int .i64 0]) ∧ w.heap.size ≤ g ∧ Hid (SpX kP 68 w' g nob m [] []) ∧ Hid (Below w.heap.size w w') := by
  have d1 : decide ((m : Int) < 0) = false := decide_eq_false (by omega)
  have d2 : decide ((1048576 : Int) < (m : Int)) = false := decide_eq_false (by omega)
  go_enter Tryd.func6, Tryd.ntmps6
  go_wp2_with fail
  go_ret2
  refine ⟨w.heap.size, rfl, Nat.le_refl _, Lib.hid ⟨none, 0, 0, none, 0, 0, heap_alloc_new _ _, SliceAt.nil _ _ _, SliceAt.nil _ _ _, rfl, rfl, Nat.zero_le _, Nat.zero_le _, hm, fun _ h => h.elim⟩, Lib.hid ((Below.refl _ _).alloc (Nat.le_refl _) _)⟩
set_option maxRecDepth 100000 in
theorem new_no (w : World) (m : Int) (hm : m < 0 ∨ 1048576 < m) : Calls Tryd.prog 6 #[.int .i64 m] w fun e w' => e = .returned (.tuple #[.pointer none, .int .i64 1]) ∧ w = w' := by
  rcases hm with hm | hm
  · have d1 : decide (m < 0) = true := decide_eq_true hm
    go_enter Tryd.func6, Tryd.ntmps6
    go_wp2_with fail
    go_ret2
    exact ⟨rfl, rfl⟩
  · have d1 : decide (m < 0) = false := decide_eq_false (by omega)
    have d2 : decide ((1048576 : Int) < m) = true := decide_eq_true hm
    go_enter Tryd.func6, Tryd.ntmps6
    go_wp2_with fail
    go_ret2
    exact ⟨rfl, rfl⟩
section
variable (w : World) (g m n1 c1 n2 c2 : Nat) (S : Blocks) (A1 A2 : Option Addr) (p h : List UInt8)
/-- Do, where the name is on the list. -/
theorem do_in (x : UInt8) (f : FuncId) (i : Nat) (R : Space.R) (s : Hid (Sp w g S m A1 n1 c1 A2 n2 c2 p h)) (hf : Instr.findNow (.int .u8) (.int .u8 x.toNat) deedL.toList 0 = some (some (i, .func (.func f) #[] #[])))
    (eg : ∀ args W, (callFunc f args).run Tryd.prog W = .ok (.enter f args) W) (hc : Hid (∀ w1, Below w.heap.size w w1 → Calls Tryd.prog f #[.pointer (some ⟨g, 0, none⟩)] w1 (DoPost kP 68 w1 g S m R))) :
    Calls Tryd.prog 17 #[.pointer (some ⟨g, 0, none⟩), .int .u8 x.toNat] w (DoPost kP 68 w g S m R) := by
  have hl := fun (W : World) (b : Nat) (hb : W.heap[b]? = some (.map deedL 5)) => run_look_in (P := Tryd.prog) Tryd.underlying76 Tryd.underlying5 hb hf
  have HL := Lib.hid hl
  clear hl hf
  go_enter Tryd.func17, Tryd.ntmps17
  go_wp2_with fail
  refine (none_no w g m n1 c1 n2 c2 S A1 A2 p h s).mono ?_
  rintro e w1 ⟨rfl, rfl⟩
  go_wp2_with fail
  refine (deeds_any w).mono ?_
  rintro e w1 ⟨rfl, hmap, hb⟩
  have HB := Lib.hid hb
  have hrun := HL.out w1 _ hmap
  clear hmap hb
  go_wp2_with fail
  refine (hc.out w1 HB.out).mono ?_
  rintro e w2 ⟨rfl, hr⟩
  have HR := Lib.hid hr
  clear hr
  obtain ⟨q, hq⟩ : ∃ q, q = R.1 := ⟨_, rfl⟩
  have HQ := Lib.hid hq
  rw [← hq]
  clear hq
  go_wp2_with fail
  go_ret
  exact DoPost.from_ HB.out ⟨by rw [HQ.out]; rfl, HR.out⟩
theorem find_out {k : Int} (h1 : k ≠ 103) (h2 : k ≠ 71) (h3 : k ≠ 104) (h4 : k ≠ 72) (h5 : k ≠ 120) : Instr.findNow (.int .u8) (.int .u8 k) deedL.toList 0 = some none := by
  have e1 : (k == 103) = false := by simpa using h1
  have e2 : (k == 71) = false := by simpa using h2
  have e3 : (k == 104) = false := by simpa using h3
  have e4 : (k == 72) = false := by simpa using h4
  have e5 : (k == 120) = false := by simpa using h5
  simp [deedL, Instr.findNow, Instr.sameNow, e1, e2, e3, e4, e5]
theorem do_any (x : UInt8) (s : Hid (Sp w g S m A1 n1 c1 A2 n2 c2 p h)) :
    Calls Tryd.prog 17 #[.pointer (some ⟨g, 0, none⟩), .int .u8 x.toNat] w (DoPost kP 68 w g S m (Space.doR m p h x)) := by
  have HS : Hid (∀ w1, Below w.heap.size w w1 → Sp w1 g S m A1 n1 c1 A2 n2 c2 p h) := Lib.hid fun w1 hb => s.out.far hb
  unfold Space.doR
  split
  · subst x
    exact do_in w g m n1 c1 n2 c2 S A1 A2 p h 103 _ 0 _ s rfl (fun _ _ => by kernel_rfl) (Lib.hid fun w1 hb => get_any w1 g m n1 c1 n2 c2 S A1 A2 p h (Lib.hid (HS.out w1 hb)))
  split
  · subst x
    exact do_in w g m n1 c1 n2 c2 S A1 A2 p h 71 _ 1 _ s rfl (fun _ _ => by kernel_rfl) (Lib.hid fun w1 hb => getMore_any w1 g m n1 c1 n2 c2 S A1 A2 p h (Lib.hid (HS.out w1 hb)))
  split
  · subst x
    exact do_in w g m n1 c1 n2 c2 S A1 A2 p h 104 _ 2 _ s rfl (fun _ _ => by kernel_rfl) (Lib.hid fun w1 hb => keep_any w1 g m n1 c1 n2 c2 S A1 A2 p h (Lib.hid (HS.out w1 hb)))
  split
  · subst x
    exact do_in w g m n1 c1 n2 c2 S A1 A2 p h 72 _ 3 _ s rfl (fun _ _ => by kernel_rfl) (Lib.hid fun w1 hb => keepMore_any w1 g m n1 c1 n2 c2 S A1 A2 p h (Lib.hid (HS.out w1 hb)))
  split
  · subst x
    exact do_in w g m n1 c1 n2 c2 S A1 A2 p h 120 _ 4 _ s rfl (fun _ _ => by kernel_rfl) (Lib.hid fun w1 hb => swap_any w1 g m n1 c1 n2 c2 S A1 A2 p h (Lib.hid (HS.out w1 hb)))
  rename_i e1 e2 e3 e4 e5
  have hne : ∀ y : UInt8, x ≠ y → (x.toNat : Int) ≠ (y.toNat : Int) := fun y hy h => hy (UInt8.toNat_inj.1 (Int.ofNat_inj.1 h))
  have hf : Instr.findNow (.int .u8) (.int .u8 x.toNat) deedL.toList 0 = some none := find_out (hne _ e1) (hne _ e2) (hne _ e3) (hne _ e4) (hne _ e5)
  have hz : ∀ W : World, (zeroValue 74).run Tryd.prog W = .ok .nilFunc W := fun W => by kernel_rfl
  have hl := fun (W : World) (b : Nat) (hb : W.heap[b]? = some (.map deedL 5)) => run_look_out (P := Tryd.prog) Tryd.underlying76 Tryd.underlying5 hb hf (hz W)
  have HL := Lib.hid hl
  clear hl hf hz hne e1 e2 e3 e4 e5
  go_enter Tryd.func17, Tryd.ntmps17
  go_wp2_with fail
  refine (none_no w g m n1 c1 n2 c2 S A1 A2 p h s).mono ?_
  rintro e w1 ⟨rfl, rfl⟩
  go_wp2_with fail
  refine (deeds_any w).mono ?_
  rintro e w1 ⟨rfl, hmap, hb⟩
  have HB := Lib.hid hb
  have hrun := HL.out w1 _ hmap
  clear hmap hb
  go_wp2_with fail
  go_ret
  exact DoPost.same ⟨_, _, _, _, _, _, s.out⟩ rfl HB.out
set_option maxRecDepth 100000 in
theorem first_any (s : Hid (Sp w g S m A1 n1 c1 A2 n2 c2 p h)) : Calls Tryd.prog 11 #[.pointer (some ⟨g, 0, none⟩)] w fun e w' => ∃ A n c, e = .returned (.tuple #[.slice A n c, .bool (decide ((10 : UInt8) ∈ p))]) ∧ n ≤ c ∧ c ≤ 9223372036854775807 ∧ Hid (n = (Space.firstR p).length) ∧ Hid (Own Rep.byte 5 w' w.heap.size nob (.slice A n c) (Space.firstR p)) ∧ Hid (Below w.heap.size w w') := by
  have kc := fun (w : World) (C : Array Value) (n c : Nat) => Lib.run_convert_bytes_const (P := Tryd.prog) w 55 5 C n c Tryd.underlying55 Tryd.underlying5
  obtain ⟨h0, h1, h2, h3, f0, f1⟩ := s.out.cellsP
  have hnn := s.out.le
  go_enter Tryd.func11, Tryd.ntmps11
  go_wp2_with fail
  refine (none_no w g m n1 c1 n2 c2 S A1 A2 p h s).mono ?_
  rintro e w1 ⟨rfl, rfl⟩
  go_wp2_with fail
  obtain ⟨W, hW⟩ : ∃ W, W = w.alloc (.cells #[.int .u8 10] 5 (1, 2)) := ⟨_, rfl⟩
  have hbw : Below w.heap.size w W := by rw [hW]; exact (Below.refl _ _).alloc (Nat.le_refl _) _
  have hcell : W.cell? ⟨w.heap.size, 0, none⟩ = some (.int .u8 10) := by rw [hW]; exact cell_of_row _ _ 0 _ _ (1, 2) (heap_alloc_new _ _)
  rw [← hW]
  have s1 := s.out.far hbw
  have HB := Lib.hid hbw
  have HS1 := Lib.hid s1
  clear hW hbw s1 h0 h1 h2 h3 f0 f1 kc
  by_cases hin : (10 : UInt8) ∈ p
  · obtain ⟨k, hk⟩ : ∃ k, k = (Space.firstR p).length := ⟨_, rfl⟩
    have HK := Lib.hid hk
    have HIN := Lib.hid hin
    have hkn : k + 1 ≤ n1 := by have h1 := Space.cut_parts hin; have h2 := congrArg List.length h1; rw [← s.out.hp, List.length_append, ← hk, List.length_cons] at h2; omega
    clear hk hin
    refine (cut10_yes A1 n1 c1 w.heap.size 1 p W S k (Lib.hid s.out.hp) (Lib.hid HS1.out.tp) hcell (by omega) HIN HK).mono ?_
    rintro e w2 ⟨rfl, hb2⟩
    have HB2 := Lib.hid hb2
    clear hb2 hcell
    go_wp2_with fail
    refine (cloneB A1 k c1 (Space.firstR p) w2 S HK.out ?_ (by omega)).mono ?_
    · have h1 := (HS1.out.far HB2.out).tp.cutTo (j := k) (by rw [← s.out.hp]; omega)
      have h2 : p.take k = Space.firstR p := by rw [HK.out]; exact Space.take_first HIN.out
      rw [h2] at h1; exact h1
    rintro e w3 ⟨A', c', rfl, k1, k2, HO, HB3⟩
    go_wp2_with fail
    go_ret2
    rw [decide_eq_true HIN.out]
    exact ⟨A', k, c', rfl, k1, k2, HK, Lib.hid (HO.out.low (Nat.le_trans HB.out.size HB2.out.size)), Lib.hid (bfar HB.out (bfar HB2.out HB3.out))⟩
  · have HIN := Lib.hid hin
    have HK : Hid (Space.firstR p = p) := Lib.hid (Space.first_all hin)
    clear hin
    refine (cut10_no A1 n1 c1 w.heap.size 1 p W S (Lib.hid s.out.hp) (Lib.hid HS1.out.tp) hcell (by omega) HIN).mono ?_
    rintro e w2 ⟨rfl, hb2⟩
    have HB2 := Lib.hid hb2
    clear hb2 hcell
    go_wp2_with fail
    refine (cloneB A1 n1 c1 p w2 S s.out.hp (HS1.out.far HB2.out).tp (by omega)).mono ?_
    rintro e w3 ⟨A', c', rfl, k1, k2, HO, HB3⟩
    go_wp2_with fail
    go_ret2
    rw [HK.out, decide_eq_false HIN.out]
    exact ⟨A', n1, c', rfl, k1, k2, Lib.hid s.out.hp, Lib.hid (HO.out.low (Nat.le_trans HB.out.size HB2.out.size)), Lib.hid (bfar HB.out (bfar HB2.out HB3.out))⟩
set_option maxRecDepth 100000 in
theorem cut_any (s : Hid (Sp w g S m A1 n1 c1 A2 n2 c2 p h)) : Calls Tryd.prog 18 #[.pointer (some ⟨g, 0, none⟩)] w fun e w' => e = .returned (.bool (decide ((10 : UInt8) ∈ p))) ∧ Hid (SpX kP 68 w' g S m (Space.cutR p) h) ∧ Hid (Only (fun b => b = g) w w') := by
  have kc := fun (w : World) (C : Array Value) (n c : Nat) => Lib.run_convert_bytes_const (P := Tryd.prog) w 55 5 C n c Tryd.underlying55 Tryd.underlying5
  obtain ⟨h0, h1, h2, h3, f0, f1⟩ := s.out.cellsP
  have hnn := s.out.le
  go_enter Tryd.func18, Tryd.ntmps18
  go_wp2_with fail
  refine (none_no w g m n1 c1 n2 c2 S A1 A2 p h s).mono ?_
  rintro e w1 ⟨rfl, rfl⟩
  go_wp2_with fail
  obtain ⟨W, hW⟩ : ∃ W, W = w.alloc (.cells #[.int .u8 10] 5 (1, 2)) := ⟨_, rfl⟩
  have hbw : Below w.heap.size w W := by rw [hW]; exact (Below.refl _ _).alloc (Nat.le_refl _) _
  have hcell : W.cell? ⟨w.heap.size, 0, none⟩ = some (.int .u8 10) := by rw [hW]; exact cell_of_row _ _ 0 _ _ (1, 2) (heap_alloc_new _ _)
  rw [← hW]
  have s1 := s.out.far hbw
  have HB := Lib.hid hbw
  have HS1 := Lib.hid s1
  clear hW hbw s1 h0 h1 h2 h3 f0 f1 kc
  by_cases hin : (10 : UInt8) ∈ p
  · obtain ⟨k, hk⟩ : ∃ k, k = (Space.firstR p).length := ⟨_, rfl⟩
    have HK := Lib.hid hk
    have HIN := Lib.hid hin
    have hkn : k + 1 ≤ n1 := by have h1 := Space.cut_parts hin; have h2 := congrArg List.length h1; rw [← s.out.hp, List.length_append, ← hk, List.length_cons] at h2; omega
    have hcr : p.drop (k + 1) = Space.cutR p := by rw [hk]; exact Space.drop_first hin
    have HCR := Lib.hid hcr
    clear hk hin hcr
    refine (cut10_yes A1 n1 c1 w.heap.size 1 p W S k (Lib.hid s.out.hp) (Lib.hid HS1.out.tp) hcell (by omega) HIN HK).mono ?_
    rintro e w2 ⟨rfl, hb2⟩
    have HB2 := Lib.hid hb2
    have s2 := HS1.out.far hb2
    have HS2 := Lib.hid s2
    obtain ⟨r0, r1, r2, r3, r4, r5⟩ := s2.cellsP
    clear hb2 hcell s2
    go_wp2_with fail
    go_ret
    have h5 := HS2.out.tp.cutFromA (i := k + 1) (s := 1) (by rw [← s.out.hp]; omega) rfl
    rw [HCR.out] at h5
    rw [decide_eq_true HIN.out]
    refine ⟨rfl, Lib.hid ⟨_, _, _, _, _, _, HS2.out.setP0 (fun _ h => h) HS2.out.hS h5 ?_ ?_⟩, Lib.hid (only_setG (bfar HB.out HB2.out))⟩
    · rw [← HCR.out, List.length_drop, s.out.hp]
    · have := s.out.lp; omega
  · have HIN := Lib.hid hin
    have HK : Hid (Space.cutR p = p) := Lib.hid (if_neg hin)
    clear hin
    refine (cut10_no A1 n1 c1 w.heap.size 1 p W S (Lib.hid s.out.hp) (Lib.hid HS1.out.tp) hcell (by omega) HIN).mono ?_
    rintro e w2 ⟨rfl, hb2⟩
    have HB2 := Lib.hid hb2
    clear hb2 hcell
    go_wp2_with fail
    go_ret
    rw [HK.out, decide_eq_false HIN.out]
    exact ⟨rfl, Lib.hid ⟨_, _, _, _, _, _, HS1.out.far HB2.out⟩, Lib.hid (Only.of_below (bfar HB.out HB2.out) _)⟩
end
end Go.Proofs.YtejjmjbkpodolaaDoor
