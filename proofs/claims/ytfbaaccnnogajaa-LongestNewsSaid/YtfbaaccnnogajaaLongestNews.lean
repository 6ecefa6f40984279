/- The walk of the law LongestNews. Conditions: room. -/
import Derived.Test.YtfbaaccnnogajaaProg
import Derived.Test.YtfbaaccnnogajaaLS
import Derived.Test.YtfbaaccnnogajaaLongestIs
import Derived.Test.YtfbaaccnnogajaaWideInstrs
import Derived.Test.YtfbaaccnnogajaaEqInstrs
import Derived.Test.YtfbaaccnnogajaaZero
namespace Go.Proofs.Ytfbaaccnnogajaa
open Go.RowKit

theorem below_drewN (w : World) (q : Nat) : Below w.heap.size w (w.drewN q) := ⟨rfl, rfl, rfl, Nat.le_refl _, fun _ _ => rfl⟩
theorem eqInstrs_same (A B : Option Addr) (n c d : Nat) (M : List Instr) (w : World) (S S' : Blocks) (hn : n = M.length) (hx : SliceAt Rep.instr w S A c M) (hy : SliceAt Rep.instr w S' B d M) :
    Calls Try.prog 13 #[.slice A n c, .slice B n d] w fun e w' => e = .returned (.bool true) ∧ Below w.heap.size w w' := by
  subst hn
  refine (eqInstrs A B c d M M w S S' hx hy).mono ?_
  rintro e w' ⟨rfl, q, rfl⟩
  exact ⟨by rw [decide_eq_true rfl], below_drewN _ q⟩
abbrev zspan : Obj := .cells #[.int .i64 0, .int .i64 0] 42
theorem steps_nil' (w : World) : Calls Try.prog 18 #[.pointer none] w fun e w' => e = .returned (.int .i64 0) ∧ w = w' := (steps_nil w).mono fun _ _ ⟨a, b⟩ => ⟨a, b.symm⟩
theorem steps_any' (B gs : Nat) (M : List Instr) (F : Blocks) (steps : Nat) (E : List Bool) (w : World) (hs : Srch w B gs M F steps E) : Calls Try.prog 18 #[.pointer (some ⟨gs, 0, none⟩)] w fun e w' => e = .returned (.int .i64 steps) ∧ w = w' := (steps_any B gs M F steps E w hs).mono fun _ _ ⟨a, b⟩ => ⟨a, b.symm⟩
/-- What is known between the calls behind the zero search. -/
structure NS (w v wr : World) (gz : Nat) (bs : List Nat) : Prop where
  b : Below w.heap.size w wr
  a : Below v.heap.size v wr
  z : wr.heap[gz]? = some zsearch
  s : ∀ b ∈ bs, wr.heap[b]? = some zspan
section
variable {w v wr w' : World} {gz : Nat} {bs : List Nat}
theorem lt_of_get {w : World} {g : Nat} {o : Obj} (h : w.heap[g]? = some o) : g < w.heap.size := (Array.getElem?_eq_some_iff.1 h).1
theorem NS.next (h : NS w v wr gz bs) (hb : Below wr.heap.size wr w') : NS w v w' gz bs :=
  ⟨h.b.trans (hb.mono h.b.size), h.a.trans (hb.mono h.a.size), (hb.block _ (lt_of_get h.z)).trans h.z, fun b hm => (hb.block _ (lt_of_get (h.s b hm))).trans (h.s b hm)⟩
theorem NS.alloc (h : NS w v wr gz bs) (o : Obj) : NS w v (wr.alloc o) gz bs := h.next ((Below.refl _ _).alloc (Nat.le_refl _) _)
theorem NS.span (h : NS w v wr gz bs) : NS w v (wr.alloc zspan) gz (wr.heap.size :: bs) := by
  have h2 := h.alloc zspan
  refine ⟨h2.b, h2.a, h2.z, fun b hm => ?_⟩
  rcases List.mem_cons.1 hm with rfl | hm
  · exact heap_alloc_new _ _
  · exact h2.s b hm
end
theorem run_neq_zspan (w : World) : (binOp .neq 42 (.agg #[.int .i64 0, .int .i64 0]) (.agg #[.int .i64 0, .int .i64 0])).run Try.prog w = .ok (.bool false) w := by kernel_rfl

section
variable (A T : Option Addr) (nm cm n ct : Nat) (M : List Instr) (text : List UInt8) (w : World)
set_option maxRecDepth 100000 in
set_option maxHeartbeats 1000000 in
theorem longestNews_1 (h : 2147483647 < nm ∨ 2147483647 < n) : Calls Try.prog 3 #[.slice A nm cm, .slice T n ct] w fun e w' => e = .returned (.bool true) ∧ Below w.heap.size w w' := by
  by_cases h1 : 2147483647 < nm
  · clear h
    go_enter Try.func3, Try.ntmps3
    go_wp2_with fail
    refine (long_yes _ _ h1).mono ?_
    rintro e w' ⟨rfl, rfl⟩
    go_wp2_with fail
    go_ret
    exact ⟨rfl, Below.refl _ _⟩
  · have h2 : 2147483647 < n := by omega
    have h3 : nm ≤ 2147483647 := by omega
    clear h h1
    go_enter Try.func3, Try.ntmps3
    go_wp2_with fail
    refine (long_no _ _ h3).mono ?_
    rintro e w' ⟨rfl, rfl⟩
    go_wp2_with fail
    refine (long_yes _ _ h2).mono ?_
    rintro e w' ⟨rfl, rfl⟩
    go_wp2_with fail
    go_ret
    exact ⟨rfl, Below.refl _ _⟩
variable (h1 : nm ≤ 2147483647) (h2 : n ≤ 2147483647) (hnm : Hid (nm = M.length)) (hm : Hid (SliceAt Rep.instr w (under w.heap.size) A cm M)) (hnt : Hid (n = text.length)) (ht : Hid (SliceAt Rep.byte w (under w.heap.size) T ct text))
include h1 h2 hnm hm hnt ht
set_option maxRecDepth 100000 in
set_option maxHeartbeats 4000000 in
theorem longestNews_2 (HM : Hid (MShaped M)) : Calls Try.prog 3 #[.slice A nm cm, .slice T n ct] w fun e w' => e = .returned (.bool true) ∧ Below w.heap.size w w' := by
  have hneq := run_neq_zspan
  have hm0 : ∀ w', Below w.heap.size w w' → SliceAt Rep.instr w' (under w.heap.size) A cm M := fun w' hb => hm.out.keep (fun _ h => h) (Same.of_below hb (fun _ h => h))
  have ht0 : ∀ w', Below w.heap.size w w' → SliceAt Rep.byte w' (under w.heap.size) T ct text := fun w' hb => ht.out.keep (fun _ h => h) (Same.of_below hb (fun _ h => h))
  have HM0 := Lib.hid hm0
  have HT0 := Lib.hid ht0
  clear hm0 ht0
  go_enter Try.func3, Try.ntmps3
  go_wp2_with fail
  refine (long_no _ _ h1).mono ?_
  rintro e w' ⟨rfl, rfl⟩
  go_wp2_with fail
  refine (long_no _ _ h2).mono ?_
  rintro e w' ⟨rfl, rfl⟩
  go_wp2_with fail
  refine (wideInstrs_any A nm cm M _ _ hnm.out hm.out (fun _ h => h) h1).mono ?_
  rintro e w1 ⟨g, rfl, hown1, hb1⟩
  have HO1 := Lib.hid hown1
  have HB1 := Lib.hid hb1
  have hin1 : SliceAt Rep.instr w1 (under w1.heap.size) (some ⟨g, 0, none⟩) (nm + 64) M := by
    obtain ⟨A', c', e1, hs⟩ := hown1.slice
    simp only [Value.slice.injEq] at e1
    obtain ⟨rfl, -, rfl⟩ := e1
    have := (hs.cutTo (j := M.length) (by simp)).up (S' := under w1.heap.size) fun b hb => by
      rcases hb with ⟨-, h, -⟩ | h
      · exact h
      · exact h.elim
    simpa using this
  have HIN1 := Lib.hid hin1
  clear hown1 hb1 hin1
  go_wp2_with fail
  refine (new_ok M _ nm (nm + 64) w1 _ HIN1.out (fun _ h => h) hnm.out HM.out).mono ?_
  rintro e w2 ⟨gs, F, rfl, hsr2, hb2⟩
  have HSR2 := Lib.hid hsr2
  have HB2 := Lib.hid hb2
  clear hsr2 hb2
  go_wp2_with fail
  refine (refNew_ok M A nm cm w2 _ (HM0.out _ (HB1.out.trans (HB2.out.mono HB1.out.size))) hnm.out HM.out).mono ?_
  rintro e w3 ⟨⟨p, rfl⟩, hb3⟩
  have HB3 := Lib.hid (HB2.out.trans (hb3.mono HB2.out.size))
  have HSR3 := Lib.hid (HSR2.out.far hb3)
  have HB03 := Lib.hid (HB1.out.trans (HB3.out.mono HB1.out.size))
  have HIN3 := Lib.hid (HIN1.out.below HB3.out (Nat.le_refl _))
  have HO3 := Lib.hid (HO1.out.far HB3.out)
  clear hb3
  go_wp2_with fail
  refine (eqInstrs_same _ _ nm _ _ M w3 _ _ hnm.out HIN3.out (HM0.out _ HB03.out)).mono ?_
  rintro e w4 ⟨rfl, hb4⟩
  have HO4 := Lib.hid (HO3.out.far hb4)
  have HSR4 := Lib.hid (HSR3.out.far hb4)
  have HB04 := Lib.hid (HB03.out.trans (hb4.mono HB03.out.size))
  clear hb4
  go_wp2_with fail
  refine (spareInstrs_any g nm _ M w4 hnm.out HO4.out h1).mono ?_
  rintro e w5 ⟨rfl, q, hw5⟩
  have hb5 : Below w4.heap.size w4 w5 := by rw [hw5]; exact below_drewN _ q
  have HSR5 := Lib.hid (HSR4.out.far hb5)
  have HB05 := Lib.hid (HB04.out.trans (hb5.mono HB04.out.size))
  clear hb5 hw5
  go_wp2_with fail
  have HN6 : Hid (NS w w5 (w5.alloc zsearch) w5.heap.size []) := Lib.hid ⟨HB05.out.alloc HB05.out.size _, (Below.refl _ _).alloc (Nat.le_refl _) _, heap_alloc_new _ _, by simp⟩
  refine (copyBytes' T n ct text _ _ hnt.out (HT0.out _ HN6.out.b) h2).mono ?_
  rintro e w7 ⟨A7, c7, rfl, -, HB7⟩
  have HN7 := Lib.hid (HN6.out.next HB7.out)
  go_wp2_with fail
  refine (find_nil A7 n c7 0 w7).mono ?_
  rintro e w8 ⟨rfl, hb8⟩
  have HN8 := Lib.hid (HN7.out.next hb8).span
  clear hb8
  go_wp2_with fail
  refine (copyBytes' T n ct text _ _ hnt.out (HT0.out _ HN8.out.b) h2).mono ?_
  rintro e w9 ⟨A9, c9, rfl, -, HB9⟩
  have HN9 := Lib.hid (HN8.out.next HB9.out)
  go_wp2_with fail
  refine (find_zero A9 n c9 _ 0 w9 HN9.out.z).mono ?_
  rintro e w10 ⟨rfl, hb10⟩
  have HN10 := Lib.hid (HN9.out.next hb10).span
  clear hb10
  go_wp2_with fail
  refine (copyBytes' T n ct text _ _ hnt.out (HT0.out _ HN10.out.b) h2).mono ?_
  rintro e w11 ⟨A11, c11, rfl, -, HB11⟩
  have HN11 := Lib.hid (HN10.out.next HB11.out)
  go_wp2_with fail
  refine (ends_nil A11 n c11 0 w11).mono ?_
  rintro e w' ⟨rfl, rfl⟩
  go_wp2_with fail
  refine (copyBytes' T n ct text _ _ hnt.out (HT0.out _ HN11.out.b) h2).mono ?_
  rintro e w12 ⟨A12, c12, rfl, -, HB12⟩
  have HN12 := Lib.hid (HN11.out.next HB12.out)
  go_wp2_with fail
  refine (ends_zero A12 n c12 _ 0 w12 HN12.out.z).mono ?_
  rintro e w' ⟨rfl, rfl⟩
  have s1 := HN12.out.s w8.heap.size (by simp)
  have s2 := HN12.out.s w10.heap.size (by simp)
  have q1 := cell_of_row w12 w8.heap.size 0 _ _ _ s1
  have q2 := cell_of_row w12 w8.heap.size 1 _ _ _ s1
  have q3 := cell_of_row w12 w10.heap.size 0 _ _ _ s2
  have q4 := cell_of_row w12 w10.heap.size 1 _ _ _ s2
  simp at q1 q2 q3 q4
  clear s1 s2
  go_wp2_with fail
  refine (steps_nil' w12).mono ?_
  rintro e w' ⟨rfl, rfl⟩
  go_wp2_with fail
  refine (steps_zero _ w12 HN12.out.z).mono ?_
  rintro e w' ⟨rfl, rfl⟩
  have HSR12 := Lib.hid (HSR5.out.far HN12.out.a)
  go_wp2_with fail
  refine (steps_any' _ _ _ _ _ _ w12 HSR12.out).mono ?_
  rintro e w' ⟨rfl, rfl⟩
  go_wp2_with fail
  refine (works_any w12).mono ?_
  rintro e w' ⟨rfl, hb⟩
  have HB := Lib.hid hb
  clear hb
  go_wp2_with fail
  go_ret
  exact ⟨rfl, HN12.out.b.trans (HB.out.mono HN12.out.b.size)⟩
set_option maxRecDepth 100000 in
set_option maxHeartbeats 4000000 in
theorem longestNews_3 (HM : Hid (¬ MShaped M)) : Calls Try.prog 3 #[.slice A nm cm, .slice T n ct] w fun e w' => e = .returned (.bool true) ∧ Below w.heap.size w w' := by
  have hneq := run_neq_zspan
  have hm0 : ∀ w', Below w.heap.size w w' → SliceAt Rep.instr w' (under w.heap.size) A cm M := fun w' hb => hm.out.keep (fun _ h => h) (Same.of_below hb (fun _ h => h))
  have ht0 : ∀ w', Below w.heap.size w w' → SliceAt Rep.byte w' (under w.heap.size) T ct text := fun w' hb => ht.out.keep (fun _ h => h) (Same.of_below hb (fun _ h => h))
  have HM0 := Lib.hid hm0
  have HT0 := Lib.hid ht0
  clear hm0 ht0
  go_enter Try.func3, Try.ntmps3
  go_wp2_with fail
  refine (long_no _ _ h1).mono ?_
  rintro e w' ⟨rfl, rfl⟩
  go_wp2_with fail
  refine (long_no _ _ h2).mono ?_
  rintro e w' ⟨rfl, rfl⟩
  go_wp2_with fail
  refine (wideInstrs_any A nm cm M _ _ hnm.out hm.out (fun _ h => h) h1).mono ?_
  rintro e w1 ⟨g, rfl, hown1, hb1⟩
  have HO1 := Lib.hid hown1
  have HB1 := Lib.hid hb1
  have hin1 : SliceAt Rep.instr w1 (under w1.heap.size) (some ⟨g, 0, none⟩) (nm + 64) M := by
    obtain ⟨A', c', e1, hs⟩ := hown1.slice
    simp only [Value.slice.injEq] at e1
    obtain ⟨rfl, -, rfl⟩ := e1
    have := (hs.cutTo (j := M.length) (by simp)).up (S' := under w1.heap.size) fun b hb => by
      rcases hb with ⟨-, h, -⟩ | h
      · exact h
      · exact h.elim
    simpa using this
  have HIN1 := Lib.hid hin1
  clear hown1 hb1 hin1
  go_wp2_with fail
  refine (new_no M _ nm (nm + 64) w1 _ HIN1.out (fun _ h => h) hnm.out HM.out).mono ?_
  rintro e w2 ⟨rfl, hb2⟩
  have HB2 := Lib.hid hb2
  clear hb2
  go_wp2_with fail
  refine (refNew_no M A nm cm w2 _ (HM0.out _ (HB1.out.trans (HB2.out.mono HB1.out.size))) hnm.out HM.out).mono ?_
  rintro e w3 ⟨⟨p, rfl⟩, hb3⟩
  have HB3 := Lib.hid (HB2.out.trans (hb3.mono HB2.out.size))
  have HB03 := Lib.hid (HB1.out.trans (HB3.out.mono HB1.out.size))
  have HIN3 := Lib.hid (HIN1.out.below HB3.out (Nat.le_refl _))
  have HO3 := Lib.hid (HO1.out.far HB3.out)
  clear hb3
  go_wp2_with fail
  refine (eqInstrs_same _ _ nm _ _ M w3 _ _ hnm.out HIN3.out (HM0.out _ HB03.out)).mono ?_
  rintro e w4 ⟨rfl, hb4⟩
  have HO4 := Lib.hid (HO3.out.far hb4)
  have HB04 := Lib.hid (HB03.out.trans (hb4.mono HB03.out.size))
  clear hb4
  go_wp2_with fail
  refine (spareInstrs_any g nm _ M w4 hnm.out HO4.out h1).mono ?_
  rintro e w5 ⟨rfl, q, hw5⟩
  have hb5 : Below w4.heap.size w4 w5 := by rw [hw5]; exact below_drewN _ q
  have HB05 := Lib.hid (HB04.out.trans (hb5.mono HB04.out.size))
  clear hb5 hw5
  go_wp2_with fail
  have HN6 : Hid (NS w w5 (w5.alloc zsearch) w5.heap.size []) := Lib.hid ⟨HB05.out.alloc HB05.out.size _, (Below.refl _ _).alloc (Nat.le_refl _) _, heap_alloc_new _ _, by simp⟩
  refine (copyBytes' T n ct text _ _ hnt.out (HT0.out _ HN6.out.b) h2).mono ?_
  rintro e w7 ⟨A7, c7, rfl, -, HB7⟩
  have HN7 := Lib.hid (HN6.out.next HB7.out)
  go_wp2_with fail
  refine (find_nil A7 n c7 0 w7).mono ?_
  rintro e w8 ⟨rfl, hb8⟩
  have HN8 := Lib.hid (HN7.out.next hb8).span
  clear hb8
  go_wp2_with fail
  refine (copyBytes' T n ct text _ _ hnt.out (HT0.out _ HN8.out.b) h2).mono ?_
  rintro e w9 ⟨A9, c9, rfl, -, HB9⟩
  have HN9 := Lib.hid (HN8.out.next HB9.out)
  go_wp2_with fail
  refine (find_zero A9 n c9 _ 0 w9 HN9.out.z).mono ?_
  rintro e w10 ⟨rfl, hb10⟩
  have HN10 := Lib.hid (HN9.out.next hb10).span
  clear hb10
  go_wp2_with fail
  refine (copyBytes' T n ct text _ _ hnt.out (HT0.out _ HN10.out.b) h2).mono ?_
  rintro e w11 ⟨A11, c11, rfl, -, HB11⟩
  have HN11 := Lib.hid (HN10.out.next HB11.out)
  go_wp2_with fail
  refine (ends_nil A11 n c11 0 w11).mono ?_
  rintro e w' ⟨rfl, rfl⟩
  go_wp2_with fail
  refine (copyBytes' T n ct text _ _ hnt.out (HT0.out _ HN11.out.b) h2).mono ?_
  rintro e w12 ⟨A12, c12, rfl, -, HB12⟩
  have HN12 := Lib.hid (HN11.out.next HB12.out)
  go_wp2_with fail
  refine (ends_zero A12 n c12 _ 0 w12 HN12.out.z).mono ?_
  rintro e w' ⟨rfl, rfl⟩
  have s1 := HN12.out.s w8.heap.size (by simp)
  have s2 := HN12.out.s w10.heap.size (by simp)
  have q1 := cell_of_row w12 w8.heap.size 0 _ _ _ s1
  have q2 := cell_of_row w12 w8.heap.size 1 _ _ _ s1
  have q3 := cell_of_row w12 w10.heap.size 0 _ _ _ s2
  have q4 := cell_of_row w12 w10.heap.size 1 _ _ _ s2
  simp at q1 q2 q3 q4
  clear s1 s2
  go_wp2_with fail
  refine (steps_nil' w12).mono ?_
  rintro e w' ⟨rfl, rfl⟩
  go_wp2_with fail
  refine (steps_zero _ w12 HN12.out.z).mono ?_
  rintro e w' ⟨rfl, rfl⟩
  go_wp2_with fail
  refine (works_any w12).mono ?_
  rintro e w' ⟨rfl, hb⟩
  have HB := Lib.hid hb
  clear hb
  go_wp2_with fail
  go_ret
  exact ⟨rfl, HN12.out.b.trans (HB.out.mono HN12.out.b.size)⟩
end
end Go.Proofs.Ytfbaaccnnogajaa
