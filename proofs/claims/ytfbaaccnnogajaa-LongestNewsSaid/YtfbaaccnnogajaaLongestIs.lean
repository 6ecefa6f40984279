/- The walk of the law LongestIs. Conditions: room. -/
import Derived.Test.YtfbaaccnnogajaaProg
import Derived.Test.YtfbaaccnnogajaaLS
namespace Go.Proofs.Ytfbaaccnnogajaa
open Go.RowKit

theorem long_no (n : Nat) (w : World) (h : n ≤ 2147483647) : Calls Try.prog 9 #[.int .i64 n] w fun e w' => e = .returned (.bool false) ∧ w = w' :=
  (long_any n w).mono fun _ _ ⟨a, b⟩ => ⟨by rw [a, decide_eq_false (by omega)], b.symm⟩
theorem long_yes (n : Nat) (w : World) (h : 2147483647 < n) : Calls Try.prog 9 #[.int .i64 n] w fun e w' => e = .returned (.bool true) ∧ w = w' :=
  (long_any n w).mono fun _ _ ⟨a, b⟩ => ⟨by rw [a, decide_eq_true (by omega)], b.symm⟩
theorem heavy_no (m n : Nat) (w : World) (_hn : n ≤ 2147483647) (h : ¬ Heavy m n) : Calls Try.prog 20 #[.int .i64 m, .int .i64 n] w fun e w' => e = .returned (.bool false) ∧ w = w' :=
  (heavy_any m n w).mono fun _ _ ⟨a, b⟩ => ⟨by rw [a, decide_eq_false h], b.symm⟩
theorem heavy_yes (m n : Nat) (w : World) (_hn : n ≤ 2147483647) (h : Heavy m n) : Calls Try.prog 20 #[.int .i64 m, .int .i64 n] w fun e w' => e = .returned (.bool true) ∧ w = w' :=
  (heavy_any m n w).mono fun _ _ ⟨a, b⟩ => ⟨by rw [a, decide_eq_true h], b.symm⟩
/-- A copy of instructions, a search made of it. -/
theorem copyInstrs' (A : Option Addr) (n c : Nat) (M : List Instr) (w : World) (S : Blocks) (hn : n = M.length) (hl : SliceAt Rep.instr w S A c M) (hb3 : n ≤ 2147483647) :
    Calls Try.prog 21 #[.slice A n c] w fun e w' => ∃ A' c', e = .returned (.slice A' n c') ∧ Below w.heap.size w w' ∧
      Hid (MShaped M → Calls Try.prog 11 #[.slice A' n c'] w' fun e w2 => ∃ gs F, e = .returned (.tuple #[.pointer (some ⟨gs, 0, none⟩), .int .i64 0]) ∧ LS w w2 w'.heap.size gs M F 0 []) ∧
      Hid (¬ MShaped M → Calls Try.prog 11 #[.slice A' n c'] w' fun e w2 => e = .returned (.tuple #[.pointer none, .int .i64 49]) ∧ Below w.heap.size w w2) := by
  refine (copyInstrs A n c M w S hn hl (by omega)).mono ?_
  rintro e w' ⟨v, rfl, hv, hb⟩
  obtain ⟨A', c', rfl, hs⟩ := hv.slice
  subst hn
  have hS : ∀ b, ((w.heap.size ≤ b ∧ b < w'.heap.size ∧ some b = (Value.slice A' M.length c').ownBlock) ∨ nob b) → b < w'.heap.size := fun b h => by
    rcases h with h | h
    · exact h.2.1
    · exact h.elim
  refine ⟨A', c', rfl, hb, Lib.hid fun hM => (new_ok M A' _ c' w' _ hs hS rfl hM).mono ?_, Lib.hid fun hM => (new_no M A' _ c' w' _ hs hS rfl hM).mono ?_⟩
  · rintro e w2 ⟨gs, F, rfl, h1, h2⟩
    exact ⟨gs, F, rfl, h1, hb.trans (h2.mono hb.size), hb.size⟩
  · rintro e w2 ⟨rfl, h2⟩
    exact ⟨rfl, hb.trans (h2.mono hb.size)⟩

theorem copyBytes' (A : Option Addr) (n c : Nat) (l : List UInt8) (w : World) (S : Blocks) (hn : n = l.length) (hl : SliceAt Rep.byte w S A c l) (hb3 : n ≤ 2147483647) :
    Calls Try.prog 16 #[.slice A n c] w fun e w' => ∃ A' c', e = .returned (.slice A' n c') ∧ Hid (Own Rep.byte 5 w' w.heap.size nob (.slice A' n c') l) ∧ Hid (Below w.heap.size w w') := by
  refine (copyBytes A n c l w S hn hl (by omega)).mono ?_
  rintro e w' ⟨v, rfl, hv, hb⟩
  obtain ⟨A', n', c', rfl, hn', -, -⟩ := hv.form
  have e : n' = n := by rw [hn'.out, hn]
  subst e
  exact ⟨A', c', rfl, Lib.hid hv, Lib.hid hb⟩
/-- Steps, behind a new block. -/
theorem LS.stepsA {w0 w : World} {B gs : Nat} {M : List Instr} {F : Blocks} {st : Nat} {E : List Bool} (h : LS w0 w B gs M F st E) (cs : Array Value) (t : TypeId) :
    Calls Try.prog 18 #[.pointer (some ⟨gs, 0, none⟩)] (w.alloc (.cells cs t)) fun e w' => e = .returned (.int .i64 st) ∧ w'.heap[w.heap.size]? = some (.cells cs t (0, 0)) ∧ w.heap.size < w'.heap.size ∧ LS w0 w' B gs M F st E ∧ ¬ F w.heap.size ∧ Below w.heap.size w w' := by
  have h5 := h.far ((Below.refl _ _).alloc (Nat.le_refl _) (.cells cs t))
  refine h5.steps.mono ?_
  rintro e w' ⟨rfl, rfl⟩
  exact ⟨rfl, heap_alloc_new _ _, by simp, h5, h.fresh, (Below.refl _ _).alloc (Nat.le_refl _) _⟩
/-- Ends of a copy, its cells. -/
theorem LS.endsC {w0 w w1 : World} {B gs : Nat} {M : List Instr} {F : Blocks} {st : Nat} {E : List Bool} {text : List UInt8} {n c : Nat} {A : Option Addr} (h : LS w0 w B gs M F st E) (hM : MShaped M) (hb : Below w.heap.size w w1) (hv : Own Rep.byte 5 w1 w.heap.size nob (.slice A n c) text) (hnt : n = text.length) (hn : text.length ≤ 400) (hMn : M.length * ((text.length + 1) * (text.length + 1)) ≤ 1048576) (at_ : Nat) (hat : at_ ≤ text.length) :
    Calls Try.prog 17 #[.pointer (some ⟨gs, 0, none⟩), .slice A n c, .int .i64 at_] w1 fun e w' =>
      ∃ g c' F', e = .returned (.slice (some ⟨g, 0, none⟩) (n + 1) c') ∧ n + 1 ≤ c' ∧ c' ≤ 9223372036854775807 ∧ Hid (∀ t, t < n + 1 → w'.cell? ⟨g, t, none⟩ = some (.bool ((endsAt M text at_).getD t false))) ∧ Hid (Own Rep.bool 4 w' w.heap.size nob (.slice (some ⟨g, 0, none⟩) (n + 1) c') (endsAt M text at_)) ∧ Hid (LS w0 w' B gs M F' (fromAll M text at_ 0).2.2 (endsAt M text at_)) ∧ Hid (Kept w w' F F') ∧ Hid (¬ F' g) := by
  refine (h.ends hM hb hv hn hMn at_ hat).mono ?_
  rintro e w' ⟨v, F', rfl, hv', hls, hk, hn'⟩
  have hlen := endsAt_len M text at_
  obtain ⟨g, c', u, rfl, -, -, -, -, -, -⟩ := hv'.cellAt rfl (k := 0) (by omega)
  obtain ⟨_, _, _, he, hl, hc1, hc2⟩ := hv'.form
  simp only [Value.slice.injEq] at he
  obtain ⟨-, rfl, rfl⟩ := he
  have hl' : (endsAt M text at_).length = n + 1 := by omega
  rw [hl'] at hv' hn' hc1
  refine ⟨g, c', F', by rw [hl'], hc1, hc2, Lib.hid fun t ht => ?_, Lib.hid hv', Lib.hid hls, Lib.hid hk, Lib.hid (hn' g rfl)⟩
  obtain ⟨g', c', u, he, -, -, hc, -, hu, -⟩ := hv'.cellAt rfl (k := t) (by omega)
  simp only [Value.slice.injEq, Option.some.injEq, Addr.mk.injEq] at he
  obtain ⟨⟨rfl, -⟩, -, -⟩ := he
  simp only [Rep.bool, List.cons.injEq, and_true] at hu
  rw [hc, hu, List.getD_eq_getElem?_getD, List.getElem?_eq_getElem (by omega)]; rfl
section
variable (A T : Option Addr) (nm cm n ct : Nat) (M : List Instr) (text : List UInt8) (w : World)
set_option maxRecDepth 100000 in
set_option maxHeartbeats 1000000 in
theorem longestIs_1 (at_ : Int) (h : 2147483647 < nm ∨ 2147483647 < n) : Calls Try.prog 4 #[.slice A nm cm, .slice T n ct, .int .i64 at_] w fun e w' => e = .returned (.bool true) ∧ Below w.heap.size w w' := by
  by_cases h1 : 2147483647 < nm
  · clear h
    go_enter Try.func4, Try.ntmps4
    go_wp2_with (go_at_call 9; refine (long_yes _ _ h1).mono ?_; rintro e w' ⟨rfl, rfl⟩)
    go_ret
    exact ⟨rfl, Below.refl _ _⟩
  · have h2 : 2147483647 < n := by omega
    have h1' : nm ≤ 2147483647 := by omega
    clear h h1
    go_enter Try.func4, Try.ntmps4
    go_wp2_with fail
    refine (long_no _ _ h1').mono ?_
    rintro e w' ⟨rfl, rfl⟩
    go_wp2_with fail
    refine (long_yes _ _ h2).mono ?_
    rintro e w' ⟨rfl, rfl⟩
    go_wp2_with fail
    go_ret
    exact ⟨rfl, Below.refl _ _⟩
variable (h1 : nm ≤ 2147483647) (h2 : n ≤ 2147483647)
include h1 h2
set_option maxRecDepth 100000 in
set_option maxHeartbeats 1000000 in
theorem longestIs_2 (at_ : Int) (hv : Heavy nm n) : Calls Try.prog 4 #[.slice A nm cm, .slice T n ct, .int .i64 at_] w fun e w' => e = .returned (.bool true) ∧ Below w.heap.size w w' := by
  have HV := Lib.hid hv
  clear hv
  go_enter Try.func4, Try.ntmps4
  go_wp2_with fail
  refine (long_no _ _ h1).mono ?_
  rintro e w' ⟨rfl, rfl⟩
  go_wp2_with fail
  refine (long_no _ _ h2).mono ?_
  rintro e w' ⟨rfl, rfl⟩
  go_wp2_with fail
  refine (heavy_yes _ _ _ h2 HV.out).mono ?_
  rintro e w' ⟨rfl, rfl⟩
  go_wp2_with fail
  refine (works_any _).mono ?_
  rintro e w' ⟨rfl, hb⟩
  go_wp2_with fail
  go_ret
  exact ⟨rfl, hb⟩
variable (hv : Hid (¬ Heavy nm n)) (hnm : Hid (nm = M.length)) (hm : Hid (SliceAt Rep.instr w (under w.heap.size) A cm M))
include hv hnm hm
set_option maxRecDepth 100000 in
set_option maxHeartbeats 1000000 in
theorem longestIs_3 (at_ : Int) (hM : ¬ MShaped M) : Calls Try.prog 4 #[.slice A nm cm, .slice T n ct, .int .i64 at_] w fun e w' => e = .returned (.bool true) ∧ Below w.heap.size w w' := by
  have HM := Lib.hid hM
  clear hM
  go_enter Try.func4, Try.ntmps4
  go_wp2_with fail
  refine (long_no _ _ h1).mono ?_
  rintro e w' ⟨rfl, rfl⟩
  go_wp2_with fail
  refine (long_no _ _ h2).mono ?_
  rintro e w' ⟨rfl, rfl⟩
  go_wp2_with fail
  refine (heavy_no _ _ _ h2 hv.out).mono ?_
  rintro e w' ⟨rfl, rfl⟩
  go_wp2_with fail
  refine (copyInstrs' A nm cm M w _ hnm.out hm.out h1).mono ?_
  rintro e w1 ⟨A1, c1, rfl, hb1, -, HN⟩
  have HB1 := Lib.hid hb1
  clear hb1
  go_wp2_with fail
  refine (HN.out HM.out).mono ?_
  rintro e w2 ⟨rfl, hb2⟩
  have HB2 := Lib.hid hb2
  clear hb2
  go_wp2_with fail
  refine (works_any _).mono ?_
  rintro e w' ⟨rfl, hb⟩
  have HB := Lib.hid hb
  clear hb
  go_wp2_with fail
  go_ret
  exact ⟨rfl, HB2.out.trans (HB.out.mono HB2.out.size)⟩
variable (hnt : Hid (n = text.length)) (ht : Hid (SliceAt Rep.byte w (under w.heap.size) T ct text)) (HM : Hid (MShaped M))
include hnt ht HM
set_option maxRecDepth 100000 in
set_option maxHeartbeats 2000000 in
theorem longestIs_4 (at_ : Int) (hat : at_ < 0) : Calls Try.prog 4 #[.slice A nm cm, .slice T n ct, .int .i64 at_] w fun e w' => e = .returned (.bool true) ∧ Below w.heap.size w w' := by
  have hat' : decide (at_ < 0) = true := decide_eq_true hat
  go_enter Try.func4, Try.ntmps4
  go_wp2_with fail
  refine (long_no _ _ h1).mono ?_
  rintro e w' ⟨rfl, rfl⟩
  go_wp2_with fail
  refine (long_no _ _ h2).mono ?_
  rintro e w' ⟨rfl, rfl⟩
  go_wp2_with fail
  refine (heavy_no _ _ _ h2 hv.out).mono ?_
  rintro e w' ⟨rfl, rfl⟩
  go_wp2_with fail
  refine (copyInstrs' A nm cm M w _ hnm.out hm.out h1).mono ?_
  rintro e w1 ⟨A1, c1, rfl, hb1, HN, -⟩
  have HB1 := Lib.hid hb1
  clear hb1
  go_wp2_with fail
  refine (HN.out HM.out).mono ?_
  rintro e w2 ⟨gs, F, rfl, hls⟩
  have HTW := Lib.hid (ht.out.keep (fun _ h => h) (Same.of_below hls.b (fun _ h => h)))
  have HLS := Lib.hid hls
  clear hls
  go_wp2_with fail
  refine (copyBytes' T n ct text w2 _ hnt.out HTW.out h2).mono ?_
  rintro e w3 ⟨T3, c3, rfl, HO3, HB3⟩
  go_wp2_with fail
  refine (HLS.out.find_neg HM.out HB3.out at_ hat).mono ?_
  rintro e w4 ⟨rfl, hls4, -⟩
  have HLS4 := Lib.hid hls4
  clear hls4
  go_wp2_with fail
  refine (HLS4.out.stepsA _ _).mono ?_
  rintro e w5 ⟨rfl, hq, hz, hls5, hn5, -⟩
  have e0 := cell_of_row w5 w4.heap.size 0 _ _ _ hq
  have e1 := cell_of_row w5 w4.heap.size 1 _ _ _ hq
  simp at e0 e1
  have HLS5 := Lib.hid hls5
  clear hls5 hn5 hq
  go_wp2_with fail
  refine (works_any _).mono ?_
  rintro e w' ⟨rfl, hb⟩
  have HB := Lib.hid hb
  clear hb
  go_wp2_with fail
  go_ret
  exact ⟨rfl, HLS5.out.b.trans (HB.out.mono HLS5.out.b.size)⟩
set_option maxRecDepth 100000 in
set_option maxHeartbeats 2000000 in
theorem longestIs_5 (at_ : Nat) (hat : n < at_) : Calls Try.prog 4 #[.slice A nm cm, .slice T n ct, .int .i64 at_] w fun e w' => e = .returned (.bool true) ∧ Below w.heap.size w w' := by
  have hfa : findAll M text at_ = (none, 0) := by unfold findAll; rw [show text.length + 1 - at_ = 0 by have := hnt.out; omega]; rfl
  have HFA := Lib.hid hfa
  have hl := light hv.out
  have hl1 : text.length ≤ 400 := by have := hnt.out; omega
  have hl2 : M.length * ((text.length + 1) * (text.length + 1)) ≤ 1048576 := by rw [← hnt.out, ← hnm.out]; exact hl.2
  have HL2 := Lib.hid hl2
  clear hfa hl hl2
  have hat1 : decide ((at_ : Int) < 0) = false := decide_eq_false (by omega)
  have hat2 : decide ((n : Int) < at_) = true := decide_eq_true (by omega)
  go_enter Try.func4, Try.ntmps4
  go_wp2_with fail
  refine (long_no _ _ h1).mono ?_
  rintro e w' ⟨rfl, rfl⟩
  go_wp2_with fail
  refine (long_no _ _ h2).mono ?_
  rintro e w' ⟨rfl, rfl⟩
  go_wp2_with fail
  refine (heavy_no _ _ _ h2 hv.out).mono ?_
  rintro e w' ⟨rfl, rfl⟩
  go_wp2_with fail
  refine (copyInstrs' A nm cm M w _ hnm.out hm.out h1).mono ?_
  rintro e w1 ⟨A1, c1, rfl, hb1, HN, -⟩
  have HB1 := Lib.hid hb1
  clear hb1
  go_wp2_with fail
  refine (HN.out HM.out).mono ?_
  rintro e w2 ⟨gs, F, rfl, hls⟩
  have HTW := Lib.hid (ht.out.keep (fun _ h => h) (Same.of_below hls.b (fun _ h => h)))
  have HLS := Lib.hid hls
  clear hls
  go_wp2_with fail
  refine (copyBytes' T n ct text w2 _ hnt.out HTW.out h2).mono ?_
  rintro e w3 ⟨T3, c3, rfl, HO3, HB3⟩
  go_wp2_with fail
  have hf := HLS.out.find HM.out HB3.out HO3.out hl1 HL2.out at_
  rw [HFA.out] at hf
  refine hf.mono ?_
  rintro e w4 ⟨rfl, F4, E4, hls4, -⟩
  have HLS4 := Lib.hid hls4
  clear hls4 hf
  go_wp2_with fail
  refine (HLS4.out.stepsA _ _).mono ?_
  rintro e w5 ⟨rfl, hq, hz, hls5, hn5, -⟩
  have e0 := cell_of_row w5 w4.heap.size 0 _ _ _ hq
  have e1 := cell_of_row w5 w4.heap.size 1 _ _ _ hq
  simp at e0 e1
  have HLS5 := Lib.hid hls5
  clear hls5 hn5 hq
  go_wp2_with fail
  refine (works_any _).mono ?_
  rintro e w' ⟨rfl, hb⟩
  have HB := Lib.hid hb
  clear hb
  go_wp2_with fail
  go_ret
  exact ⟨rfl, HLS5.out.b.trans (HB.out.mono HLS5.out.b.size)⟩
/-- What holds at the law's outer loop's head. -/
structure IsRel (w wr : World) (B gs : Nat) (M : List Instr) (text : List UInt8) (q at_ p : Nat) (F : Blocks) (st : Nat) (E : List Bool) : Prop where
  ls : LS w wr B gs M F st E
  hq : wr.heap[q]? = some (.cells #[.int .i64 (spanA (findAll M text at_).1), .int .i64 (spanB (findAll M text at_).1)] 42 (0, 0))
  nq : ¬ F q
  g : findAt M text (text.length + 1 - p) p = (findAll M text at_).1
set_option maxRecDepth 100000 in
set_option maxHeartbeats 8000000 in
theorem longestIs_6 (at_ : Nat) (hat : at_ ≤ n) : Calls Try.prog 4 #[.slice A nm cm, .slice T n ct, .int .i64 at_] w fun e w' => e = .returned (.bool true) ∧ Below w.heap.size w w' := by
  have hl := light hv.out
  have hl1 : text.length ≤ 400 := by have := hnt.out; omega
  have hl2 : M.length * ((text.length + 1) * (text.length + 1)) ≤ 1048576 := by rw [← hnt.out, ← hnm.out]; exact hl.2
  have HL2 := Lib.hid hl2
  clear hl hl2
  have hat1 : decide ((at_ : Int) < 0) = false := decide_eq_false (by omega)
  have hat2 : decide (n < at_) = false := decide_eq_false (by omega)
  go_enter Try.func4, Try.ntmps4
  go_wp2_with fail
  refine (long_no _ _ h1).mono ?_
  rintro e w' ⟨rfl, rfl⟩
  go_wp2_with fail
  refine (long_no _ _ h2).mono ?_
  rintro e w' ⟨rfl, rfl⟩
  go_wp2_with fail
  refine (heavy_no _ _ _ h2 hv.out).mono ?_
  rintro e w' ⟨rfl, rfl⟩
  go_wp2_with fail
  refine (copyInstrs' A nm cm M w _ hnm.out hm.out h1).mono ?_
  rintro e w1 ⟨A1, c1, rfl, hb1, HN, -⟩
  have HB1 := Lib.hid hb1
  clear hb1
  go_wp2_with fail
  refine (HN.out HM.out).mono ?_
  rintro e w2 ⟨gs, F, rfl, hls⟩
  have HTW := Lib.hid (ht.out.keep (fun _ h => h) (Same.of_below hls.b (fun _ h => h)))
  have HLS := Lib.hid hls
  clear hls
  go_wp2_with fail
  refine (copyBytes' T n ct text w2 _ hnt.out HTW.out h2).mono ?_
  rintro e w3 ⟨T3, c3, rfl, HO3, HB3⟩
  go_wp2_with fail
  obtain ⟨r, hr⟩ : ∃ r, r = findAll M text at_ := ⟨_, rfl⟩
  have hf := HLS.out.find HM.out HB3.out HO3.out hl1 HL2.out at_
  rw [← hr] at hf
  obtain ⟨xa, hxa⟩ : ∃ xa, xa = spanA r.1 := ⟨_, rfl⟩
  obtain ⟨xb, hxb⟩ : ∃ xb, xb = spanB r.1 := ⟨_, rfl⟩
  obtain ⟨ok, hok⟩ : ∃ ok, ok = r.1.isSome := ⟨_, rfl⟩
  obtain ⟨st, hst⟩ : ∃ st, st = r.2 := ⟨_, rfl⟩
  rw [← hxa, ← hxb, ← hok, ← hst] at hf
  have HR := Lib.hid hr
  have HXA := Lib.hid hxa
  have HXB := Lib.hid hxb
  have HOK := Lib.hid hok
  have HST := Lib.hid hst
  clear hr hxa hxb hok hst
  refine hf.mono ?_
  rintro e w4 ⟨rfl, F4, E4, hls4, -⟩
  have HLS4 := Lib.hid hls4
  clear hls4 hf
  go_wp2_with fail
  refine (HLS4.out.stepsA _ _).mono ?_
  rintro e w5 ⟨rfl, hq, hz, hls5, hn5, -⟩
  have HQ5 := Lib.hid hq
  have HLS5 := Lib.hid hls5
  have HN5 := Lib.hid hn5
  clear hls5 hn5 hq
  go_wp2_with fail
  go_loopg [12] (n + 1 - at_) (fun k pv wr => ∃ (p : Nat) (F' : Blocks) (E' : List Bool) (st' : Nat), pv = .int .i64 p ∧ at_ ≤ p ∧ k = n + 1 - p ∧ IsRel w wr w1.heap.size gs M text w4.heap.size at_ p F' st' E')
  case atStart =>
    refine ⟨at_, F4, E4, st, rfl, Nat.le_refl _, rfl, HLS5.out, ?_, HN5.out, ?_⟩
    · rw [HQ5.out, HXA.out, HXB.out, HR.out]
    · rw [findAll_fst]
  case round =>
    obtain ⟨p, F6, E6, st6, rfl, hap, rfl, hrel⟩ := hrel
    have HREL := Lib.hid hrel
    clear hrel
    by_cases hp : p ≤ n
    · have HT6 := Lib.hid (ht.out.keep (fun _ h => h) (Same.of_below HREL.out.ls.b (fun _ h => h)))
      go_wp2_with fail
      refine (copyBytes' T n ct text wr _ hnt.out HT6.out h2).mono ?_
      rintro e w7 ⟨T7, c7, rfl, HO7, HB7⟩
      go_wp2_with fail
      refine (HREL.out.ls.endsC HM.out HB7.out HO7.out hnt.out hl1 HL2.out p (by have := hnt.out; omega)).mono ?_
      rintro e w8 ⟨gE, cE, F8, rfl, hcE1, hcE2, HC8, HV8, HLS8, HK8, HN8⟩
      go_wp2_with fail
      obtain ⟨wo, rfl⟩ : ∃ wo : World, wo = wr := ⟨_, rfl⟩
      go_loopg [14, 15] (n + 1) (fun k lv tv wq => ∃ t : Nat, tv = .int .i64 t ∧ t ≤ n + 1 ∧ k = n + 1 - t ∧ lv = .int .i64 (lastIdx (endsAt M text p) t) ∧ wq = w8)
      case atStart => exact ⟨0, rfl, Nat.zero_le _, rfl, rfl, rfl⟩
      case round =>
        obtain ⟨t, rfl, htn, rfl, rfl, hwq⟩ := hrel
        subst hwq
        have hqlt : w4.heap.size < wo.heap.size := (Array.getElem?_eq_some_iff.1 HREL.out.hq).1
        by_cases htt : t < n + 1
        · obtain ⟨b, hb⟩ : ∃ b, b = (endsAt M text p).getD t false := ⟨_, rfl⟩
          have hcell := HC8.out t htt
          rw [← hb] at hcell
          have hstep : lastIdx (endsAt M text p) (t + 1) = if b then (t : Int) else lastIdx (endsAt M text p) t := by rw [lastIdx, hb]
          have hpl := (endsAt_plain M text p (by have := hnt.out; omega)).2 t
          rw [← hb] at hpl
          have HSTEP := Lib.hid hstep
          clear hstep hb
          cases b
          · clear hpl
            go_wp2_with fail
            go_roundg (n + 1 - (t + 1))
            case measure => omega
            case rel => exact ⟨t + 1, by go_num, by omega, rfl, by rw [HSTEP.out]; rfl, rfl⟩
          · have htp : decide (t < p) = false := decide_eq_false (fun h => by have := hpl h; cases this)
            clear hpl
            go_wp2_with fail
            go_roundg (n + 1 - (t + 1))
            case measure => omega
            case rel => exact ⟨t + 1, by go_num, by omega, rfl, by rw [HSTEP.out]; rfl, rfl⟩
        · obtain rfl : t = n + 1 := by omega
          have hla := (endsAt_plain M text p (by have := hnt.out; omega)).1
          rw [← hnt.out] at hla
          rw [← hla]
          obtain ⟨la, hlae⟩ : ∃ la, la = lastAt M text p := ⟨_, rfl⟩
          rw [← hlae]
          have HLA := Lib.hid hlae
          have hg := HREL.out.g
          rw [show text.length + 1 - p = (n - p) + 1 by have := hnt.out; omega, findAt, ← hlae] at hg
          have HG := Lib.hid hg
          clear hla hlae hg
          by_cases h0 : 0 ≤ la
          · have hr1 : r.1 = some (p, la) := by rw [HR.out, ← HG.out, if_pos h0]
            obtain rfl : ok = true := by rw [HOK.out, hr1]; rfl
            obtain rfl : xa = p := by rw [HXA.out, hr1]; rfl
            obtain rfl : xb = la := by rw [HXB.out, hr1]; rfl
            have hq8 := ((HK8.out.2 _ hqlt HREL.out.nq).1).trans HREL.out.hq
            have hz8 : w4.heap.size < wr.heap.size := Nat.lt_of_lt_of_le hqlt HK8.out.1
            have HT8 := Lib.hid (ht.out.keep (fun _ h => h) (Same.of_below HLS8.out.b (fun _ h => h)))
            have HQ8 := Lib.hid hq8
            clear hr1 hq8
            go_wp2_with fail
            refine (copyBytes' T n ct text wr _ hnt.out HT8.out h2).mono ?_
            rintro e w9 ⟨T9, c9, rfl, HO9, HB9⟩
            go_wp2_with fail
            have hf := HLS8.out.find HM.out HB9.out HO9.out hl1 HL2.out at_
            rw [← HR.out, ← HXA.out, ← HXB.out, ← HOK.out, ← HST.out] at hf
            refine hf.mono ?_
            rintro e w10 ⟨rfl, F10, E10, hls10, hk10⟩
            have hq10 := ((hk10.2 _ hz8 (HK8.out.2 _ hqlt HREL.out.nq).2).1).trans HQ8.out
            rw [← HR.out, ← HXA.out, ← HXB.out] at hq10
            have e0 := cell_of_row w10 w4.heap.size 0 _ _ _ hq10
            have e1 := cell_of_row w10 w4.heap.size 1 _ _ _ hq10
            simp at e0 e1
            have hz10 : w4.heap.size < w10.heap.size := Nat.lt_of_lt_of_le hz8 hk10.1
            have HLS10 := Lib.hid hls10
            clear hls10 hk10 hf hq10
            go_wp2_with fail
            refine (HLS10.out.stepsA _ _).mono ?_
            rintro e w11 ⟨rfl, -, -, hls11, -, -⟩
            have HLS11 := Lib.hid hls11
            clear hls11
            go_wp2_with fail
            refine (works_any _).mono ?_
            rintro e w' ⟨rfl, hb⟩
            have HB := Lib.hid hb
            clear hb
            go_wp2_with fail
            go_ret
            exact ⟨rfl, HLS11.out.b.trans (HB.out.mono HLS11.out.b.size)⟩
          · have h0' : la < 0 := by omega
            go_wp2_with fail
            go_roundg (n + 1 - (p + 1))
            case measure => omega
            case rel =>
              refine ⟨p + 1, F8, _, _, by go_num, by omega, rfl, HLS8.out, ?_, (HK8.out.2 _ hqlt HREL.out.nq).2, ?_⟩
              · exact ((HK8.out.2 _ hqlt HREL.out.nq).1).trans HREL.out.hq
              · rw [show text.length + 1 - (p + 1) = n - p by have := hnt.out; omega, ← HG.out, if_neg (by omega)]
    · have hr1 : r.1 = none := by rw [HR.out, ← HREL.out.g, show text.length + 1 - p = 0 by have := hnt.out; omega]; rfl
      obtain rfl : ok = false := by rw [HOK.out, hr1]; rfl
      have hq6 := HREL.out.hq
      rw [← HR.out, hr1] at hq6
      have e0 := cell_of_row wr w4.heap.size 0 _ _ _ hq6
      have e1 := cell_of_row wr w4.heap.size 1 _ _ _ hq6
      simp [spanA, spanB] at e0 e1
      clear hr1 hq6
      go_wp2_with fail
      refine (works_any _).mono ?_
      rintro e w' ⟨rfl, hb⟩
      have HB := Lib.hid hb
      clear hb
      go_wp2_with fail
      go_ret
      exact ⟨rfl, HREL.out.ls.b.trans (HB.out.mono HREL.out.ls.b.size)⟩
end
end Go.Proofs.Ytfbaaccnnogajaa
