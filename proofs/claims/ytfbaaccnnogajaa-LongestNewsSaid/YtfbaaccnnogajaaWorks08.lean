/- No idle program: the walk of galleylaw08.works. No conditions. -/
import Derived.Test.YtfbaaccnnogajaaProg
import Derived.Test.YtfbaaccnnogajaaNew
import Derived.Test.YtfbaaccnnogajaaOne
import Derived.Lib.SlBytesConst
namespace Go.Proofs.Ytfbaaccnnogajaa
open Go.RowKit

def WM : List Instr := [⟨5, ⟨0, 0, 0, 0⟩, 1, 3⟩, ⟨1, ⟨0, 8589934592, 0, 0⟩, 0, 0⟩, ⟨4, ⟨0, 0, 0, 0⟩, 0, 0⟩, ⟨1, ⟨0, 17179869184, 0, 0⟩, 0, 0⟩, ⟨6, ⟨0, 0, 0, 0⟩, 0, 0⟩]
theorem wm_shaped : MShaped WM := by decide
theorem wm_find : (findAll WM [99, 97, 97, 98, 97, 98] 0).1 = some (1, 4) := by kernel_rfl
theorem wm_steps : 0 < (findAll WM [99, 97, 97, 98, 97, 98] 0).2 := by decide +kernel
theorem wm_none : (findAll WM [97, 97, 97] 0).1 = none := by kernel_rfl
theorem wm_ends : (fromAll WM [97, 98] 1 0).1 = [false, false, true] := by kernel_rfl
theorem one97 (w : World) : Calls Try.prog 25 #[.int .u8 97] w fun e w' => e = .returned (.agg #[.int .u64 0, .int .u64 8589934592, .int .u64 0, .int .u64 0]) ∧ Below w.heap.size w w' := one_any 97 w
theorem one98 (w : World) : Calls Try.prog 25 #[.int .u8 98] w fun e w' => e = .returned (.agg #[.int .u64 0, .int .u64 17179869184, .int .u64 0, .int .u64 0]) ∧ Below w.heap.size w w' := one_any 98 w
def wcells : Array Value := #[.int .i8 5, .int .u64 0, .int .u64 0, .int .u64 0, .int .u64 0, .int .i64 1, .int .i64 3, .int .i8 1, .int .u64 0, .int .u64 8589934592, .int .u64 0, .int .u64 0, .int .i64 0, .int .i64 0, .int .i8 4, .int .u64 0, .int .u64 0, .int .u64 0, .int .u64 0, .int .i64 0, .int .i64 0,
  .int .i8 1, .int .u64 0, .int .u64 17179869184, .int .u64 0, .int .u64 0, .int .i64 0, .int .i64 0, .int .i8 6, .int .u64 0, .int .u64 0, .int .u64 0, .int .u64 0, .int .i64 0, .int .i64 0]
theorem wm_at (w : World) : SliceAt Rep.instr (w.alloc (.cells wcells 64)) (fun b => b = w.heap.size ∨ nob b) (some ⟨w.heap.size, 0, none⟩) 5 WM := by
  refine SliceAt.newRow Rep.instr w 64 wcells WM nob 5 5 rfl (by omega) (by simp [maxLen]) (fun i hi => ?_) (fun _ h => h.elim)
  have : i = 0 ∨ i = 1 ∨ i = 2 ∨ i = 3 ∨ i = 4 := by simp [WM] at hi; omega
  rcases this with rfl | rfl | rfl | rfl | rfl <;> exact Rep.instr_is.2 ⟨rfl, rfl, rfl, rfl, rfl, rfl, rfl, rfl⟩
/-- A text just laid. -/
theorem bytes_at (w : World) (cs : Array Value) (l : List UInt8) (n : Nat) (fr : Nat × Nat) (hn : l.length = n) (hm : n ≤ maxLen) (h : cs.toList = bcells l) : SliceAt Rep.byte (w.alloc (.cells cs 5 fr)) (fun b => b = w.heap.size ∨ nob b) (some ⟨w.heap.size, 0, none⟩) n l := by
  refine SliceAt.newRow Rep.byte w 5 cs l nob n n hn (Nat.le_refl _) hm (fun i hi => ?_) (fun _ h => h.elim) fr
  rw [h]
  simp [Rep.byte, bcells, List.drop_eq_getElem_cons, hi]
theorem Only.from_alloc {F : Blocks} {w w' : World} {o : Obj} (h : Only F (w.alloc o) w') : Only F w w' := ((Only.refl F w).alloc o).trans h fun _ h => .inl h
/-- What is known of the search between the calls of works. -/
structure WS (w0 w : World) (B gs : Nat) (F : Blocks) (st : Nat) (E : List Bool) : Prop where
  s : Srch w B gs WM F st E
  b : Below w0.heap.size w0 w
  hB : w0.heap.size ≤ B
theorem WS.next {w0 w w' : World} {B gs : Nat} {F F' : Blocks} {st st' : Nat} {E E' : List Bool} {o : Obj} (h : WS w0 w B gs F st E) (hs : Srch w' B gs WM F' st' E') (ho : Only F (w.alloc o) w') : WS w0 w' B gs F' st' E' :=
  ⟨hs, h.b.trans (ho.from_alloc.below h.b.size fun b hb => Nat.le_trans h.hB (h.s.lt b hb).1), h.hB⟩
theorem WS.alloc {w0 w : World} {B gs : Nat} {F : Blocks} {st : Nat} {E : List Bool} (h : WS w0 w B gs F st E) (o : Obj) : WS w0 (w.alloc o) B gs F st E := ⟨h.s.far ((Below.refl _ _).alloc (Nat.le_refl _) _), h.b.alloc h.b.size _, h.hB⟩
theorem WS.steps {w0 w : World} {B gs : Nat} {F : Blocks} {st : Nat} {E : List Bool} (h : WS w0 w B gs F st E) : Calls Try.prog 18 #[.pointer (some ⟨gs, 0, none⟩)] (w.alloc (.cells #[.int .i64 1, .int .i64 4] 42)) fun e w' =>
    e = .returned (.int .i64 st) ∧ WS w0 w' B gs F st E ∧ w'.heap[w.heap.size]? = some (.cells #[.int .i64 1, .int .i64 4] 42 (0, 0)) ∧ ¬ F w.heap.size ∧ w.heap.size < w'.heap.size := by
  have h5 := h.alloc (.cells #[.int .i64 1, .int .i64 4] 42)
  refine (steps_any _ gs WM F st E _ h5.s).mono ?_
  rintro e w' ⟨rfl, rfl⟩
  exact ⟨rfl, h5, heap_alloc_new _ _, fun hF => absurd (h.s.lt _ hF).2 (by omega), by simp⟩
theorem WS.find {w0 w : World} {B gs : Nat} {F : Blocks} {st : Nat} {E : List Bool} (h : WS w0 w B gs F st E) (cs : Array Value) (l : List UInt8) (n : Nat) (fr : Nat × Nat) (hn : l.length = n) (hm : n ≤ 100) (hcs : cs.toList = bcells l) (at_ : Nat) :
    Calls Try.prog 15 #[.pointer (some ⟨gs, 0, none⟩), .slice (some ⟨w.heap.size, 0, none⟩) n n, .int .i64 at_] (w.alloc (.cells cs 5 fr)) fun e w' =>
      e = .returned (.tuple #[.agg #[.int .i64 (spanA (findAll WM l at_).1), .int .i64 (spanB (findAll WM l at_).1)], .bool (findAll WM l at_).1.isSome]) ∧ ∃ F' E', WS w0 w' B gs F' (findAll WM l at_).2 E' ∧ ∀ q, q < w.heap.size → ¬ F q → w'.heap[q]? = w.heap[q]? ∧ ¬ F' q := by
  refine (find_in B gs WM F st E _ _ n n at_ l _ (h.s.far ((Below.refl _ _).alloc (Nat.le_refl _) _)) wm_shaped.wf (by decide) (by decide) (by omega) ?_ hn.symm (bytes_at w cs l n fr hn (by simp only [maxLen]; omega) hcs) fun b hb => ?_).mono ?_
  · have h1 : WM.length * (n + 1) ≤ 5 * 101 := Nat.mul_le_mul (by decide) (by omega)
    have h2 : (n + 1) * (1 + 2 * (WM.length * (n + 1))) ≤ 101 * (1 + 2 * (5 * 101)) := Nat.mul_le_mul (by omega) (by omega)
    omega
  · rcases hb with rfl | hb
    · exact ⟨by simp, fun hF => by have := (h.s.lt _ hF).2; omega⟩
    · exact hb.elim
  · rintro e w' ⟨F', E', rfl, hs, ho, hF⟩
    refine ⟨rfl, F', E', h.next hs ho, fun q hq hn => ⟨ho.from_alloc.block q hq hn, fun h' => ?_⟩⟩
    rcases hF q h' with h' | h'
    · exact hn h'
    · simp at h'; omega
theorem WS.ends {w0 w : World} {B gs : Nat} {F : Blocks} {st : Nat} {E : List Bool} (h : WS w0 w B gs F st E) (cs : Array Value) (l : List UInt8) (n : Nat) (fr : Nat × Nat) (hn : l.length = n) (hm : n ≤ 100) (hcs : cs.toList = bcells l) (at_ : Nat) (hat : at_ ≤ n) :
    Calls Try.prog 17 #[.pointer (some ⟨gs, 0, none⟩), .slice (some ⟨w.heap.size, 0, none⟩) n n, .int .i64 at_] (w.alloc (.cells cs 5 fr)) fun e w' =>
      ∃ g c, e = .returned (.slice (some ⟨g, 0, none⟩) (n + 1) c) ∧ n + 1 ≤ c ∧ c ≤ 9223372036854775807 ∧ (∀ i (hi : i < (fromAll WM l at_ 0).1.length), w'.cell? ⟨g, i, none⟩ = some (.bool (fromAll WM l at_ 0).1[i])) ∧ Below w0.heap.size w0 w' ∧ ∀ q, q < w.heap.size → ¬ F q → w'.heap[q]? = w.heap[q]? := by
  refine (ends_in B gs WM F st E _ _ n n at_ l _ (h.s.far ((Below.refl _ _).alloc (Nat.le_refl _) _)) wm_shaped.wf (by decide) (by decide) (by omega) ?_ hn.symm hat (bytes_at w cs l n fr hn (by simp only [maxLen]; omega) hcs) fun b hb => ?_).mono ?_
  · have h1 : WM.length * (n + 1) ≤ 5 * 101 := Nat.mul_le_mul (by decide) (by omega)
    omega
  · rcases hb with rfl | hb
    · exact ⟨by simp, fun hF => by have := (h.s.lt _ hF).2; omega⟩
    · exact hb.elim
  · rintro e w' ⟨v, F', rfl, hv, hs, ho, -, -⟩
    have hlen := fromAll_len WM l at_ 0
    obtain ⟨g, c, u, rfl, -, -, -, -, -, -⟩ := hv.cellAt rfl (k := 0) (by omega)
    obtain ⟨_, _, _, he, hl, hc1, hc2⟩ := hv.form
    simp only [Value.slice.injEq] at he
    obtain ⟨-, rfl, rfl⟩ := he
    have hl' : (fromAll WM l at_ 0).1.length = n + 1 := by omega
    refine ⟨g, c, by rw [hl'], by omega, hc2, fun i hi => ?_, (h.next hs ho).b, fun q hq hn => ho.from_alloc.block q hq hn⟩
    obtain ⟨g', c', u, he, -, -, hc, -, hu, -⟩ := hv.cellAt rfl hi
    simp only [Value.slice.injEq, Option.some.injEq, Addr.mk.injEq] at he
    obtain ⟨⟨rfl, -⟩, -, -⟩ := he
    simp only [Rep.bool, List.cons.injEq, and_true] at hu
    rw [hc, hu]
set_option maxRecDepth 100000 in
set_option maxHeartbeats 4000000 in
theorem works_any (w : World) : Calls Try.prog 19 #[] w fun e w' => e = .returned (.bool true) ∧ Below w.heap.size w w' := by
  have kc := fun (w : World) (C : Array Value) (n c : Nat) => Lib.run_convert_bytes_const (P := Try.prog) w 23 5 C n c Try.underlying23 Try.underlying5
  have kc2 : ∀ (w : World) (o : Obj) (C : Array Value) (n c : Nat), (convert 23 23 (.slice (some ⟨w.heap.size + 1, 0, none⟩) n c)).run Try.prog ((w.alloc o).alloc (.cells C 5)) = .ok (.slice (some ⟨w.heap.size + 1, 0, none⟩) n c) ((w.alloc o).alloc (.cells C 5 (C.size, C.size + 1))) := fun w o C n c => by
    have h := Lib.run_convert_bytes_const (P := Try.prog) (w.alloc o) 23 5 C n c Try.underlying23 Try.underlying5
    have e : (w.alloc o).heap.size = w.heap.size + 1 := by simp
    rw [e] at h
    exact h
  go_enter Try.func19, Try.ntmps19
  go_wp2_with fail
  refine (one97 _).mono ?_
  rintro e w1 ⟨rfl, hb1⟩
  have HB1 := Lib.hid hb1
  clear hb1
  go_wp2_with fail
  refine (one98 _).mono ?_
  rintro e w2 ⟨rfl, hb2⟩
  have HB2 := Lib.hid hb2
  clear hb2
  have hnew := new_ok WM (some ⟨w2.heap.size, 0, none⟩) 5 5 (w2.alloc (.cells wcells 64)) _ (wm_at w2) (fun b hb => by rcases hb with h | h; simp [h]; exact h.elim) rfl wm_shaped
  go_wp2_with fail
  refine hnew.mono ?_
  rintro e w3 ⟨gs, F, rfl, hs3, hb3⟩
  have hb30 : Below w.heap.size w w3 := by
    have h1 := HB1.out
    have h2 := HB2.out
    exact ((h1.trans (h2.mono h1.size)).alloc (h1.trans (h2.mono h1.size)).size (.cells wcells 64)).trans (hb3.mono (by simp; have := h1.size; have := h2.size; omega))
  have hws : WS w w3 (w2.alloc (.cells wcells 64)).heap.size gs F 0 [] := ⟨hs3, hb30, by simp; have := HB1.out.size; have := HB2.out.size; omega⟩
  have h1 := hws.find #[.int .u8 99, .int .u8 97, .int .u8 97, .int .u8 98, .int .u8 97, .int .u8 98] [99, 97, 97, 98, 97, 98] 6 (6, 7) rfl (by omega) rfl 0
  have hst := wm_steps
  rw [wm_find] at h1
  simp only [show spanA (some (1, 4)) = 1 from rfl, show spanB (some (1, 4)) = 4 from rfl, show (some ((1 : Nat), (4 : Int))).isSome = true from rfl] at h1
  obtain ⟨st, hste⟩ : ∃ st, st = (findAll WM [99, 97, 97, 98, 97, 98] 0).2 := ⟨_, rfl⟩
  rw [← hste] at h1 hst
  have H1 := Lib.hid h1
  clear hb3 hs3 hnew hb30 hws h1 hste
  go_wp2_with fail
  refine H1.out.mono ?_
  rintro e w4 ⟨rfl, F4, E4, hws4, -⟩
  have hsteps := hws4.steps
  have HS5 := Lib.hid hsteps
  have hst' : (0 : Int) < st := by omega
  clear hws4 hsteps
  go_wp2_with fail
  refine HS5.out.mono ?_
  rintro e w5 ⟨rfl, hws5, hq5, hn5, hz5⟩
  have h2 := hws5.find #[.int .u8 97, .int .u8 97, .int .u8 97] [97, 97, 97] 3 (3, 4) rfl (by omega) rfl 0
  rw [wm_none] at h2
  simp only [show spanA none = 0 from rfl, show spanB none = 0 from rfl, show (none : Option (Nat × Int)).isSome = false from rfl] at h2
  have H2 := Lib.hid h2
  have HQ5 := Lib.hid hq5
  have HN5 := Lib.hid hn5
  clear hws5 h2 hq5 hn5
  go_wp2_with fail
  refine H2.out.mono ?_
  rintro e w6 ⟨rfl, F6, E6, hws6, hk6⟩
  have hq6 := hk6 w4.heap.size hz5 HN5.out
  have hws7 := hws6.alloc (.cells #[.int .i64 0, .int .i64 0] 42)
  have hq7 : (w6.alloc (.cells #[.int .i64 0, .int .i64 0] 42)).heap[w4.heap.size]? = some (.cells #[.int .i64 1, .int .i64 4] 42 (0, 0)) := by
    rw [Below.heap_alloc _ _ _ (by rcases Nat.lt_or_ge w4.heap.size w6.heap.size with h | h; exact h; have := hq6.1.trans HQ5.out; rw [Array.getElem?_eq_none h] at this; cases this), hq6.1, HQ5.out]
  have h3 := hws7.ends #[.int .u8 97, .int .u8 98] [97, 98] 2 (2, 3) rfl (by omega) rfl 1 (by omega)
  rw [wm_ends] at h3
  have e6 : (w6.alloc (.cells #[.int .i64 0, .int .i64 0] 42)).heap.size = w6.heap.size + 1 := by simp
  rw [e6, show ((1 : Nat) : Int) = 1 from rfl] at h3
  have H3 := Lib.hid h3
  have HQ7 := Lib.hid hq7
  have HN7 := Lib.hid hq6.2
  clear hws6 hws7 h3 hq7 hq6 hk6
  go_wp2_with fail
  refine H3.out.mono ?_
  rintro e w8 ⟨g, c, rfl, hc1, hc2, hcell, hb8, hk8⟩
  have hq8 := (hk8 w4.heap.size (by rcases Nat.lt_or_ge w4.heap.size (w6.heap.size + 1) with h | h; exact h; have := HQ7.out; rw [Array.getElem?_eq_none (by simpa using h)] at this; cases this) HN7.out).trans HQ7.out
  have e0 := cell_of_row w8 w4.heap.size 0 _ _ _ hq8
  have e1 := cell_of_row w8 w4.heap.size 1 _ _ _ hq8
  have f0 := hcell 0 (by simp)
  have f1 := hcell 1 (by simp)
  have f2 := hcell 2 (by simp)
  simp at e0 e1 f0 f1 f2
  have HB8 := Lib.hid hb8
  clear hcell hk8 hq8 hb8
  go_wp2_with fail
  go_ret
  exact ⟨rfl, HB8.out⟩
end Go.Proofs.Ytfbaaccnnogajaa
