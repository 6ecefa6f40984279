/- Texts that lead to the claim, one behind the other: The law's works: the walk. Condition: the library's variables hold what they hold. | The law's works: the walk. Condition: the library's variables hold what they hold. -/
import Derived.Test.YtnpideapdjomgaaDoorRA40
import Derived.Test.YtnpideapdjomgaaDoorRA11
import Derived.Test.YtnpideapdjomgaaDoorRA44
namespace Go.Proofs.YtnpideapdjomgaaDoor
open Go.RowKit Go.ChangeShapes Go.WideShapes Go.Deep

theorem wpList_build {P : Program} {ops : Array Oper} {rest : List Oper} {op : Oper} {a : Act} {w : World} {Q : Exit → Act → World → Prop} (hgd : op.guard = none) (t : TypeId) (parts : Array (Nat × Operand)) (ho : op.op = .build t parts) (qs : Array (Nat × Value)) (hp : (parts.map fun p => (p.1, a.eval p.2)) = qs) (v : Value)
    (hr : (Instr.build t qs).run P w = .ok v w) (h : wpList P ops Q rest (a.put op.dst v) w) : wpList P ops Q (op :: rest) a w :=
  wpList_plain hgd fun _ hK => by
    unfold Oper.wp execOp
    simp only [ho, hp, Sem.run_bind, hr, Result.andThen_ok, Sem.run_pure]
    exact hK _ _ h
theorem wpList_buildSlice {P : Program} {ops : Array Oper} {rest : List Oper} {op : Oper} {a : Act} {w w' : World} {Q : Exit → Act → World → Prop} (hgd : op.guard = none) (t : TypeId) (n : Nat) (parts : Array (Nat × Operand)) (ho : op.op = .buildSlice t n parts) (qs : Array (Nat × Value)) (hp : (parts.map fun p => (p.1, a.eval p.2)) = qs) (v : Value)
    (hr : (Instr.buildSlice t n qs).run P w = .ok v w') (h : wpList P ops Q rest (a.put op.dst v) w') : wpList P ops Q (op :: rest) a w :=
  wpList_plain hgd fun _ hK => by
    unfold Oper.wp execOp
    simp only [ho, hp, Sem.run_bind, hr, Result.andThen_ok, Sem.run_pure]
    exact hK _ _ h
def noAd : Ad := ⟨0, 0, []⟩
def cmOf (n : UInt8) (p : Int) (t : List UInt8) : Cm := ⟨noAd, noAd, false, n, p, t, [], [], 0, false, false, false, zeros⟩
def cmS (A : Option Addr) (c : Nat) : CmS := ⟨none, 0, none, 0, A, c, none, 0, none, 0⟩
theorem cmOf_wf (n : UInt8) (p : Int) (t : List UInt8) (h : (Lit.int .i64 p).wf = true) : (cmOf n p t).wf := ⟨rfl, rfl, rfl, rfl, h, rfl, zeros_len⟩
def cmX (n : UInt8) (p : Int) (t : List UInt8) (A : Option Addr) (c : Nat) : Array Value := (ccells (cmOf n p t) (cmS A c)).toArray
theorem run_build_0 (w : World) : (Instr.build 44 #[(3, .int .u8 123)]).run Tryd.prog w = .ok (.agg (cmX 123 0 [] none 0)) w := by kernel_rfl
theorem run_build_1 (w : World) : (Instr.build 44 #[(3, .int .u8 112), (4, .int .i64 1)]).run Tryd.prog w = .ok (.agg (cmX 112 1 [] none 0)) w := by kernel_rfl
theorem run_build_2 (w : World) : (Instr.build 44 #[(3, .int .u8 125), (4, .int .i64 2)]).run Tryd.prog w = .ok (.agg (cmX 125 2 [] none 0)) w := by kernel_rfl
theorem run_build_3 (w : World) (G : Nat) : (Instr.build 44 #[(3, .int .u8 98), (4, .int .i64 3), (5, .slice (some ⟨G, 0, none⟩) 1 1)]).run Tryd.prog w = .ok (.agg (cmX 98 3 [120] (some ⟨G, 0, none⟩) 1)) w := by kernel_rfl
theorem run_build_4 (w : World) (G : Nat) : (Instr.build 44 #[(3, .int .u8 58), (4, .int .i64 4), (5, .slice (some ⟨G, 0, none⟩) 1 1)]).run Tryd.prog w = .ok (.agg (cmX 58 4 [120] (some ⟨G, 0, none⟩) 1)) w := by kernel_rfl
theorem run_build_5 (w : World) : (Instr.build 44 #[(3, .int .u8 125), (4, .int .i64 7)]).run Tryd.prog w = .ok (.agg (cmX 125 7 [] none 0)) w := by kernel_rfl
theorem flatC_at (sz : Nat) : ∀ (Xs : List (Array Value)), (∀ X ∈ Xs, X.size = sz) → ∀ i (h : i < Xs.length), ((flatC Xs).drop (i * sz)).take sz = Xs[i].toList := by
  intro Xs
  induction Xs with
  | nil => intro _ i h; exact absurd h (by simp)
  | cons X Xs ih =>
    intro hX i h
    have e : flatC (X :: Xs) = X.toList ++ flatC Xs := by simp [flatC]
    have hx : X.toList.length = sz := by rw [Array.length_toList]; exact hX X (by simp)
    cases i with
    | zero => rw [e, Nat.zero_mul, List.drop_zero, List.take_append_of_le_length (by omega), List.take_of_length_le (by omega)]; rfl
    | succ i =>
      have := ih (fun Y hY => hX Y (List.mem_cons_of_mem _ hY)) i (by simpa using h)
      rw [e, Nat.succ_mul, List.drop_append, List.drop_of_length_le (by omega), List.nil_append, show i * sz + sz - X.toList.length = i * sz from by omega, this]
      rfl
/-- Commands written out, in new memory. -/
theorem cms_new (w : World) (S : Blocks) (Xs : List (Array Value)) (l : List Cm) (hl : l.length = Xs.length) (h : ∀ i (h1 : i < l.length) (h2 : i < Xs.length), ∃ s, CmX Xs[i] l[i] s ∧ CmL w S l[i] s) (hS : ∀ b, S b → b < w.heap.size) (hm : Xs.length ≤ maxLen) :
    SliceAt Rep.cm (w.alloc (.cells (flatC Xs).toArray 44)) (fun b => b = w.heap.size ∨ S b) (some ⟨w.heap.size, 0, none⟩) Xs.length l := by
  have hsz : ∀ X ∈ Xs, X.size = 272 := by
    intro X hX
    obtain ⟨i, hi, rfl⟩ := List.mem_iff_getElem.1 hX
    obtain ⟨s, hx, _⟩ := h i (by omega) hi
    exact hx.size
  refine SliceAt.newRow Rep.cm w _ _ l S Xs.length Xs.length hl (Nat.le_refl _) hm (fun i hi => ?_) hS
  obtain ⟨s, hx, hls⟩ := h i hi (by omega)
  refine ⟨s, ?_, hx.wf, hls⟩
  show ((flatC Xs).drop (i * 272)).take 272 = _
  rw [flatC_at 272 Xs hsz i (by omega), hx.list]
theorem cmX_ok (n : UInt8) (p : Int) (t : List UInt8) (A : Option Addr) (c : Nat) (h : (Lit.int .i64 p).wf = true) : CmX (cmX n p t A c) (cmOf n p t) (cmS A c) := ⟨by unfold cmX; rfl, cmOf_wf n p t h⟩
theorem cmL_ok (w : World) (S : Blocks) (n : UInt8) (p : Int) (t : List UInt8) (A : Option Addr) (c : Nat) (h : SliceAt Rep.byte w S A c t) : CmL w S (cmOf n p t) (cmS A c) := ⟨SliceAt.nil _ _ _, SliceAt.nil _ _ _, h, SliceAt.nil _ _ _, SliceAt.nil _ _ _⟩
theorem cmRoom (n : UInt8) (p : Int) (t : List UInt8) (h : t.length ≤ 8) : (cmOf n p t).room := ⟨by simp [cmOf, noAd], by simp [cmOf, noAd], by show t.length ≤ _; omega, by simp [cmOf], by simp [cmOf], by simp [cmOf]⟩
def worksL : List Cm := [cmOf 123 0 [], cmOf 112 1 [], cmOf 125 2 [], cmOf 98 3 [120], cmOf 58 4 [120]]
theorem works_res : Res.resolve (worksL.map Cm.rc) = .ok ([3, -1, -1, 5, -1], []) := by kernel_rfl
theorem works_res2 : Res.resolve ([cmOf 125 7 []].map Cm.rc) = .error (76, 0) := by kernel_rfl
end Go.Proofs.YtnpideapdjomgaaDoor
namespace Go.Proofs.YtnpideapdjomgaaDoor
open Go.RowKit Go.ChangeShapes Go.WideShapes Go.Deep

set_option maxRecDepth 100000 in
theorem works_one (w : World) (hE : Env22 w) (A : Option Addr) (c : Nat) (S : Blocks) (hl : SliceAt Rep.cm w S A c worksL) (hS : ∀ b, S b → b < w.heap.size) :
    Calls Tryd.prog 8 #[.slice A 5 c, .bool true] w fun e w' => ∃ A1 c1 A2 c2 A3 c3, e = .returned (.tuple #[.agg #[.slice A1 5 c1, .slice A2 5 c2, .slice A3 0 c3, .bool true], .int .i64 0, .int .i64 0]) ∧ Below w.heap.size w w' ∧ SliceAt (Rep.int .i64) w' (btw w.heap.size w'.heap.size) A2 c2 [3, -1, -1, 5, -1] := by
  refine (resolve_any A 5 c worksL true w S (Lib.hid rfl) (Lib.hid hl) (Lib.hid hS) (Lib.hid hE) (Lib.hid ?_) (by omega)).mono ?_
  · intro x hx
    simp only [worksL, List.mem_cons, List.mem_nil_iff, or_false] at hx
    rcases hx with rfl | rfl | rfl | rfl | rfl <;> exact cmRoom _ _ _ (by simp)
  · rintro e w' ⟨hb, h⟩
    rw [works_res] at h
    obtain ⟨A1, c1, A3, c3, fs, rfl, hok⟩ := h
    have h2 := ints_of hok.tob hok.tw (by simp)
    have h4 := hok.fl
    have h0 : fs = [] := by simpa using h4
    subst h0
    exact ⟨A1, c1, _, 5, A3, c3, rfl, hb, h2.up fun b hb => by
      subst hb
      exact ⟨by omega, (Array.getElem?_eq_some_iff.1 hok.tob).1⟩⟩
set_option maxRecDepth 100000 in
theorem works_two (w : World) (hE : Env22 w) (A : Option Addr) (c : Nat) (S : Blocks) (hl : SliceAt Rep.cm w S A c [cmOf 125 7 []]) (hS : ∀ b, S b → b < w.heap.size) :
    Calls Tryd.prog 8 #[.slice A 1 c, .bool false] w fun e w' => e = .returned (.tuple #[.agg #[.slice none 0 0, .slice none 0 0, .slice none 0 0, .bool false], .int .i64 76, .int .i64 7]) ∧ Below w.heap.size w w' := by
  refine (resolve_any A 1 c [cmOf 125 7 []] false w S (Lib.hid rfl) (Lib.hid hl) (Lib.hid hS) (Lib.hid hE) (Lib.hid ?_) (by omega)).mono ?_
  · intro x hx
    rw [List.mem_singleton.1 hx]; exact cmRoom _ _ _ (by simp)
  · rintro e w' ⟨hb, h⟩
    rw [works_res2] at h
    obtain ⟨hi, rfl⟩ := h
    exact ⟨rfl, hb⟩
set_option maxRecDepth 100000 in
set_option maxHeartbeats 8000000 in
theorem works_any (w : World) (hE : Hid (Env22 w)) : Calls Tryd.prog 6 #[] w fun e w' => e = .returned (.bool true) ∧ Below w.heap.size w w' := by
  obtain ⟨X0, hX0⟩ : ∃ X, X = cmX 123 0 [] none 0 := ⟨_, rfl⟩
  obtain ⟨X1, hX1⟩ : ∃ X, X = cmX 112 1 [] none 0 := ⟨_, rfl⟩
  obtain ⟨X2, hX2⟩ : ∃ X, X = cmX 125 2 [] none 0 := ⟨_, rfl⟩
  obtain ⟨X3, hX3⟩ : ∃ X, X = cmX 98 3 [120] (some ⟨w.heap.size, 0, none⟩) 1 := ⟨_, rfl⟩
  obtain ⟨X4, hX4⟩ : ∃ X, X = cmX 58 4 [120] (some ⟨w.heap.size + 1, 0, none⟩) 1 := ⟨_, rfl⟩
  obtain ⟨X5, hX5⟩ : ∃ X, X = cmX 125 7 [] none 0 := ⟨_, rfl⟩
  have hc0 : CmX X0 (cmOf 123 0 []) (cmS none 0) := by rw [hX0]; exact cmX_ok _ _ _ _ _ rfl
  have hc1 : CmX X1 (cmOf 112 1 []) (cmS none 0) := by rw [hX1]; exact cmX_ok _ _ _ _ _ rfl
  have hc2 : CmX X2 (cmOf 125 2 []) (cmS none 0) := by rw [hX2]; exact cmX_ok _ _ _ _ _ rfl
  have hc3 : CmX X3 (cmOf 98 3 [120]) (cmS (some ⟨w.heap.size, 0, none⟩) 1) := by rw [hX3]; exact cmX_ok _ _ _ _ _ rfl
  have hc4 : CmX X4 (cmOf 58 4 [120]) (cmS (some ⟨w.heap.size + 1, 0, none⟩) 1) := by rw [hX4]; exact cmX_ok _ _ _ _ _ rfl
  have hc5 : CmX X5 (cmOf 125 7 []) (cmS none 0) := by rw [hX5]; exact cmX_ok _ _ _ _ _ rfl
  have B0 : Hid (∀ W, (Instr.build 44 #[(3, .int .u8 123)]).run Tryd.prog W = .ok (.agg X0) W) := Lib.hid fun W => by rw [hX0]; exact run_build_0 W
  have B1 : Hid (∀ W, (Instr.build 44 #[(3, .int .u8 112), (4, .int .i64 1)]).run Tryd.prog W = .ok (.agg X1) W) := Lib.hid fun W => by rw [hX1]; exact run_build_1 W
  have B2 : Hid (∀ W, (Instr.build 44 #[(3, .int .u8 125), (4, .int .i64 2)]).run Tryd.prog W = .ok (.agg X2) W) := Lib.hid fun W => by rw [hX2]; exact run_build_2 W
  have B3 : Hid (∀ W, (Instr.build 44 #[(3, .int .u8 98), (4, .int .i64 3), (5, .slice (some ⟨w.heap.size, 0, none⟩) 1 1)]).run Tryd.prog W = .ok (.agg X3) W) := Lib.hid fun W => by rw [hX3]; exact run_build_3 W _
  have B4 : Hid (∀ W, (Instr.build 44 #[(3, .int .u8 58), (4, .int .i64 4), (5, .slice (some ⟨w.heap.size + 1, 0, none⟩) 1 1)]).run Tryd.prog W = .ok (.agg X4) W) := Lib.hid fun W => by rw [hX4]; exact run_build_4 W _
  have B5 : Hid (∀ W, (Instr.build 44 #[(3, .int .u8 125), (4, .int .i64 7)]).run Tryd.prog W = .ok (.agg X5) W) := Lib.hid fun W => by rw [hX5]; exact run_build_5 W
  obtain ⟨w2, hw2⟩ : ∃ W, W = (w.alloc (.cells #[.int .u8 120] 5 (1, 2))).alloc (.cells #[.int .u8 120] 5 (1, 2)) := ⟨_, rfl⟩
  have hb2 : Below w.heap.size w w2 := by rw [hw2]; exact ((Below.refl _ w).alloc (Nat.le_refl _) _).alloc (by simp) _
  have hs2 : w2.heap.size = w.heap.size + 1 + 1 := by rw [hw2]; simp
  have t3 : SliceAt Rep.byte w2 (under w2.heap.size) (some ⟨w.heap.size, 0, none⟩) 1 [120] := by
    have h := SliceAt.newBytes w 5 #[.int .u8 120] [120] 1 (by simp) (by simp [maxLen]) rfl (1, 2)
    refine h.keep (fun b hb => ?_) ?_
    · have : b < w.heap.size + 1 := hb
      show b < w2.heap.size; omega
    · intro b hb
      rw [hw2]
      exact Below.heap_alloc _ _ _ (by have : b < w.heap.size + 1 := hb; simpa using this)
  have t4 : SliceAt Rep.byte w2 (under w2.heap.size) (some ⟨w.heap.size + 1, 0, none⟩) 1 [120] := by
    have h := SliceAt.newBytes (w.alloc (.cells #[.int .u8 120] 5 (1, 2))) 5 #[.int .u8 120] [120] 1 (by simp) (by simp [maxLen]) rfl (1, 2)
    rw [← hw2] at h
    have e : (w.alloc (.cells #[.int .u8 120] 5 (1, 2))).heap.size = w.heap.size + 1 := by simp
    rw [e] at h
    exact h.up fun b hb => by have : b < w.heap.size + 1 + 1 := hb; show b < w2.heap.size; omega
  have hsz : ∀ X ∈ [X0, X1, X2, X3, X4], X.size = 272 := by
    intro X hX
    simp only [List.mem_cons, List.mem_nil_iff, or_false] at hX
    rcases hX with rfl | rfl | rfl | rfl | rfl
    · exact hc0.size
    · exact hc1.size
    · exact hc2.size
    · exact hc3.size
    · exact hc4.size
  obtain ⟨F5, hF5⟩ : ∃ F, F = (flatC [X0, X1, X2, X3, X4]).toArray := ⟨_, rfl⟩
  have BS1 : Hid ((Instr.buildSlice 22 5 #[(0, .agg X0), (1, .agg X1), (2, .agg X2), (3, .agg X3), (4, .agg X4)]).run Tryd.prog w2 = .ok (.slice (some ⟨w.heap.size + 1 + 1, 0, none⟩) 5 5) (w2.alloc (.cells F5 44))) := Lib.hid (by
    have := run_build_cms w2 [X0, X1, X2, X3, X4] hsz (by simp) (by simp)
    rw [hs2, ← hF5] at this
    exact this)
  have HSL : Hid (SliceAt Rep.cm (w2.alloc (.cells F5 44)) (fun b => b = w2.heap.size ∨ under w2.heap.size b) (some ⟨w.heap.size + 1 + 1, 0, none⟩) 5 worksL) := Lib.hid (by
    have := cms_new w2 (under w2.heap.size) [X0, X1, X2, X3, X4] worksL rfl (fun i h1 h2 => by
      match i, h1, h2 with
      | 0, _, _ => exact ⟨_, hc0, cmL_ok _ _ _ _ _ _ _ (SliceAt.nil _ _ _)⟩
      | 1, _, _ => exact ⟨_, hc1, cmL_ok _ _ _ _ _ _ _ (SliceAt.nil _ _ _)⟩
      | 2, _, _ => exact ⟨_, hc2, cmL_ok _ _ _ _ _ _ _ (SliceAt.nil _ _ _)⟩
      | 3, _, _ => exact ⟨_, hc3, cmL_ok _ _ _ _ _ _ _ t3⟩
      | 4, _, _ => exact ⟨_, hc4, cmL_ok _ _ _ _ _ _ _ t4⟩) (fun _ h => h) (by simp [maxLen])
    rw [hs2, ← hF5] at this
    rw [hs2]; exact this)
  obtain ⟨w3, hw3⟩ : ∃ W, W = w2.alloc (.cells F5 44) := ⟨_, rfl⟩
  have HB3 : Hid (Below w.heap.size w w3) := Lib.hid (by rw [hw3]; exact hb2.alloc hb2.size _)
  have HR1 := Lib.hid (works_one w3 (hE.out.below HB3.out) _ 5 _ (by rw [hw3]; exact HSL.out) (by rw [hw3]; rintro b (rfl | hb); simp; exact Nat.lt_of_lt_of_le hb (by simp)))
  have kc := fun (w : World) (C : Array Value) (n c : Nat) => Lib.run_convert_bytes_const (P := Tryd.prog) w 39 5 C n c Tryd.underlying39 Tryd.underlying5
  have kc2 : ∀ (w : World) (o : Obj) (C : Array Value) (n c : Nat), (convert 39 39 (.slice (some ⟨w.heap.size + 1, 0, none⟩) n c)).run Tryd.prog ((w.alloc o).alloc (.cells C 5)) = .ok (.slice (some ⟨w.heap.size + 1, 0, none⟩) n c) ((w.alloc o).alloc (.cells C 5 (C.size, C.size + 1))) := fun w o C n c => by
    have h := Lib.run_convert_bytes_const (P := Tryd.prog) (w.alloc o) 39 5 C n c Tryd.underlying39 Tryd.underlying5
    have e : (w.alloc o).heap.size = w.heap.size + 1 := by simp
    rw [e] at h
    exact h
  have HW2 := Lib.hid hw2
  have HW3 := Lib.hid hw3
  have HC5 := Lib.hid hc5
  clear hX0 hX1 hX2 hX3 hX4 hX5 hc0 hc1 hc2 hc3 hc4 hc5 hw2 hw3 hb2 hs2 t3 t4 hsz hF5 HSL
  go_enter Tryd.func6, Tryd.ntmps6
  go_upto_region 2 with (first
    | (refine wpList_build rfl 44 #[(3, .const (.int .u8 123))] rfl _ (by simp [Act.eval]) _ (B0.out _) ?_)
    | (refine wpList_build rfl 44 #[(3, .const (.int .u8 112)), (4, .const (.int .i64 1))] rfl _ (by simp [Act.eval]) _ (B1.out _) ?_)
    | (refine wpList_build rfl 44 #[(3, .const (.int .u8 125)), (4, .const (.int .i64 2))] rfl _ (by simp [Act.eval]) _ (B2.out _) ?_)
    | (refine wpList_build rfl 44 #[(3, .const (.int .u8 98)), (4, .const (.int .i64 3)), (5, .tmp 12)] rfl _ (by simp [Act.eval]) _ (B3.out _) ?_)
    | (refine wpList_build rfl 44 #[(3, .const (.int .u8 58)), (4, .const (.int .i64 4)), (5, .tmp 15)] rfl _ (by simp [Act.eval]) _ (B4.out _) ?_; rw [← HW2.out])
    | (refine wpList_buildSlice rfl 22 5 #[(0, .tmp 8), (1, .tmp 9), (2, .tmp 10), (3, .tmp 13), (4, .tmp 16)] rfl _ (by simp [Act.eval, Act.put]) _ BS1.out ?_; rw [← HW3.out])
    | (go_at_call 8; refine HR1.out.mono ?_; rintro _ w4 ⟨A1, c1, A2, c2, A3, c3, rfl, hb4, hs4⟩; have HB4 := Lib.hid hb4; have HS4 := Lib.hid hs4; clear hb4 hs4))
  clear kc kc2
  obtain ⟨P1, hP1⟩ : ∃ P1 : Array Value, P1 = #[.slice A1 5 c1, .slice A2 5 c2, .slice A3 0 c3, .bool true] := ⟨_, rfl⟩
  obtain ⟨w5, hw5⟩ : ∃ W, W = w4.alloc (.cells #[.slice A1 5 c1, .slice A2 5 c2, .slice A3 0 c3, .bool true] 28) := ⟨_, rfl⟩
  obtain ⟨g4, hg4⟩ : ∃ g, g = w4.heap.size := ⟨_, rfl⟩
  rw [← hw5, ← hg4]
  have HB5 : Hid (Below w4.heap.size w4 w5) := Lib.hid (by rw [hw5]; exact (Below.refl _ _).alloc (Nat.le_refl _) _)
  have HP5 : Hid (w5.heap[g4]? = some (.cells #[.slice A1 5 c1, .slice A2 5 c2, .slice A3 0 c3, .bool true] 28 (0, 0))) := Lib.hid (by rw [hw5, hg4]; exact heap_alloc_new _ _)
  have HWB5 : Hid (Below w.heap.size w w5) := Lib.hid (HB3.out.trans ((HB4.out.trans (HB5.out.mono HB4.out.size)).mono HB3.out.size))
  have BS2 : Hid ((Instr.buildSlice 22 1 #[(0, .agg X5)]).run Tryd.prog w5 = .ok (.slice (some ⟨w5.heap.size, 0, none⟩) 1 1) (w5.alloc (.cells X5 44))) := Lib.hid (by
    have := run_build_cms w5 [X5] (by intro Y hY; rw [List.mem_singleton.1 hY]; exact HC5.out.size) (by simp) (by simp)
    have e1 : (flatC [X5]).toArray = X5 := by unfold flatC; simp
    rw [e1] at this
    exact this)
  have HR2 : Hid (Calls Tryd.prog 8 #[.slice (some ⟨w5.heap.size, 0, none⟩) 1 1, .bool false] (w5.alloc (.cells X5 44)) fun e w' => e = .returned (.tuple #[.agg #[.slice none 0 0, .slice none 0 0, .slice none 0 0, .bool false], .int .i64 76, .int .i64 7]) ∧ Below w5.heap.size w5 w') := Lib.hid (by
    have hb6 : Below w5.heap.size w5 (w5.alloc (.cells X5 44)) := (Below.refl _ _).alloc (Nat.le_refl _) _
    refine (works_two _ (hE.out.below (HWB5.out.trans (hb6.mono HWB5.out.size))) _ 1 (fun b => b = w5.heap.size ∨ nob b) ?_ ?_).mono ?_
    · exact SliceAt.new1 Rep.cm w5 44 X5 (cmOf 125 7 []) nob ⟨_, HC5.out.list, HC5.out.wf, cmL_ok _ _ _ _ _ _ _ (SliceAt.nil _ _ _)⟩ (fun _ h => h.elim)
    · rintro b (rfl | hb)
      · simp
      · exact hb.elim
    · rintro e w' ⟨rfl, hb⟩
      exact ⟨rfl, hb6.trans (hb.mono hb6.size)⟩)
  clear hw5 hg4 hP1
  go_upto_region 3 with (first
    | (refine wpList_build rfl 44 #[(3, .const (.int .u8 125)), (4, .const (.int .i64 7))] rfl _ (by simp [Act.eval]) _ (B5.out _) ?_)
    | (refine wpList_buildSlice rfl 22 1 #[(0, .tmp 23)] rfl _ (by simp [Act.eval, Act.put]) _ BS2.out ?_)
    | (go_at_call 8; refine HR2.out.mono ?_; rintro _ w6 ⟨rfl, hb6⟩; have HB6 := Lib.hid hb6; clear hb6))
  obtain ⟨w7, hw7⟩ : ∃ W, W = w6.alloc (.cells #[.slice none 0 0, .slice none 0 0, .slice none 0 0, .bool false] 28) := ⟨_, rfl⟩
  rw [← hw7]
  have HB7 : Hid (Below w5.heap.size w5 w7) := Lib.hid (by rw [hw7]; exact HB6.out.alloc HB6.out.size _)
  clear hw7
  have hp7 : w7.heap[g4]? = some (.cells #[.slice A1 5 c1, .slice A2 5 c2, .slice A3 0 c3, .bool true] 28 (0, 0)) := (HB7.out.block _ (Array.getElem?_eq_some_iff.1 HP5.out).1).trans HP5.out
  have x0 : w7.cell? ⟨g4, 0, none⟩ = some (.slice A1 5 c1) := (cell_of_row w7 _ 0 _ _ (0, 0) hp7).trans rfl
  have x1 : w7.cell? ⟨g4, 1, none⟩ = some (.slice A2 5 c2) := (cell_of_row w7 _ 1 _ _ (0, 0) hp7).trans rfl
  have x3 : w7.cell? ⟨g4, 3, none⟩ = some (.bool true) := (cell_of_row w7 _ 3 _ _ (0, 0) hp7).trans rfl
  have HB8 : Hid (Below w.heap.size w (w7.alloc (.cells #[.int .i64 3, .int .i64 (-1), .int .i64 (-1), .int .i64 5, .int .i64 (-1)] 3))) := Lib.hid ((HWB5.out.trans (HB7.out.mono HWB5.out.size)).alloc (Nat.le_trans HWB5.out.size HB7.out.size) _)
  have HIN : Hid (Calls Tryd.prog 16 #[.slice A2 5 c2, .slice (some ⟨w7.heap.size, 0, none⟩) 5 5] (w7.alloc (.cells #[.int .i64 3, .int .i64 (-1), .int .i64 (-1), .int .i64 5, .int .i64 (-1)] 3)) fun e w' => e = .returned (.bool true) ∧ Below w.heap.size w w') := Lib.hid (by
    have hb : Below w4.heap.size w4 (w7.alloc (.cells #[.int .i64 3, .int .i64 (-1), .int .i64 (-1), .int .i64 5, .int .i64 (-1)] 3)) := (HB5.out.trans (HB7.out.mono HB5.out.size)).alloc (Nat.le_trans HB5.out.size HB7.out.size) _
    have s1 := HS4.out.keep (S' := under (w7.alloc (.cells #[.int .i64 3, .int .i64 (-1), .int .i64 (-1), .int .i64 5, .int .i64 (-1)] 3)).heap.size) (fun b h => Nat.lt_of_lt_of_le h.2 hb.size) (Same.of_below hb fun b h => h.2)
    have s2 := SliceAt.newRow (Rep.int .i64) w7 3 #[.int .i64 3, .int .i64 (-1), .int .i64 (-1), .int .i64 5, .int .i64 (-1)] [3, -1, -1, 5, -1] nob 5 5 rfl (Nat.le_refl _) (by simp [maxLen]) (fun i hi => by
      match i, hi with
      | 0, _ => exact ⟨rfl, rfl⟩
      | 1, _ => exact ⟨rfl, rfl⟩
      | 2, _ => exact ⟨rfl, rfl⟩
      | 3, _ => exact ⟨rfl, rfl⟩
      | 4, _ => exact ⟨rfl, rfl⟩) (fun _ h => h.elim)
    refine (eqIntsD_any A2 _ 5 c2 5 5 [3, -1, -1, 5, -1] [3, -1, -1, 5, -1] _ (under (w7.alloc (.cells #[.int .i64 3, .int .i64 (-1), .int .i64 (-1), .int .i64 5, .int .i64 (-1)] 3)).heap.size) (Lib.hid rfl) (Lib.hid rfl) (Lib.hid s1) (Lib.hid (s2.up fun b hb => ?_)) (Lib.hid fun b h => h)).mono ?_
    · rcases hb with rfl | hb
      · show _ < _; simp
      · exact hb.elim
    · rintro e w' ⟨rfl, hb'⟩
      exact ⟨by rw [decide_eq_true rfl], HB8.out.trans (hb'.mono HB8.out.size)⟩)
  clear hp7
  go_wp2_with (go_at_call 16; refine HIN.out.mono ?_; rintro _ w8 ⟨rfl, hb8⟩; have HB9 := Lib.hid hb8; clear hb8)
  go_ret
  exact ⟨rfl, HB9.out⟩
end Go.Proofs.YtnpideapdjomgaaDoor
