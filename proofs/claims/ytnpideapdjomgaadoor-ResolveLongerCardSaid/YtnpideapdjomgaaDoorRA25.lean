/- Texts that lead to the claim, one behind the other: A command copied: the walk of resolve.clone. Condition: room for each list. -/
import Derived.Test.YtnpideapdjomgaaDoorRA9
import Derived.Test.YtnpideapdjomgaaDoorRA24
import Derived.Laws.CopyOwn
import Derived.Deep.RegionLaw
import Derived.Shelf.Abstract
import Derived.Deep.Cut
import Derived.Deep.CutBlock
namespace Go.Proofs.YtnpideapdjomgaaDoor
open Go.RowKit Go.Shelf Go.ChangeShapes Go.WideShapes Go.Deep

structure Cm.room (c : Cm) : Prop where
  a : c.a.re.length ≤ 1099511627776
  b : c.b.re.length ≤ 1099511627776
  text : c.text.length ≤ 140737488351232
  re : c.re.length ≤ 1099511627776
  fill : c.fill.length ≤ 1099511627776
  pieces : ∀ p ∈ c.fill, p.text.length ≤ 140737488351232
/-- In the midst of copying a command: the box of what came in, and the box of what goes out. -/
structure CloneSt (w W : World) (X Z : Array Value) : Prop where
  b : Below w.heap.size w W
  two : w.heap.size + 2 ≤ W.heap.size
  row : W.heap[w.heap.size]? = some (.cells X 44 (0, 0))
  out : W.heap[w.heap.size + 1]? = some (.cells Z 44 (0, 0))
theorem CloneSt.far {w W W' : World} {X Z : Array Value} (h : CloneSt w W X Z) (hb : Below W.heap.size W W') : CloneSt w W' X Z :=
  ⟨h.b.trans (hb.mono h.b.size), Nat.le_trans h.two hb.size, (hb.block _ (by have := h.two; omega)).trans h.row, (hb.block _ (by have := h.two; omega)).trans h.out⟩
theorem CloneSt.set {w W : World} {X Z : Array Value} (h : CloneSt w W X Z) (i : Nat) (v : Value) : CloneSt w (W.setCell ⟨w.heap.size, i, none⟩ v) (X.setIfInBounds i v) Z := by
  rw [setCell_eq_setRow W w.heap.size i X 44 (0, 0) v h.row]
  exact ⟨below_setRow h.b (Nat.le_refl _) _, by rw [size_setRow]; exact h.two, setRow_heap W _ _ _ _ _ h.row, (setRow_other W _ _ _ (by omega)).trans h.out⟩
theorem CloneSt.drew {w W : World} {X Z : Array Value} (h : CloneSt w W X Z) (n : Nat) : CloneSt w (W.drewN n) X Z := ⟨⟨h.b.os, h.b.tape, h.b.output, h.b.size, h.b.block⟩, h.two, h.row, h.out⟩
theorem CloneSt.drew1 {w W : World} {X Z : Array Value} (h : CloneSt w W X Z) : CloneSt w W.drew X Z := ⟨⟨h.b.os, h.b.tape, h.b.output, h.b.size, h.b.block⟩, h.two, h.row, h.out⟩
theorem CloneSt.cell {w W W' : World} {X Z X' Z' : Array Value} (h : CloneSt w W X Z) (h' : CloneSt w W' X' Z') (i : Nat) (v : Value) (hv : W.cell? ⟨w.heap.size, i, none⟩ = some v) (he : X' = X) : W'.cell? ⟨w.heap.size, i, none⟩ = some v := by
  subst he; exact (World.cell?_of_block (h'.row.trans h.row.symm)).trans hv
theorem CloneSt.free {w W : World} {X Z : Array Value} (h : CloneSt w W X Z) (i : Nat) : W.frozen? ⟨w.heap.size, i, none⟩ = false := by simp [World.frozen?, h.row]
theorem CmX.put3 {X : Array Value} {c : Cm} {s : CmS} (h : CmX X c s) (A : Option Addr) (k : Nat) : CmX (X.setIfInBounds 9 (.slice A c.text.length k)) c { s with A3 := A, c3 := k } := ⟨by rw [Array.toList_setIfInBounds, h.list]; rfl, h.wf⟩
theorem CmX.put4 {X : Array Value} {c : Cm} {s : CmS} (h : CmX X c s) (A : Option Addr) (k : Nat) : CmX (X.setIfInBounds 10 (.slice A c.re.length k)) c { s with A4 := A, c4 := k } := ⟨by rw [Array.toList_setIfInBounds, h.list]; rfl, h.wf⟩
theorem CmX.put1 {X : Array Value} {c : Cm} {s : CmS} (h : CmX X c s) (A : Option Addr) (k : Nat) : CmX (X.setIfInBounds 2 (.slice A c.a.re.length k)) c { s with A1 := A, c1 := k } := ⟨by rw [Array.toList_setIfInBounds, h.list]; rfl, h.wf⟩
theorem CmX.put2 {X : Array Value} {c : Cm} {s : CmS} (h : CmX X c s) (A : Option Addr) (k : Nat) : CmX (X.setIfInBounds 5 (.slice A c.b.re.length k)) c { s with A2 := A, c2 := k } := ⟨by rw [Array.toList_setIfInBounds, h.list]; rfl, h.wf⟩
theorem CmX.put5 {X : Array Value} {c : Cm} {s : CmS} (h : CmX X c s) (A : Option Addr) (k : Nat) : CmX (X.setIfInBounds 11 (.slice A c.fill.length k)) c { s with A5 := A, c5 := k } := ⟨by rw [Array.toList_setIfInBounds, h.list]; rfl, h.wf⟩
/-- A copied list: it lies behind the two boxes. -/
def Beh {α : Type} (r : Rep α) (w W : World) (A : Option Addr) (c : Nat) (l : List α) : Prop := SliceAt r W (btw (w.heap.size + 2) W.heap.size) A c l
theorem Beh.far {α : Type} {r : Rep α} {w W W' : World} {A : Option Addr} {c : Nat} {l : List α} (h : Beh r w W A c l) (hb : Below W.heap.size W W') : Beh r w W' A c l :=
  SliceAt.keep h (fun _ hb' => ⟨hb'.1, Nat.lt_of_lt_of_le hb'.2 hb.size⟩) (Same.of_below hb fun _ hb' => hb'.2)
theorem Beh.set {α : Type} {r : Rep α} {w W : World} {X Z : Array Value} {A : Option Addr} {c : Nat} {l : List α} (h : Beh r w W A c l) (hs : CloneSt w W X Z) (i : Nat) (v : Value) : Beh r w (W.setCell ⟨w.heap.size, i, none⟩ v) A c l := by
  rw [setCell_eq_setRow W w.heap.size i X 44 (0, 0) v hs.row]
  exact SliceAt.keep h (fun b hb' => ⟨hb'.1, by rw [size_setRow]; exact hb'.2⟩) fun b hb' => setRow_other W _ _ _ (by have := hb'.1; omega)
theorem Beh.drew {α : Type} {r : Rep α} {w W : World} {A : Option Addr} {c : Nat} {l : List α} (h : Beh r w W A c l) (n : Nat) : Beh r w (W.drewN n) A c l := SliceAt.keep h (fun _ h => h) fun _ _ => rfl
theorem Own.beh {α : Type} {r : Rep α} {e : TypeId} {w W W' : World} {A : Option Addr} {n c : Nat} {l : List α} (h : Own r e W' W.heap.size nob (.slice A n c) l) (hB : w.heap.size + 2 ≤ W.heap.size) : Beh r w W' A c l := by
  obtain ⟨A', n', c', h1, _, _, _, h2⟩ := h.read
  cases h1
  exact h2.up fun b hb => ⟨by have := hb.1; omega, hb.2⟩
theorem cloneB {w : World} {S : Blocks} (hS : Hid (∀ b, S b → b < w.heap.size)) (A : Option Addr) (n k : Nat) (l : List UInt8) (hn : Hid (n = l.length)) (hl : Hid (SliceAt Rep.byte w S A k l)) (hr : n ≤ 140737488351232) (W : World) (X Z : Array Value) (h : CloneSt w W X Z) :
    Calls Tryd.prog 37 #[.slice A n k] W fun e w' => ∃ A' c', e = .returned (.slice A' n c') ∧ Beh Rep.byte w w' A' c' l ∧ Below W.heap.size W w' := by
  refine (cloneBytes A n k l W S hn (Lib.hid (hl.out.keep (fun _ h => h) (Same.of_below h.b hS.out))) (Lib.hid fun b hb => Nat.lt_of_lt_of_le (hS.out b hb) h.b.size) hr).mono ?_
  rintro e w' ⟨A', c', h1, _, _, h2, h3⟩
  exact ⟨A', c', h1, h2.beh h.two, h3⟩
theorem cloneN {w : World} {S : Blocks} (hS : Hid (∀ b, S b → b < w.heap.size)) (A : Option Addr) (n k : Nat) (l : List Nd) (hn : Hid (n = l.length)) (hl : Hid (SliceAt Rep.nd w S A k l)) (hr : n ≤ 1099511627776) (W : World) (X Z : Array Value) (h : CloneSt w W X Z) :
    Calls Tryd.prog 38 #[.slice A n k] W fun e w' => ∃ A' c', e = .returned (.slice A' n c') ∧ Beh Rep.nd w w' A' c' l ∧ Below W.heap.size W w' := by
  refine (cloneNodes A n k l W S hn (Lib.hid (hl.out.keep (fun _ h => h) (Same.of_below h.b hS.out))) (Lib.hid fun b hb => Nat.lt_of_lt_of_le (hS.out b hb) h.b.size) hr).mono ?_
  rintro e w' ⟨A', c', h1, _, _, h2, h3⟩
  exact ⟨A', c', h1, h2.beh h.two, h3⟩
theorem Beh.drew1 {α : Type} {r : Rep α} {w W : World} {A : Option Addr} {c : Nat} {l : List α} (h : Beh r w W A c l) : Beh r w W.drew A c l := SliceAt.keep h (fun _ h => h) fun _ _ => rfl
theorem clone_cut {X : Array Value} {c : Cm} {s : CmS} {w W : World} {Z : Array Value} {A1 A2 A3 A4 : Option Addr} {c1 c2 c3 c4 n1 n2 n4 : Nat} (hX : Hid (CmX X c { s with A3 := A3, c3 := c3 })) (hn4 : Hid (n4 = c.re.length)) (hn1 : Hid (n1 = c.a.re.length)) (hn2 : Hid (n2 = c.b.re.length)) (h : Hid (CloneSt w W X Z))
    (h3 : Hid (Beh Rep.byte w W A3 c3 c.text)) (h4 : Hid (Beh Rep.nd w W A4 c4 c.re)) (h1 : Hid (Beh Rep.nd w W A1 c1 c.a.re)) (h2 : Hid (Beh Rep.nd w W A2 c2 c.b.re)) (W' : World) (hW : W' = ((W.setCell ⟨w.heap.size, 10, none⟩ (.slice A4 n4 c4)).setCell ⟨w.heap.size, 2, none⟩ (.slice A1 n1 c1)).setCell ⟨w.heap.size, 5, none⟩ (.slice A2 n2 c2)) :
    ∃ X4 s4, Hid (CmX X4 c s4) ∧ Hid (s4.A5 = s.A5 ∧ s4.c5 = s.c5) ∧ Hid (CloneSt w W' X4 Z) ∧ Hid (Beh Rep.byte w W' s4.A3 s4.c3 c.text) ∧ Hid (Beh Rep.nd w W' s4.A4 s4.c4 c.re) ∧ Hid (Beh Rep.nd w W' s4.A1 s4.c1 c.a.re) ∧ Hid (Beh Rep.nd w W' s4.A2 s4.c2 c.b.re) := by
  have e4 := hn4.out
  have e1 := hn1.out
  have e2 := hn2.out
  subst e4 e1 e2 hW
  have k1 := h.out.set 10 (.slice A4 c.re.length c4)
  have k2 := k1.set 2 (.slice A1 c.a.re.length c1)
  have k3 := k2.set 5 (.slice A2 c.b.re.length c2)
  have go : ∀ {α : Type} {r : Rep α} {A : Option Addr} {k : Nat} {l : List α}, Beh r w W A k l → Beh r w (((W.setCell ⟨w.heap.size, 10, none⟩ (.slice A4 c.re.length c4)).setCell ⟨w.heap.size, 2, none⟩ (.slice A1 c.a.re.length c1)).setCell ⟨w.heap.size, 5, none⟩ (.slice A2 c.b.re.length c2)) A k l := fun hb => ((hb.set h.out 10 _).set k1 2 _).set k2 5 _
  exact ⟨_, _, Lib.hid (((hX.out.put4 A4 c4).put1 A1 c1).put2 A2 c2), Lib.hid ⟨rfl, rfl⟩, Lib.hid k3, Lib.hid (go h3.out), Lib.hid (go h4.out), Lib.hid (go h1.out), Lib.hid (go h2.out)⟩
theorem info_pieceC : (Tryd.prog.info? 76).map (fun i => (i.zero, i.size, i.bytes)) = some (some (.agg #[.int .i64 0, .slice none 0 0]), 2, 32) := by kernel_rfl
theorem run_make_pieces0 (u : World) (n : Nat) (hn : n ≤ 1099511627776) : (Instr.makeSlice 40 (.int .i64 0) (.int .i64 (n : Int))).run Tryd.prog u = .ok (.slice (some ⟨u.heap.size, 0, none⟩) 0 n) (u.alloc (.cells (madeCells #[.int .i64 0, .slice none 0 0] (n * 2)) 76)) := by
  obtain ⟨i0, hi, hz0, hz1, hz2⟩ := info_parts info_pieceC
  have h := run_make (P := Tryd.prog) u 40 76 i0 _ Tryd.underlying40 hi hz0 .i64 .i64 (0 : Int) (n : Int) (by omega) (by omega) (by rw [hz2]; omega) (by omega)
  have e : ((n : Int)).toNat = n := by omega
  rw [e] at h
  simpa [hz1, Value.cells] using h
theorem Own.roomP (w : World) (k base : Nat) (hb : base ≤ w.heap.size) (hk : k ≤ maxLen) : Own Rep.piece 76 (w.alloc (.cells (madeCells #[.int .i64 0, .slice none 0 0] (k * 2)) 76)) base nob (.slice (some ⟨w.heap.size, 0, none⟩) 0 k) [] :=
  ⟨[], ⟨by simp, .inr ⟨w.heap.size, k, _, by simp, hb, heap_alloc_new w _, by simp, hk, by simp [Rep.piece, Rep.pair, Rep.int, Rep.slice, size_madeCells], by simp⟩⟩, fun _ h => h.elim, by simp, fun i hi => absurd hi (by simp)⟩
theorem stPieces22 : SliceType Tryd.prog 40 76 2 32 := SliceType.mk' (z := .agg #[.int .i64 0, .slice none 0 0]) Tryd.underlying40 (by kernel_rfl) rfl (by omega)
theorem eBytesClone : ∀ args w, (callFunc 37 args).run Tryd.prog w = .ok (.enter 37 args) w := enters_of Tryd.func37 (by kernel_rfl) rfl
theorem cloneT {w wr : World} {S : Blocks} (A : Option Addr) (k : Nat) (l : List UInt8) (hS : Hid (∀ b, S b → b < w.heap.size)) (hl : Hid (SliceAt Rep.byte w S A k l)) (hb : Hid (Below w.heap.size w wr)) (hr : l.length ≤ 140737488351232) (W : World) (hW : Below wr.heap.size wr W) :
    Calls Tryd.prog 37 #[.slice A l.length k] W fun e w' => ∃ A' c', e = .returned (.slice A' l.length c') ∧ SliceAt Rep.byte w' (btw wr.heap.size w'.heap.size) A' c' l ∧ Below W.heap.size W w' := by
  have h0 : Below w.heap.size w W := hb.out.trans (hW.mono hb.out.size)
  refine (cloneBytes A l.length k l W S (Lib.hid rfl) (Lib.hid (hl.out.keep (fun _ h => h) (Same.of_below h0 hS.out))) (Lib.hid fun b hb => Nat.lt_of_lt_of_le (hS.out b hb) h0.size) hr).mono ?_
  rintro e w' ⟨A', c', h1, _, _, h2, h3⟩
  obtain ⟨A'', n', c'', g1, _, _, _, g2⟩ := h2.read
  cases g1
  exact ⟨A', c', h1, g2.up fun b hb => ⟨Nat.le_trans hW.size hb.1, hb.2⟩, h3⟩
theorem after_new {wr w5 : World} {a b : Value} {t : TypeId} (h : Below (wr.alloc (.cells #[a, b] t)).drew.heap.size (wr.alloc (.cells #[a, b] t)).drew w5) : Below wr.heap.size wr w5 ∧ w5.cell? ⟨wr.heap.size, 0, none⟩ = some a := by
  have h1 : Below wr.heap.size wr (wr.alloc (.cells #[a, b] t)).drew := ((Below.refl _ wr).alloc (Nat.le_refl _) _).drew
  refine ⟨h1.trans (h.mono h1.size), ?_⟩
  have h2 : w5.heap[wr.heap.size]? = some (.cells #[a, b] t (0, 0)) := (h.block wr.heap.size (by show wr.heap.size < (wr.alloc (.cells #[a, b] t)).heap.size; simp)).trans (heap_alloc_new wr _)
  rw [cell_of_row w5 wr.heap.size 0 _ _ (0, 0) h2]; rfl
theorem Beh.row {α : Type} {r : Rep α} {w W : World} {A : Option Addr} {c : Nat} {l : List α} (h : Beh r w W A c l) (X : Array Value) : Beh r w (W.setRow (w.heap.size + 1) X) A c l :=
  SliceAt.keep h (fun b hb => ⟨hb.1, by rw [size_setRow]; exact hb.2⟩) fun b hb => setRow_other W _ _ _ (by have := hb.1; omega)
theorem Own.behS {α : Type} {r : Rep α} {e : TypeId} {w W : World} {base : Nat} {S' : Blocks} {A : Option Addr} {n c : Nat} {l : List α} (h : Own r e W base S' (.slice A n c) l) (hB : w.heap.size + 2 ≤ base) (hS : ∀ b, S' b → base ≤ b) : Beh r w W A c l := by
  obtain ⟨A', c', e1, h2⟩ := h.slice
  obtain ⟨_, _, h3, _⟩ := h
  cases e1
  exact h2.up fun b hb => by
    rcases hb with ⟨ha, hb, _⟩ | hb
    · exact ⟨Nat.le_trans hB ha, hb⟩
    · exact ⟨Nat.le_trans hB (hS b hb), (h3 b hb).1⟩
theorem sep_new {α : Type} {r : Rep α} {e : TypeId} {wr w5 : World} {base : Nat} {S' : Blocks} {v : Value} {l : List α} (h : Own r e wr base S' v l) (hb : wr.heap.size ≤ w5.heap.size) (o : Obj) : ∀ b, S' b ∨ (wr.heap.size ≤ b ∧ b < w5.heap.size + 1) → b < (w5.alloc o).heap.size ∧ some b ≠ v.ownBlock := by
  obtain ⟨xs, hx, h3, _⟩ := h
  rintro b (hb1 | hb1)
  · have := h3 b hb1; exact ⟨by simp; omega, this.2⟩
  · refine ⟨by simp; omega, fun e => ?_⟩
    have := (hx.lt b e.symm).2; omega
theorem flat_new {wr w5 W : World} (hb : wr.heap.size ≤ w5.heap.size) (S' : Blocks) : ∀ cs x, Rep.piece.is W (fun b => b = w5.heap.size ∨ btw wr.heap.size w5.heap.size b) cs x → Rep.piece.is W (fun b => S' b ∨ (wr.heap.size ≤ b ∧ b < w5.heap.size + 1)) cs x := fun cs x h => Rep.piece.keep h (fun b hb' => by
  rcases hb' with rfl | h
  · exact .inr ⟨hb, Nat.lt_succ_self _⟩
  · exact .inr ⟨h.1, Nat.lt_succ_of_lt h.2⟩) (Same.refl _ _)
theorem Beh.cml {α : Type} {r : Rep α} {w W : World} {A : Option Addr} {c : Nat} {l : List α} (h : Beh r w W A c l) : SliceAt r W (fun b => w.heap.size ≤ b ∧ b < W.heap.size) A c l := SliceAt.up h fun b hb => ⟨by have := hb.1; omega, hb.2⟩
set_option maxRecDepth 100000 in
theorem cm_result (tmps : Array Value) (w' : World) (G : Nat) {X : Array Value} {c : Cm} {s : CmS} {t : TypeId} (h : w'.heap[G]? = some (.cells X t (0, 0))) (hX : CmX X c s) (h2 : tmps.getD 2 undef = .pointer (some ⟨G, 0, none⟩)) :
    (results Tryd.f22 tmps).run Tryd.prog w' = .ok (.agg X) w' := by
  have hl := run_loadVar_mid (P := Tryd.prog) w' G 0 44 X.toList (.struct (Tryd.prog.fieldsOf 44)) (cm_range h) (by kernel_rfl) rfl (by rw [Array.length_toList, hX.size]; kernel_rfl)
  rw [Array.toArray_toList] at hl
  unfold results
  rw [Tryd.results22]
  simp only [List.mapM_toArray, List.mapM_cons, List.mapM_nil, h2, asAddr, Sem.run_bind, Sem.run_pure, pure_bind, Functor.map]
  have key : Sem.run Tryd.prog (do let x ← loadVar 44 ⟨G, 0, none⟩; pure [x]) w' = .ok [.agg X] w' := by rw [Sem.run_bind, hl]; rfl
  have key2 : Sem.run Tryd.prog ((do let x ← loadVar 44 ⟨G, 0, none⟩; pure [x]) >>= fun l => pure l.toArray) w' = .ok #[.agg X] w' := by rw [Sem.run_bind, key]; rfl
  refine (congrArg (fun r : Result (Array Value) => r.andThen fun a w' => Result.ok (if h : a.size = 1 then a[0] else Value.tuple a) w') key2).trans ?_
  rfl
set_option maxRecDepth 100000 in
set_option maxHeartbeats 8000000 in
theorem cloneCm_any {X : Array Value} {c : Cm} {s : CmS} {w : World} {S : Blocks} (hX : Hid (CmX X c s)) (hL : Hid (CmL w S c s)) (hS : Hid (∀ b, S b → b < w.heap.size)) (hR : Hid c.room) :
    Calls Tryd.prog 22 #[.agg X] w fun e w' => ∃ X' s', e = .returned (.agg X') ∧ CmX X' c s' ∧ CmL w' (fun b => w.heap.size ≤ b ∧ b < w'.heap.size) c s' ∧ Below w.heap.size w w' := by
  obtain ⟨Z, hZ⟩ : ∃ Z, Z = zcells.toArray := ⟨_, rfl⟩
  have HZ := Lib.hid hZ
  obtain ⟨w1, hw1⟩ : ∃ w1, w1 = (w.alloc (.cells X 44)).alloc (.cells Z 44) := ⟨_, rfl⟩
  have HW1 := Lib.hid hw1
  have H1 : Hid (CloneSt w w1 X Z) := Lib.hid (by
    rw [hw1]
    refine ⟨Below.alloc (Below.alloc (Below.refl _ _) (Nat.le_refl _) _) (by simp) _, by simp, ?_, ?_⟩
    · rw [Below.heap_alloc _ _ _ (by simp)]; exact heap_alloc_new _ _
    · have := heap_alloc_new (w.alloc (.cells X 44)) (.cells Z 44)
      simpa using this)
  have x9 : w1.cell? ⟨w.heap.size, 9, none⟩ = some (.slice s.A3 c.text.length s.c3) := (cm_cell H1.out.row hX.out (by omega)).trans rfl
  obtain ⟨A3, hA3⟩ : ∃ k, k = s.A3 := ⟨_, rfl⟩
  obtain ⟨n3, hn3⟩ : ∃ k, k = c.text.length := ⟨_, rfl⟩
  obtain ⟨c3, hc3⟩ : ∃ k, k = s.c3 := ⟨_, rfl⟩
  rw [← hA3, ← hn3, ← hc3] at x9
  have HN3 := Lib.hid hn3
  have HL3 : Hid (SliceAt Rep.byte w S A3 c3 c.text) := Lib.hid (by rw [hA3, hc3]; exact hL.out.text)
  have HR3 : n3 ≤ 140737488351232 := by rw [hn3]; exact hR.out.text
  clear hA3 hn3 hc3 hZ hw1
  go_enter Tryd.func22, Tryd.ntmps22
  go_upto_region 2 with (first | (refine wpList_alloc_cm rfl rfl Z HZ.out ?_; rw [← HW1.out]) | (go_at_call 37; refine (cloneB hS A3 n3 c3 c.text HN3 HL3 HR3 w1 X Z H1.out).mono ?_; rintro _ w2 ⟨A3', c3', rfl, ho3, hb2⟩; have HO3 := Lib.hid ho3; have H2 := Lib.hid (H1.out.far hb2); have y9 : w2.cell? ⟨w.heap.size, 9, none⟩ = some (.slice A3 n3 c3) := (World.cell?_of_block (hb2.block w.heap.size (Nat.lt_of_lt_of_le (by omega) H1.out.two))).trans x9; clear ho3 hb2; have hf9 := H2.out.free 9))
  obtain ⟨w3, hw3⟩ : ∃ w3, w3 = w2.setCell ⟨w.heap.size, 9, none⟩ (.slice A3' n3 c3') := ⟨_, rfl⟩
  rw [← hw3]
  have H3 : Hid (CloneSt w w3 (X.setIfInBounds 9 (.slice A3' n3 c3')) Z) := Lib.hid (by rw [hw3]; exact H2.out.set 9 _)
  have HO3' : Hid (Beh Rep.byte w w3 A3' c3' c.text) := Lib.hid (by rw [hw3]; exact HO3.out.set H2.out 9 _)
  have HX3 : Hid (CmX (X.setIfInBounds 9 (.slice A3' n3 c3')) c { s with A3 := A3', c3 := c3' }) := Lib.hid (by rw [HN3.out]; exact hX.out.put3 A3' c3')
  clear y9 hf9 hw3 x9 HO3 H2
  obtain ⟨X3, hX3⟩ : ∃ X3, X3 = X.setIfInBounds 9 (.slice A3' n3 c3') := ⟨_, rfl⟩
  rw [← hX3] at H3 HX3
  clear hX3
  have x10 : w3.cell? ⟨w.heap.size, 10, none⟩ = some (.slice s.A4 c.re.length s.c4) := (cm_cell H3.out.row HX3.out (by omega)).trans rfl
  have x2 : w3.cell? ⟨w.heap.size, 2, none⟩ = some (.slice s.A1 c.a.re.length s.c1) := (cm_cell H3.out.row HX3.out (by omega)).trans rfl
  have x5 : w3.cell? ⟨w.heap.size, 5, none⟩ = some (.slice s.A2 c.b.re.length s.c2) := (cm_cell H3.out.row HX3.out (by omega)).trans rfl
  obtain ⟨A4, hA4⟩ : ∃ k, k = s.A4 := ⟨_, rfl⟩
  obtain ⟨n4, hn4⟩ : ∃ k, k = c.re.length := ⟨_, rfl⟩
  obtain ⟨c4, hc4⟩ : ∃ k, k = s.c4 := ⟨_, rfl⟩
  obtain ⟨A1, hA1⟩ : ∃ k, k = s.A1 := ⟨_, rfl⟩
  obtain ⟨n1, hn1⟩ : ∃ k, k = c.a.re.length := ⟨_, rfl⟩
  obtain ⟨c1, hc1⟩ : ∃ k, k = s.c1 := ⟨_, rfl⟩
  obtain ⟨A2, hA2⟩ : ∃ k, k = s.A2 := ⟨_, rfl⟩
  obtain ⟨n2, hn2⟩ : ∃ k, k = c.b.re.length := ⟨_, rfl⟩
  obtain ⟨c2, hc2⟩ : ∃ k, k = s.c2 := ⟨_, rfl⟩
  rw [← hA4, ← hn4, ← hc4] at x10
  rw [← hA1, ← hn1, ← hc1] at x2
  rw [← hA2, ← hn2, ← hc2] at x5
  have HN4 := Lib.hid hn4
  have HN1 := Lib.hid hn1
  have HN2 := Lib.hid hn2
  have HL4 : Hid (SliceAt Rep.nd w S A4 c4 c.re) := Lib.hid (by rw [hA4, hc4]; exact hL.out.re)
  have HL1 : Hid (SliceAt Rep.nd w S A1 c1 c.a.re) := Lib.hid (by rw [hA1, hc1]; exact hL.out.a)
  have HL2 : Hid (SliceAt Rep.nd w S A2 c2 c.b.re) := Lib.hid (by rw [hA2, hc2]; exact hL.out.b)
  have HR4 : n4 ≤ 1099511627776 := by rw [hn4]; exact hR.out.re
  have HR1 : n1 ≤ 1099511627776 := by rw [hn1]; exact hR.out.a
  have HR2 : n2 ≤ 1099511627776 := by rw [hn2]; exact hR.out.b
  clear hA4 hn4 hc4 hA1 hn1 hc1 hA2 hn2 hc2
  go_cut [] from 10 to 25 (fun W => ∃ X4 s4, Hid (CmX X4 c s4) ∧ Hid (s4.A5 = s.A5 ∧ s4.c5 = s.c5) ∧ Hid (CloneSt w W X4 Z) ∧ Hid (Beh Rep.byte w W s4.A3 s4.c3 c.text) ∧ Hid (Beh Rep.nd w W s4.A4 s4.c4 c.re) ∧ Hid (Beh Rep.nd w W s4.A1 s4.c1 c.a.re) ∧ Hid (Beh Rep.nd w W s4.A2 s4.c2 c.b.re))
  case first =>
    have f10 := H3.out.free 10
    have f2 := H3.out.free 2
    have f5 := H3.out.free 5
    go_region_with (first
      | (go_at_call_of 38 (Value.slice A4 n4 c4); refine (cloneN hS A4 n4 c4 c.re HN4 HL4 HR4 _ X3 Z ?_).mono ?_; (first | exact H3.out | exact H3.out.drew1); rintro _ w4 ⟨A4', c4', rfl, ho, hb⟩; have H_w4 : Hid (CloneSt w w4 X3 Z) := (by first | exact Lib.hid (H3.out.far hb) | exact Lib.hid (H3.out.drew1.far hb)); have P3_w4 : Hid (Beh Rep.byte w w4 A3' c3' c.text) := (by first | exact Lib.hid (HO3'.out.far hb) | exact Lib.hid (HO3'.out.drew1.far hb)); have O4_w4 : Hid (Beh Rep.nd w w4 A4' c4' c.re) := Lib.hid ho; have y10_w4 := H3.out.cell H_w4.out 10 _ x10 rfl; have f10_w4 := H_w4.out.free 10; have y2_w4 := H3.out.cell H_w4.out 2 _ x2 rfl; have f2_w4 := H_w4.out.free 2; have y5_w4 := H3.out.cell H_w4.out 5 _ x5 rfl; have f5_w4 := H_w4.out.free 5; clear ho hb)
      | (go_at_call_of 38 (Value.slice A1 n1 c1); refine (cloneN hS A1 n1 c1 c.a.re HN1 HL1 HR1 _ X3 Z ?_).mono ?_; (first | exact H_w4.out | exact H_w4.out.drew1); rintro _ w5 ⟨A1', c1', rfl, ho, hb⟩; have H_w5 : Hid (CloneSt w w5 X3 Z) := (by first | exact Lib.hid (H_w4.out.far hb) | exact Lib.hid (H_w4.out.drew1.far hb)); have P3_w5 : Hid (Beh Rep.byte w w5 A3' c3' c.text) := (by first | exact Lib.hid (P3_w4.out.far hb) | exact Lib.hid (P3_w4.out.drew1.far hb)); have O4_w5 : Hid (Beh Rep.nd w w5 A4' c4' c.re) := (by first | exact Lib.hid (O4_w4.out.far hb) | exact Lib.hid (O4_w4.out.drew1.far hb)); have O1_w5 : Hid (Beh Rep.nd w w5 A1' c1' c.a.re) := Lib.hid ho; have y10_w5 := H3.out.cell H_w5.out 10 _ x10 rfl; have f10_w5 := H_w5.out.free 10; have y2_w5 := H3.out.cell H_w5.out 2 _ x2 rfl; have f2_w5 := H_w5.out.free 2; have y5_w5 := H3.out.cell H_w5.out 5 _ x5 rfl; have f5_w5 := H_w5.out.free 5; clear ho hb)
      | (go_at_call_of 38 (Value.slice A2 n2 c2); refine (cloneN hS A2 n2 c2 c.b.re HN2 HL2 HR2 _ X3 Z ?_).mono ?_; (first | exact H_w5.out | exact H_w5.out.drew1); rintro _ w6 ⟨A2', c2', rfl, ho, hb⟩; have H_w6 : Hid (CloneSt w w6 X3 Z) := (by first | exact Lib.hid (H_w5.out.far hb) | exact Lib.hid (H_w5.out.drew1.far hb)); have P3_w6 : Hid (Beh Rep.byte w w6 A3' c3' c.text) := (by first | exact Lib.hid (P3_w5.out.far hb) | exact Lib.hid (P3_w5.out.drew1.far hb)); have O4_w6 : Hid (Beh Rep.nd w w6 A4' c4' c.re) := (by first | exact Lib.hid (O4_w5.out.far hb) | exact Lib.hid (O4_w5.out.drew1.far hb)); have O1_w6 : Hid (Beh Rep.nd w w6 A1' c1' c.a.re) := (by first | exact Lib.hid (O1_w5.out.far hb) | exact Lib.hid (O1_w5.out.drew1.far hb)); have O2_w6 : Hid (Beh Rep.nd w w6 A2' c2' c.b.re) := Lib.hid ho; have y10_w6 := H3.out.cell H_w6.out 10 _ x10 rfl; have f10_w6 := H_w6.out.free 10; have y2_w6 := H3.out.cell H_w6.out 2 _ x2 rfl; have f2_w6 := H_w6.out.free 2; have y5_w6 := H3.out.cell H_w6.out 5 _ x5 rfl; have f5_w6 := H_w6.out.free 5; clear ho hb))
    all_goals (go_wp2_with fail)
    all_goals go_meet
    all_goals first
      | exact clone_cut HX3 HN4 HN1 HN2 H_w6 P3_w6 O4_w6 O1_w6 (by assumption) _ rfl
  case rest =>
    obtain ⟨X4, s4, HX4, HS5, H4, B3, B4, B1, B2⟩ := hcut
    have x11 : wc.cell? ⟨w.heap.size, 11, none⟩ = some (.slice s4.A5 c.fill.length s4.c5) := (cm_cell H4.out.row HX4.out (by omega)).trans rfl
    rw [HS5.out.1, HS5.out.2] at x11
    obtain ⟨A5, hA5⟩ : ∃ k, k = s.A5 := ⟨_, rfl⟩
    obtain ⟨n5, hn5⟩ : ∃ k, k = c.fill.length := ⟨_, rfl⟩
    obtain ⟨c5, hc5⟩ : ∃ k, k = s.c5 := ⟨_, rfl⟩
    rw [← hA5, ← hn5, ← hc5] at x11
    have HN5 := Lib.hid hn5
    have HL5 : Hid (SliceAt Rep.piece w S A5 c5 c.fill) := Lib.hid (by rw [hA5, hc5]; exact hL.out.fill)
    have HR5 : n5 ≤ 1099511627776 := by rw [hn5]; exact hR.out.fill
    clear hA5 hn5 hc5 x10 x2 x5 HL4 HL1 HL2 HN4 HN1 HN2 H3 HX3 HO3' HR4 HR1 HR2
    have hmk := fun u => run_make_pieces0 u n5 HR5
    obtain ⟨wd, hwd⟩ : ∃ wd, wd = wc.alloc (.cells (madeCells #[.int .i64 0, .slice none 0 0] (n5 * 2)) 76) := ⟨_, rfl⟩
    have H4' := H4.out.far (show Below wc.heap.size wc wd by rw [hwd]; exact (Below.refl _ _).alloc (Nat.le_refl _) _)
    have x11b : wd.cell? ⟨w.heap.size, 11, none⟩ = some (.slice A5 n5 c5) := H4.out.cell H4' 11 _ x11 rfl
    have HO : Hid (Own Rep.piece 76 wd wc.heap.size nob (.slice (some ⟨wc.heap.size, 0, none⟩) 0 n5) (c.fill.take 0)) := Lib.hid (by rw [hwd]; exact Own.roomP wc n5 _ (Nat.le_refl _) (by simp only [maxLen]; omega))
    have HBd : Hid (Below wc.heap.size wc wd) := Lib.hid (by rw [hwd]; exact (Below.refl _ _).alloc (Nat.le_refl _) _)
    have hwd' := hwd
    rw [hwd] at x11b
    go_wp2_with fail
    rw [← hwd']
    have HWD := Lib.hid hwd'
    clear hwd hwd' x11b hmk H4' x11
    go_loopg [3, 33] n5 (fun k v3 iv wr => ∃ (i : Nat) (S' : Blocks), i ≤ n5 ∧ iv = .int .i64 i ∧ k = n5 - i ∧ Hid (Own Rep.piece 76 wr wc.heap.size S' v3 (c.fill.take i)) ∧ Hid (∀ b, S' b → wc.heap.size ≤ b) ∧ Hid (Below wc.heap.size wc wr))
    case atStart => exact ⟨0, nob, Nat.zero_le _, rfl, rfl, HO, Lib.hid fun _ h => h.elim, HBd⟩
    case round =>
      obtain ⟨i, S', hi, rfl, rfl, HOw, HS', HBw⟩ := hrel
      by_cases hin : i < n5
      · have hil : i < c.fill.length := by have := HN5.out; omega
        have hb0 : Below w.heap.size w wr := H4.out.b.trans (HBw.out.mono H4.out.b.size)
        have HB0 := Lib.hid hb0
        obtain ⟨g, o, At, ct, hA, pg, pt, hts, hlo, hhi⟩ := piece_at HL5.out (Same.of_below hb0 hS.out) hil
        subst hA
        have hts0 := (piece_at HL5.out (Same.refl _ w) hil)
        have HPR := Lib.hid (hR.out.pieces _ (List.getElem_mem hil))
        have HTK : Hid (c.fill.take (i + 1) = c.fill.take i ++ [c.fill[i]]) := Lib.hid (List.take_succ_eq_append_getElem hil)
        obtain ⟨p, hp⟩ : ∃ p, p = c.fill[i] := ⟨_, rfl⟩
        rw [← hp] at pg pt hts hlo hhi HPR HTK
        have HWF : Hid ((Lit.int .i64 p.group).wf = true) := Lib.hid (by obtain ⟨_, _, _, _, _, _, _, _, _, ⟨_, hwf⟩, _⟩ := HL5.out.at_ hil; rw [hp]; exact hwf)
        clear hp hts0
        have HTS := Lib.hid hts
        have HTL : Hid ((c.fill.take i).length = i) := Lib.hid (by rw [List.length_take]; omega)
        clear hts hb0
        have HCL : Hid (∀ W, Below wr.heap.size wr W → Calls Tryd.prog 37 #[.slice At p.text.length ct] W fun e w' => ∃ A' c', e = .returned (.slice A' p.text.length c') ∧ SliceAt Rep.byte w' (btw wr.heap.size w'.heap.size) A' c' p.text ∧ Below W.heap.size W w') := Lib.hid fun W hW => by
          have hS2 : ∀ b, S b → b < wr.heap.size := fun b hb => Nat.lt_of_lt_of_le (hS.out b hb) HB0.out.size
          exact cloneT (w := wr) At ct p.text (Lib.hid hS2) HTS (Lib.hid (Below.refl _ _)) HPR.out W hW
        go_upto_region 7 with fail
        go_region_law (first
          | (refine step_call_law rfl 37 #[.tmp 41] #[39] rfl eBytesClone #[.slice At p.text.length ct] (by simp [Act.eval]) _ (HCL.out _ ?_) ?_; exact ((Below.refl _ wr).alloc (Nat.le_refl _) _).drew; rintro e w5 ⟨At', ct', rfl, ht5, hb5⟩; refine ⟨_, rfl, ?_⟩; have HT5 := Lib.hid ht5; obtain ⟨hb5', y0⟩ := after_new hb5; have HB5 := Lib.hid hb5'; clear ht5 hb5 hb5')
          | (refine step_append_Own rfl (.tmp 37) (.tmp 44) 40 rfl Rep.piece wc.heap.size 76 32 stPieces22 S' u3 (c.fill.take i) (by simp [Act.eval]) (HOw.out.far (HB5.out.alloc HB5.out.size _)) _ (some ⟨w5.heap.size, 0, none⟩) 1 [p] (by simp [Act.eval]) (SliceAt.new1 Rep.piece w5 _ #[.int .i64 p.group, .slice At' p.text.length ct'] p (btw wr.heap.size w5.heap.size) ⟨[_], [_], rfl, ⟨rfl, HWF.out⟩, _, _, rfl, HT5.out⟩ (fun b hb => hb.2)) (fun b => S' b ∨ (wr.heap.size ≤ b ∧ b < w5.heap.size + 1)) ?_ (fun _ h => .inl h) ?_ ?_ ?_ ?_ ?_; exact sep_new HOw.out HB5.out.size _; exact flat_new HB5.out.size S'; (rw [HTL.out]; simp; omega); (rw [HTL.out]; simp; omega); exact Nat.le_trans HBw.out.size (Nat.le_trans HB5.out.size (by simp)); intro v3 w3 hown3 hg3 hat3; have HO3 := Lib.hid hown3; have HG3 := Lib.hid hg3; clear hown3 hg3 hat3))
        all_goals
          have HBn : Hid (Below wc.heap.size wc w3) := Lib.hid (((HBw.out.trans (HB5.out.mono HBw.out.size)).alloc (Nat.le_trans HBw.out.size HB5.out.size) _).grown HG3.out (Nat.le_trans HBw.out.size (Nat.le_trans HB5.out.size (by simp))) fun k hk => by
            obtain ⟨_, hx, _⟩ := HOw.out
            exact (hx.lt k hk).1)
          go_wp2_with fail
          go_roundg (n5 - (i + 1))
          case measure => omega
          case rel => exact ⟨i + 1, _, by omega, by go_num, rfl, Lib.hid (by rw [HTK.out]; exact HO3.out), Lib.hid (fun b hb => by
            rcases hb with hb | hb
            · exact HS'.out b hb
            · exact Nat.le_trans HBw.out.size hb.1), HBn⟩
      · obtain rfl : i = n5 := by omega
        have H5 : Hid (CloneSt w wr X4 Z) := Lib.hid (H4.out.far HBw.out)
        have f11 := H5.out.free 11
        obtain ⟨A', n', c', rfl, hn', -, -⟩ := HOw.out.form
        have e5 : n' = i := by rw [hn'.out, List.length_take, ← HN5.out]; omega
        subst e5
        have z11 : wr.cell? ⟨w.heap.size, 11, none⟩ = some (.slice s4.A5 c.fill.length s4.c5) := (cm_cell H5.out.row HX4.out (by omega)).trans rfl
        have H6 := Lib.hid (H5.out.set 11 (.slice A' n' c'))
        have HX6 : Hid (CmX (X4.setIfInBounds 11 (.slice A' n' c')) c { s4 with A5 := A', c5 := c' }) := Lib.hid (by rw [HN5.out]; exact HX4.out.put5 A' c')
        have hZs : Z.size = 272 := by rw [HZ.out, List.size_toArray]; exact zcells_len
        have HZS := Lib.hid hZs
        clear hZs
        go_wp2_with (first
          | (refine wpList_load_cm H6.out.row HX6.out (.tmp 1) rfl rfl rfl ?_)
          | (refine wpList_store_cm rfl (.tmp 2) (.tmp 49) rfl (w.heap.size + 1) _ rfl rfl HX6.out 44 Z H6.out.out HZS.out ?_))
        refine bodyPost_ret (v := .agg (X4.setIfInBounds 11 (.slice A' n' c'))) (cm_result _ _ (w.heap.size + 1) (setRow_heap _ _ _ _ _ _ H6.out.out) HX6.out rfl) rfl ⟨_, _, rfl, HX6.out, ?_, ?_⟩
        · have ht : List.take n' c.fill = c.fill := List.take_of_length_le (by have := HN5.out; omega)
          have h5 : Beh Rep.piece w wr A' c' c.fill := by have := HOw.out.behS H4.out.two HS'.out; rw [ht] at this; exact this
          have hk : Below wc.heap.size wc wr := HBw.out
          exact ⟨(((B1.out.far hk).set H5.out 11 _).row _).cml, (((B2.out.far hk).set H5.out 11 _).row _).cml, (((B3.out.far hk).set H5.out 11 _).row _).cml, (((B4.out.far hk).set H5.out 11 _).row _).cml, ((h5.set H5.out 11 _).row _).cml⟩
        · exact below_setRow H6.out.b (Nat.le_succ _) _
end Go.Proofs.YtnpideapdjomgaaDoor
