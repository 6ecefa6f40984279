/- Texts that lead to the claim, one behind the other: What is known of a list of nodes so far, in memory. No conditions. -/
import Derived.Test.YtnpideapdjomgaaDoorRA16
import Derived.Test.YtnpideapdjomgaaDoorRA6
import Derived.Test.YtnpideapdjomgaaDoorRA17
namespace Go.Proofs.YtnpideapdjomgaaDoor
open Go.RowKit Go.ChangeShapes Go.WideShapes Go.Deep

theorem stBools22 : SliceType Tryd.prog 83 4 1 1 := SliceType.mk' (z := .bool false) Tryd.underlying83 (by kernel_rfl) rfl (by omega)

theorem synOne_any (a : Nd) (w : World) : Calls Tryd.prog 59 #[.agg (ncells a).toArray] w fun e w' => e = .returned (.bool (Syn.okN a)) ∧ Below w.heap.size w w' := by
  obtain ⟨op, c0, c1, c2, c3, n, mn, mx, kids⟩ := a
  by_cases h1 : op = 1
  · subst h1; exact synOne_1 c0 c1 c2 c3 n mn mx kids w
  by_cases h2 : op = 2
  · subst h2; exact synOne_2 c0 c1 c2 c3 n mn mx kids w
  by_cases h3 : op = 3
  · subst h3; exact synOne_3 c0 c1 c2 c3 n mn mx kids w
  by_cases h4 : op = 4
  · subst h4; exact synOne_4 c0 c1 c2 c3 n mn mx kids w
  by_cases h5 : op = 5
  · subst h5; exact synOne_5 c0 c1 c2 c3 n mn mx kids w
  by_cases h6 : op = 6
  · subst h6; exact synOne_6 c0 c1 c2 c3 n mn mx kids w
  by_cases h7 : op = 7
  · subst h7; exact synOne_7 c0 c1 c2 c3 n mn mx kids w
  by_cases h8 : op = 8
  · subst h8; exact synOne_8 c0 c1 c2 c3 n mn mx kids w
  exact synOne_none op c0 c1 c2 c3 n mn mx kids w (by simpa using h1) (by simpa using h2) (by simpa using h3) (by simpa using h4) (by simpa using h5) (by simpa using h6) (by simpa using h7) (by simpa using h8)

theorem SliceAt.newOne22 {α : Type} (r : Rep α) (w : World) (e : TypeId) (cs : Array Value) (x : α) (q : Nat) (h : r.is w nob cs.toList x) (hq : q = w.heap.size) :
    SliceAt r (w.alloc (.cells cs e)) (fun b => b = w.heap.size ∨ nob b) (some ⟨q, 0, none⟩) 1 [x] := by
  subst hq; exact SliceAt.new1 r w e cs x nob h (fun _ h => h.elim)

theorem frozen_row {w : World} {b i : Nat} {cs : Array Value} {t : TypeId} (h : w.heap[b]? = some (.cells cs t (0, 0))) : w.frozen? ⟨b, i, none⟩ = false := by simp [World.frozen?, h]

/-- The list A of n nodes, looked at up to s.1; s.2: which groups have ended. -/
structure LookB (w : World) (bx : Nat) (A : Option Addr) (c n : Nat) (s : Nat × List Bool) (v : Value) : Prop where
  blk : w.heap[bx]? = some (.cells #[.slice A n c, .int .i64 (s.1 : Nat), v] 85 (0, 0))
  own : Own Rep.bool 4 w 0 nob v s.2
  ob : ∀ b, v.ownBlock = some b → bx < b
  le : s.1 ≤ n
  short : s.2.length ≤ 255
/-- The blocks that it turns. -/
def LX (bx : Nat) (v : Value) : Blocks := fun b => b = bx ∨ v.ownBlock = some b
def NodePost (re : List Nd) (f gp : Nat) (s : Nat × List Bool) (w : World) (bx : Nat) (A : Option Addr) (c n : Nat) (v : Value) (e : Ending) (w' : World) : Prop :=
  ∃ b, e = .returned (.bool b) ∧ Only (LX bx v) w w' ∧ match Syn.nodeF re f gp s with
    | none => b = false
    | some t => b = true ∧ ∃ v', LookB w' bx A c n t v' ∧ ∀ b, v'.ownBlock = some b → v.ownBlock = some b ∨ w.heap.size ≤ b
section
variable {w w' : World} {bx c n : Nat} {A : Option Addr} {s : Nat × List Bool} {v : Value}
theorem LookB.lt (h : LookB w bx A c n s v) : bx < w.heap.size := (Array.getElem?_eq_some_iff.1 h.blk).1
theorem LookB.only (h : LookB w bx A c n s v) {F : Blocks} (ho : Only F w w') (h1 : ¬ F bx) (h2 : ∀ b, v.ownBlock = some b → ¬ F b) : LookB w' bx A c n s v :=
  { h with blk := (ho.block bx h.lt h1).trans h.blk, own := h.own.only ho h2 }
theorem LookB.far (h : LookB w bx A c n s v) (hb : Below w.heap.size w w') : LookB w' bx A c n s v :=
  h.only (Only.of_below hb fun _ => False) (fun h => h) fun _ _ h => h
theorem LookB.c0 (h : LookB w bx A c n s v) : w.cell? ⟨bx, 0, none⟩ = some (.slice A n c) := (cell_of_row w bx 0 _ _ (0, 0) h.blk).trans rfl
theorem LookB.c1 (h : LookB w bx A c n s v) : w.cell? ⟨bx, 1, none⟩ = some (.int .i64 (s.1 : Nat)) := (cell_of_row w bx 1 _ _ (0, 0) h.blk).trans rfl
theorem LookB.c2 (h : LookB w bx A c n s v) : w.cell? ⟨bx, 2, none⟩ = some v := (cell_of_row w bx 2 _ _ (0, 0) h.blk).trans rfl
theorem LookB.ca (h : LookB w bx A c n s v) (ob : Obj) (i : Nat) : (w.alloc ob).cell? ⟨bx, i, none⟩ = w.cell? ⟨bx, i, none⟩ := World.cell?_of_block (Below.heap_alloc w ob bx h.lt)
theorem LookB.fz (h : LookB w bx A c n s v) (i : Nat) : w.frozen? ⟨bx, i, none⟩ = false := by simp [World.frozen?, h.blk]
/-- The place is set. -/
theorem LookB.go (h : LookB w bx A c n s v) (i : Nat) (hi : i ≤ n) : LookB (w.setCell ⟨bx, 1, none⟩ (.int .i64 (i : Nat))) bx A c n (i, s.2) v :=
  { blk := by simp [World.setCell, Array.getElem?_modify, h.blk]
    own := h.own.only (Only.setCell (F := fun b => b = bx) (Only.refl _ w) (.inl rfl) _) fun b hb e => by have := h.ob b hb; omega
    ob := h.ob
    le := hi
    short := h.short }
/-- The row is set. -/
theorem LookB.row {w1 : World} (h : LookB w bx A c n s v) {v1 : Value} {l : List Bool} (ho : Own Rep.bool 4 w1 0 nob v1 l) (hb : w1.heap[bx]? = w.heap[bx]?) (hob : ∀ b, v1.ownBlock = some b → bx < b) (hl : l.length ≤ 255) : LookB (w1.setCell ⟨bx, 2, none⟩ v1) bx A c n (s.1, l) v1 :=
  { blk := by simp [World.setCell, Array.getElem?_modify, hb, h.blk]
    own := ho.only (Only.setCell (F := fun b => b = bx) (Only.refl _ w1) (.inl rfl) _) fun b hb e => by have := hob b hb; omega
    ob := hob
    le := h.le
    short := hl }
/-- An element of the row is set. -/
theorem LookB.put {g k m cc : Nat} {l : List Bool} (h : LookB w bx A c n (s.1, l) (.slice (some ⟨g, 0, none⟩) m cc)) (hk : k < l.length) (b : Bool) : LookB (w.setCell ⟨g, k, none⟩ (.bool b)) bx A c n (s.1, l.set k b) (.slice (some ⟨g, 0, none⟩) m cc) :=
  { blk := by
      have hne : bx ≠ g := by have := h.ob g rfl; omega
      rw [Below.heap_setCell _ _ _ _ hne]; exact h.blk
    own := h.own.setCell1 rfl hk rfl
    ob := h.ob
    le := h.le
    short := by simpa using h.short }
end
end Go.Proofs.YtnpideapdjomgaaDoor
