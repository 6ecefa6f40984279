/- Texts that lead to the claim, one behind the other: What a Go value in memory reads as: one word for each shape (no program in sight), how it stays while memory grows, and how append onto a row of the call's own reads. No conditions. -/
import Derived.Below
import Derived.Carry
import Derived.Laws.OwnMore
import Derived.Maps.AppendAt
import Derived.Deep.AppendLies
import Derived.Deep.Draws
import Derived.Deep.Slices
import Derived.Deep.Fields
import Derived.RegionTactic
import Derived.ChangeSame
import Derived.OwnWalk
import Derived.Laws.BytesArg
import Derived.Laws.BytesString
import Derived.Laws.Slices
import Derived.Lib.Hide
namespace Go.Proofs.YtnpideapdjomgaaDoor
open Go.RowKit Go.ChangeShapes Go.WideShapes Go.Deep

/-- Sets of blocks. -/
abbrev Blocks := Nat → Prop
def under (B : Nat) : Blocks := fun b => b < B
def btw (lo hi : Nat) : Blocks := fun b => lo ≤ b ∧ b < hi
/-- The blocks of S are as they were. -/
def Same (S : Blocks) (w w' : World) : Prop := ∀ b, S b → w'.heap[b]? = w.heap[b]?

theorem Same.refl (S : Blocks) (w : World) : Same S w w := fun _ _ => rfl
theorem Same.trans {S : Blocks} {a b c : World} (h : Same S a b) (k : Same S b c) : Same S a c := fun i hi => (k i hi).trans (h i hi)
theorem Same.cell {S : Blocks} {w w' : World} (h : Same S w w') {p : Addr} (hp : S p.block) : w'.cell? p = w.cell? p := World.cell?_of_block (h _ hp)
theorem Same.of_below {w w' : World} {B : Nat} (h : Below B w w') {S : Blocks} (hS : ∀ b, S b → b < B) : Same S w w' := fun b hb => h.block b (hS b hb)
theorem Same.of_grown {w w' : World} {row : Option Nat} (h : w.grownBy w' row) {S : Blocks} (hS : ∀ b, S b → b < w.heap.size ∧ some b ≠ row) : Same S w w' := fun b hb => h.block b (hS b hb).1 (hS b hb).2

/-- Cells from a place on. -/
def CellsAt (w : World) (g o : Nat) (cs : List Value) : Prop := ∀ j u, cs[j]? = some u → w.cell? ⟨g, o + j, none⟩ = some u

/-- How a kind of Go value reads: so many cells; what they are in a world, where the blocks of S are looked at. -/
structure Rep (α : Type) where
  n : Nat
  is : World → Blocks → List Value → α → Prop
  size : ∀ {w S cs x}, is w S cs x → cs.length = n
  keep : ∀ {w w' : World} {S S' : Blocks} {cs x}, is w S cs x → (∀ b, S b → S' b) → Same S w w' → is w' S' cs x
  one : ∀ {w S cs x}, is w S cs x → ∀ u ∈ cs, u.oneCell' = true

def Rep.int (k : IntKind) : Rep Int where
  n := 1
  is := fun _ _ cs x => cs = [.int k x] ∧ (Lit.int k x).wf = true
  size := by rintro _ _ _ _ ⟨rfl, _⟩; rfl
  keep := by rintro _ _ _ _ _ _ ⟨rfl, h⟩ _ _; exact ⟨rfl, h⟩
  one := by rintro _ _ _ _ ⟨rfl, _⟩; simp [Value.oneCell']

def Rep.byte : Rep UInt8 where
  n := 1
  is := fun _ _ cs x => cs = [.int .u8 x.toNat]
  size := by rintro _ _ _ _ rfl; rfl
  keep := by rintro _ _ _ _ _ _ rfl _ _; rfl
  one := by rintro _ _ _ _ rfl; simp [Value.oneCell']

def Rep.bool : Rep Bool where
  n := 1
  is := fun _ _ cs x => cs = [.bool x]
  size := by rintro _ _ _ _ rfl; rfl
  keep := by rintro _ _ _ _ _ _ rfl _ _; rfl
  one := by rintro _ _ _ _ rfl; simp [Value.oneCell']

def Rep.str : Rep ByteArray where
  n := 1
  is := fun _ _ cs x => cs = [.string x] ∧ x.size ≤ maxLen
  size := by rintro _ _ _ _ ⟨rfl, _⟩; rfl
  keep := by rintro _ _ _ _ _ _ ⟨rfl, h⟩ _ _; exact ⟨rfl, h⟩
  one := by rintro _ _ _ _ ⟨rfl, _⟩; simp [Value.oneCell']

theorem CellsAt.keep {w w' : World} {S : Blocks} {g o : Nat} {cs : List Value} (h : CellsAt w g o cs) (hb : S g) (hk : Same S w w') : CellsAt w' g o cs :=
  fun j u hu => (hk.cell (p := ⟨g, o + j, none⟩) hb).trans (h j u hu)
theorem CellsAt.below {w w' : World} {B g o : Nat} {cs : List Value} (h : CellsAt w g o cs) (hb : Below B w w') (hg : g < B) : CellsAt w' g o cs :=
  fun j u hu => (hb.cell (p := ⟨g, o + j, none⟩) hg).trans (h j u hu)

section
variable {α : Type}

/-- A slice's parts: its address, its room, and the list that it reads as. -/
def SliceAt (r : Rep α) (w : World) (S : Blocks) (A : Option Addr) (c : Nat) (l : List α) : Prop :=
  l.length ≤ c ∧ c ≤ maxLen ∧ (A = none → c = 0) ∧
    ∀ i (h : i < l.length), ∃ g o cs, A = some ⟨g, o, none⟩ ∧ S g ∧ CellsAt w g (o + i * r.n) cs ∧ r.is w S cs l[i]

theorem SliceAt.keep {r : Rep α} {w w' : World} {S S' : Blocks} {A : Option Addr} {c : Nat} {l : List α} (h : SliceAt r w S A c l) (hS : ∀ b, S b → S' b) (hk : Same S w w') : SliceAt r w' S' A c l := by
  obtain ⟨h1, h2, h3, h4⟩ := h
  refine ⟨h1, h2, h3, fun i hi => ?_⟩
  obtain ⟨g, o, cs, e, hb, hc, hr⟩ := h4 i hi
  exact ⟨g, o, cs, e, hS g hb, hc.keep hb hk, r.keep hr hS hk⟩

def Rep.slice (r : Rep α) : Rep (List α) where
  n := 1
  is := fun w S cs l => ∃ A c, cs = [.slice A l.length c] ∧ SliceAt r w S A c l
  size := by rintro _ _ _ _ ⟨_, _, rfl, _⟩; rfl
  keep := by rintro _ _ _ _ _ _ ⟨A, c, rfl, h⟩ hB hk; exact ⟨A, c, rfl, h.keep hB hk⟩
  one := by rintro _ _ _ _ ⟨_, _, rfl, _⟩; simp [Value.oneCell']

/-- Two parts side by side, through a reading of one's own. -/
def Rep.pair {β γ : Type} (r : Rep α) (s : Rep β) (f : γ → α × β) : Rep γ where
  n := r.n + s.n
  is := fun w S cs x => ∃ c1 c2, cs = c1 ++ c2 ∧ r.is w S c1 (f x).1 ∧ s.is w S c2 (f x).2
  size := by rintro _ _ _ _ ⟨c1, c2, rfl, h1, h2⟩; rw [List.length_append, r.size h1, s.size h2]
  keep := by rintro _ _ _ _ _ _ ⟨c1, c2, rfl, h1, h2⟩ hB hk; exact ⟨c1, c2, rfl, r.keep h1 hB hk, s.keep h2 hB hk⟩
  one := by
    rintro _ _ _ _ ⟨c1, c2, rfl, h1, h2⟩ u hu
    rcases List.mem_append.1 hu with h | h
    · exact r.one h1 u h
    · exact s.one h2 u h

theorem btw_under {lo hi hi' : Nat} (h : hi ≤ hi') (b : Nat) (hb : btw lo hi b) : under hi' b := Nat.lt_of_lt_of_le hb.2 h
/-! ### Staying -/
section
variable {r : Rep α} {w w' : World} {S S' : Blocks} {B B' : Nat} {A : Option Addr} {c : Nat} {l : List α}
theorem SliceAt.below (h : SliceAt r w (under B) A c l) (hb : Below B' w w') (h1 : B ≤ B') : SliceAt r w' (under B') A c l :=
  h.keep (fun _ hb => Nat.lt_of_lt_of_le hb h1) (Same.of_below hb fun _ hb => Nat.lt_of_lt_of_le hb h1)
theorem SliceAt.up (h : SliceAt r w S A c l) (h1 : ∀ b, S b → S' b) : SliceAt r w S' A c l := h.keep h1 (Same.refl _ _)
theorem SliceAt.drewN (h : SliceAt r w S A c l) (n : Nat) : SliceAt r (w.drewN n) S A c l := h.keep (fun _ h => h) fun _ _ => rfl
theorem SliceAt.nil (r : Rep α) (w : World) (S : Blocks) : SliceAt r w S none 0 ([] : List α) := ⟨by simp, by simp [maxLen], fun _ => rfl, fun i hi => absurd hi (by simp)⟩
theorem SliceAt.len (h : SliceAt r w S A c l) : l.length ≤ c := h.1
theorem SliceAt.max (h : SliceAt r w S A c l) : c ≤ 9223372036854775807 := by have := h.2.1; simp only [maxLen] at this; omega
theorem SliceAt.at_ (h : SliceAt r w S A c l) {i : Nat} (hi : i < l.length) : ∃ g o cs, A = some ⟨g, o, none⟩ ∧ S g ∧ CellsAt w g (o + i * r.n) cs ∧ r.is w S cs l[i] := h.2.2.2 i hi

/-- A cut 's[i:j]'. -/
theorem SliceAt.cut (h : SliceAt r w S A c l) {i j : Nat} (hij : i ≤ j) (hj : j ≤ l.length) :
    SliceAt r w S (if c = i then A else A.map (·.add (i * r.n))) (c - i) ((l.take j).drop i) := by
  obtain ⟨h1, h2, h3, h4⟩ := h
  refine ⟨by simp; omega, by omega, ?_, ?_⟩
  · intro e
    split at e
    · omega
    · cases A with
      | none => have := h3 rfl; omega
      | some a => simp at e
  · intro k hk
    simp at hk
    obtain ⟨g, o, cs, rfl, hb, hc, hr⟩ := h4 (i + k) (by omega)
    rw [if_neg (by omega)]
    refine ⟨g, o + i * r.n, cs, by simp [add_plain], hb, ?_, ?_⟩
    · rw [Nat.add_assoc, ← Nat.add_mul]; exact hc
    · simpa using hr
theorem SliceAt.cutTo (h : SliceAt r w S A c l) {j : Nat} (hj : j ≤ l.length) : SliceAt r w S A c (l.take j) := by
  obtain ⟨h1, h2, h3, h4⟩ := h
  refine ⟨by simp; omega, h2, h3, fun i hi => ?_⟩
  simp at hi
  obtain ⟨g, o, cs, e, hb, hc, hr⟩ := h4 i (by omega)
  exact ⟨g, o, cs, e, hb, hc, by simpa using hr⟩
theorem SliceAt.cutFrom (h : SliceAt r w S A c l) {i : Nat} (hi : i ≤ l.length) : SliceAt r w S (if c = i then A else A.map (·.add (i * r.n))) (c - i) (l.drop i) := by
  have := h.cut hi (Nat.le_refl _)
  rwa [List.take_length] at this
end

theorem SliceAt.cut1 {r : Rep α} {w : World} {S : Blocks} {A : Option Addr} {c : Nat} {l : List α} (h : SliceAt r w S A c l) (hr : r.n = 1) {i j : Nat} (hij : i ≤ j) (hj : j ≤ l.length) :
    SliceAt r w S (if c = i then A else A.map (fun a => a.add i)) (c - i) ((l.take j).drop i) := by
  have := h.cut hij hj
  rwa [hr, Nat.mul_one] at this
theorem SliceAt.from1 {r : Rep α} {w : World} {S : Blocks} {A : Option Addr} {c : Nat} {l : List α} (h : SliceAt r w S A c l) (hr : r.n = 1) {i : Nat} (hi : i ≤ l.length) :
    SliceAt r w S (if c = i then A else A.map (fun a => a.add i)) (c - i) (l.drop i) := by
  have := h.cutFrom hi
  rwa [hr, Nat.mul_one] at this
/-- Where a cut begins: the address keeps where no room is left. (A name, that the walk does not part on it.) -/
def cutA (A : Option Addr) (c k s : Nat) : Option Addr := if c = k then A else A.map (fun a => a.add (k * s))
theorem SliceAt.cutFromA {r : Rep α} {w : World} {S : Blocks} {A : Option Addr} {c : Nat} {l : List α} (h : SliceAt r w S A c l) {i s : Nat} (hi : i ≤ l.length) (hs : r.n = s) : SliceAt r w S (cutA A c i s) (c - i) (l.drop i) := by
  subst hs; exact h.cutFrom hi
theorem SliceAt.cutA {r : Rep α} {w : World} {S : Blocks} {A : Option Addr} {c : Nat} {l : List α} (h : SliceAt r w S A c l) {i j s : Nat} (hij : i ≤ j) (hj : j ≤ l.length) (hs : r.n = s) : SliceAt r w S (cutA A c i s) (c - i) ((l.take j).drop i) := by
  subst hs; exact h.cut hij hj
/-- An element of one cell, of two. -/
theorem CellsAt.one {w : World} {g o : Nat} {v : Value} (h : CellsAt w g o [v]) : w.cell? ⟨g, o, none⟩ = some v := h 0 v rfl
theorem CellsAt.two {w : World} {g o : Nat} {u v : Value} (h : CellsAt w g o [u, v]) : w.cell? ⟨g, o, none⟩ = some u ∧ w.cell? ⟨g, o + 1, none⟩ = some v := ⟨h 0 u rfl, h 1 v rfl⟩

theorem SliceAt.byte {w : World} {S : Blocks} {A : Option Addr} {c : Nat} {l : List UInt8} (h : SliceAt Rep.byte w S A c l) {i : Nat} (hi : i < l.length) :
    ∃ g o, A = some ⟨g, o, none⟩ ∧ S g ∧ w.cell? ⟨g, o + i, none⟩ = some (.int .u8 l[i].toNat) := by
  obtain ⟨g, o, cs, e, hb, hc, rfl⟩ := h.at_ hi
  have := hc.one
  rw [show Rep.byte.n = 1 from rfl, Nat.mul_one] at this
  exact ⟨g, o, e, hb, this⟩
theorem SliceAt.bools {w : World} {S : Blocks} {A : Option Addr} {c : Nat} {l : List Bool} (h : SliceAt Rep.bool w S A c l) {i : Nat} (hi : i < l.length) :
    ∃ g o, A = some ⟨g, o, none⟩ ∧ S g ∧ w.cell? ⟨g, o + i, none⟩ = some (.bool l[i]) := by
  obtain ⟨g, o, cs, e, hb, hc, rfl⟩ := h.at_ hi
  have := hc.one
  rw [show Rep.bool.n = 1 from rfl, Nat.mul_one] at this
  exact ⟨g, o, e, hb, this⟩

/-! ### Flat cells: what a slice's elements are, one behind the other -/
/-- The cells of a slice's elements, whatever they are. -/
theorem SliceAt.flat {r : Rep α} {w : World} {S : Blocks} {A : Option Addr} {c : Nat} {l : List α} (h : SliceAt r w S A c l) :
    ∃ xs : List Value, xs.length = l.length * r.n ∧ (∀ u ∈ xs, u.oneCell' = true) ∧ (0 < l.length → ∃ g o, A = some ⟨g, o, none⟩ ∧ S g ∧ CellsAt w g o xs) ∧
      ∀ i (hi : i < l.length), r.is w S ((xs.drop (i * r.n)).take r.n) l[i] := by
  suffices H : ∀ m, m ≤ l.length → ∃ xs : List Value, xs.length = m * r.n ∧ (∀ u ∈ xs, u.oneCell' = true) ∧ (0 < m → ∃ g o, A = some ⟨g, o, none⟩ ∧ S g ∧ CellsAt w g o xs) ∧
      ∀ i (hi : i < m) (hl : i < l.length), r.is w S ((xs.drop (i * r.n)).take r.n) l[i] by
    obtain ⟨xs, a, b, d, e⟩ := H l.length (Nat.le_refl _)
    exact ⟨xs, a, b, d, fun i hi => e i hi hi⟩
  intro m
  induction m with
  | zero => exact fun _ => ⟨[], by simp, by simp, fun h => absurd h (by omega), fun i hi => absurd hi (by omega)⟩
  | succ m ih =>
    intro hm
    obtain ⟨xs, hl, h1, hc, hi⟩ := ih (by omega)
    obtain ⟨g, o, cs, rfl, hb, hcs, hr⟩ := h.at_ (i := m) (by omega)
    have hn := r.size hr
    refine ⟨xs ++ cs, by rw [List.length_append, hl, hn, Nat.succ_mul], fun u hu => ?_, fun _ => ⟨g, o, rfl, hb, fun j u hj => ?_⟩, fun i him hil => ?_⟩
    · rcases List.mem_append.1 hu with h | h
      · exact h1 u h
      · exact r.one hr u h
    · by_cases hjl : j < xs.length
      · rw [List.getElem?_append_left hjl] at hj
        have h0 : 0 < m := by
          rcases Nat.eq_zero_or_pos m with h0 | h0
          · subst h0; simp at hl; simp [hl] at hjl
          · exact h0
        obtain ⟨g', o', he, _, hc'⟩ := hc h0
        simp only [Option.some.injEq, Addr.mk.injEq] at he
        obtain ⟨rfl, rfl, _⟩ := he
        exact hc' j u hj
      · rw [List.getElem?_append_right (by omega)] at hj
        have := hcs _ u hj
        rw [hl] at this
        rwa [show o + m * r.n + (j - m * r.n) = o + j by omega] at this
    · rcases Nat.lt_or_ge i m with h | h
      · have := hi i h hil
        have hle : i * r.n + r.n ≤ m * r.n := by rw [← Nat.succ_mul]; exact Nat.mul_le_mul_right _ h
        rw [List.drop_append_of_le_length (by omega), List.take_append_of_le_length (by simp; omega)]
        exact this
      · obtain rfl : i = m := by omega
        rw [← hl, List.drop_left, ← hn, List.take_length]
        exact hr

/-- The bytes' cells. -/
def bcells (l : List UInt8) : List Value := l.map fun b => .int .u8 b.toNat
theorem bcells_append (a b : List UInt8) : bcells (a ++ b) = bcells a ++ bcells b := by simp [bcells]
theorem bcells_len (a : List UInt8) : (bcells a).length = a.length := by simp [bcells]
theorem bcells_one (a : List UInt8) : ∀ u ∈ bcells a, u.oneCell' = true := by
  intro u hu
  obtain ⟨b, _, rfl⟩ := List.mem_map.1 hu
  simp [Value.oneCell']
theorem SliceAt.bytes {w : World} {S : Blocks} {A : Option Addr} {c : Nat} {l : List UInt8} (h : SliceAt Rep.byte w S A c l) (h0 : 0 < l.length) : ∃ g o, A = some ⟨g, o, none⟩ ∧ S g ∧ CellsAt w g o (bcells l) := by
  obtain ⟨g, o, rfl, hb, _⟩ := h.byte h0
  refine ⟨g, o, rfl, hb, fun j u hj => ?_⟩
  simp only [bcells, List.getElem?_map, Option.map_eq_some_iff] at hj
  obtain ⟨b, hb', rfl⟩ := hj
  obtain ⟨hj, rfl⟩ := List.getElem?_eq_some_iff.1 hb'
  obtain ⟨g', o', he, _, hc⟩ := h.byte hj
  simp only [Option.some.injEq, Addr.mk.injEq] at he
  obtain ⟨rfl, rfl, _⟩ := he
  exact hc

/-! ### Rows of the call's own -/
/-- A slice value that owns its row (it may be appended to): what it reads as; its elements look at the blocks of S, which are others. -/
def Own (r : Rep α) (e : TypeId) (w : World) (base : Nat) (S : Blocks) (v : Value) (l : List α) : Prop :=
  ∃ xs, w.ownsRow base e r.n v l.length xs ∧ (∀ b, S b → b < w.heap.size ∧ some b ≠ v.ownBlock) ∧ (∀ u ∈ xs, u.oneCell' = true) ∧ ∀ i (hi : i < l.length), r.is w S ((xs.drop (i * r.n)).take r.n) l[i]

def nob : Blocks := fun _ => False

theorem Own.nil (r : Rep α) (e : TypeId) (w : World) (base : Nat) : Own r e w base nob (.slice none 0 0) ([] : List α) :=
  ⟨[], World.ownsRow_nil _ _ _ _, fun _ h => h.elim, by simp, fun i hi => absurd hi (by simp)⟩

/-- What is owned reads as a slice. -/
theorem Own.slice {r : Rep α} {e : TypeId} {w : World} {base : Nat} {S : Blocks} {v : Value} {l : List α} (h : Own r e w base S v l) :
    ∃ A c, v = .slice A l.length c ∧ SliceAt r w (fun b => (base ≤ b ∧ b < w.heap.size ∧ some b = v.ownBlock) ∨ S b) A c l := by
  obtain ⟨xs, ⟨hl, hv⟩, hS, h1, hr⟩ := h
  rcases hv with ⟨rfl, h0⟩ | ⟨g, cap, cur, rfl, hb, hg, hle, hmax, hsz, ht⟩
  · have : l = [] := List.eq_nil_of_length_eq_zero h0
    subst this
    exact ⟨none, 0, rfl, SliceAt.nil _ _ _⟩
  · have hlt : g < w.heap.size := (Array.getElem?_eq_some_iff.1 hg).1
    refine ⟨some ⟨g, 0, none⟩, cap, rfl, hle, hmax, by simp, fun i hi => ⟨g, 0, _, rfl, .inl ⟨hb, hlt, rfl⟩, fun j u hj => ?_, r.keep (hr i hi) (fun _ h => .inr h) (Same.refl _ _)⟩⟩
    rw [cell_of_row w g _ cur e (0, 0) hg]
    rw [← ht] at hj
    rw [List.getElem?_take] at hj
    split at hj
    · rw [List.getElem?_drop, List.getElem?_take] at hj
      split at hj
      · rw [← Array.getElem?_toList, ← hj]; congr 1; omega
      · cases hj
    · cases hj

/-- .. its form, the length by a name of its own. -/
theorem Own.form {r : Rep α} {e : TypeId} {w : World} {base : Nat} {S : Blocks} {v : Value} {l : List α} (h : Own r e w base S v l) : ∃ A n c, v = .slice A n c ∧ Hid (n = l.length) ∧ n ≤ c ∧ c ≤ 9223372036854775807 := by
  obtain ⟨A, c, e, hs⟩ := h.slice
  exact ⟨A, _, c, e, Lib.hid rfl, hs.len, hs.max⟩

theorem Own.read {r : Rep α} {e : TypeId} {w : World} {base : Nat} {v : Value} {l : List α} (h : Own r e w base nob v l) : ∃ A n c, v = .slice A n c ∧ Hid (n = l.length) ∧ n ≤ c ∧ c ≤ 9223372036854775807 ∧ SliceAt r w (btw base w.heap.size) A c l := by
  obtain ⟨A, c, e, hs⟩ := h.slice
  refine ⟨A, _, c, e, Lib.hid rfl, hs.len, hs.max, hs.up fun b hb => ?_⟩
  rcases hb with hb | hb
  · exact ⟨hb.1, hb.2.1⟩
  · exact hb.elim

theorem Own.mono {r : Rep α} {e : TypeId} {w w' : World} {base : Nat} {S : Blocks} {v : Value} {l : List α} {row : Option Nat} (h : Own r e w base S v l) (hg : w.grownBy w' row)
    (hne : v.ownBlock = none ∨ v.ownBlock ≠ row) (hS : ∀ b, S b → some b ≠ row) : Own r e w' base S v l := by
  obtain ⟨xs, ho, hS', h1, hr⟩ := h
  exact ⟨xs, ho.kept hg hne, fun b hb => ⟨Nat.lt_of_lt_of_le (hS' b hb).1 hg.size, (hS' b hb).2⟩, h1, fun i hi => r.keep (hr i hi) (fun _ h => h) (Same.of_grown hg fun b hb => ⟨(hS' b hb).1, hS b hb⟩)⟩
end

section
variable {α : Type}
theorem SliceAt.newBytes (w : World) (e : TypeId) (cs : Array Value) (l : List UInt8) (c : Nat) (hc : l.length ≤ c) (hm : c ≤ maxLen) (h : cs.toList = bcells l) (fr : Nat × Nat := (0, 0)) :
    SliceAt Rep.byte (w.alloc (.cells cs e fr)) (under (w.heap.size + 1)) (some ⟨w.heap.size, 0, none⟩) c l := by
  refine ⟨hc, hm, by simp, fun i hi => ⟨w.heap.size, 0, _, rfl, Nat.lt_succ_self _, fun j u hj => ?_, rfl⟩⟩
  match j, hj with
  | 0, hj =>
    simp only [List.getElem?_cons_zero, Option.some.injEq] at hj
    subst hj
    rw [cell_of_row _ _ _ cs e fr (heap_alloc_new w _), ← Array.getElem?_toList, h]
    simp [bcells, Rep.byte, hi]

/-- One element of whatever kind, laid in new memory. -/
theorem SliceAt.new1 (r : Rep α) (w : World) (e : TypeId) (cs : Array Value) (x : α) (S : Blocks) (h : r.is w S cs.toList x) (hS : ∀ b, S b → b < w.heap.size) :
    SliceAt r (w.alloc (.cells cs e)) (fun b => b = w.heap.size ∨ S b) (some ⟨w.heap.size, 0, none⟩) 1 [x] := by
  refine ⟨by simp, by simp [maxLen], by simp, fun i hi => ?_⟩
  have hi0 : i = 0 := by simpa using hi
  subst hi0
  refine ⟨w.heap.size, 0, cs.toList, rfl, .inl rfl, fun j u hj => ?_, ?_⟩
  · rw [cell_of_row _ _ _ cs e (0, 0) (heap_alloc_new w _)]
    simpa using hj
  · exact r.keep h (fun _ h => .inr h) fun b hb => heap_alloc_old w _ b (hS b hb)

/-- A row of elements, laid in new memory. -/
theorem SliceAt.newRow (r : Rep α) (w : World) (e : TypeId) (cs : Array Value) (l : List α) (S : Blocks) (n c : Nat) (hn : l.length = n) (hc : n ≤ c) (hm : c ≤ maxLen) (h : ∀ i (hi : i < l.length), r.is w S ((cs.toList.drop (i * r.n)).take r.n) l[i]) (hS : ∀ b, S b → b < w.heap.size) (fr : Nat × Nat := (0, 0)) :
    SliceAt r (w.alloc (.cells cs e fr)) (fun b => b = w.heap.size ∨ S b) (some ⟨w.heap.size, 0, none⟩) c l := by
  subst hn
  refine ⟨hc, hm, by simp, fun i hi => ⟨w.heap.size, 0, _, rfl, .inl rfl, fun j u hj => ?_, r.keep (h i hi) (fun _ h => .inr h) fun b hb => heap_alloc_old w _ b (hS b hb)⟩⟩
  rw [cell_of_row _ _ _ cs e fr (heap_alloc_new w _)]
  rw [List.getElem?_take] at hj
  split at hj
  · rw [List.getElem?_drop] at hj
    rw [← Array.getElem?_toList, ← hj]; congr 1; omega
  · cases hj

/-- What the element type of a slice is in the program's table. -/
structure SliceType (P : Program) (t e : TypeId) (size bytes : Nat) : Prop where
  ht : P.underlying t = some (.slice e)
  hi : ∃ i z, P.info? e = some i ∧ i.zero = some z ∧ i.size = size ∧ i.bytes = bytes ∧ z.cells.size = size
  pos : 0 < size

theorem SliceType.mk' {P : Program} {t e : TypeId} {z : Value} {size bytes : Nat} (ht : P.underlying t = some (.slice e)) (h : (P.info? e).map (fun i => (i.zero, i.size, i.bytes)) = some (some z, size, bytes)) (hz : z.cells.size = size) (hp : 0 < size) : SliceType P t e size bytes := by
  obtain ⟨i, h1, h2, h3, h4⟩ := info_parts h
  exact ⟨ht, ⟨i, z, h1, h2, h3, h4, hz⟩, hp⟩

section
variable {P : Program} (w : World)

/-- 's[k:]', its address under a name. Lay it ahead of a walk. -/
theorem run_slice_from {t e : TypeId} {size bytes : Nat} (hT : SliceType P t e size bytes) (A : Option Addr) (n c k : Nat) (hk : k ≤ n) : (Instr.sliceAt t (.slice A n c) (some (.int .i64 (k : Int))) none none).run P w = .ok (.slice (cutA A c k size) (n - k) (c - k)) w := by
  obtain ⟨i, z, hi, hz, hs, hb, hzs⟩ := hT.hi
  have he : P.elem t = e := by simp [Program.elem, hT.ht]
  have ht' : P.underlying t = some (.slice (P.elem t)) := by rw [he]; exact hT.ht
  rw [run_sliceAt_slice (P := P) (w := w) t _ _ _ _ ht', run_slice_l (P := P) (w := w) t A n c ht' .i64 k (by omega) (by omega), he]
  simp [sizeOf, typeInfo, hi, sliced, Result.andThen, cutA, hs]
/-- 's[j:k]'. -/
theorem run_slice_both {t e : TypeId} {size bytes : Nat} (hT : SliceType P t e size bytes) (A : Option Addr) (n c j k : Nat) (hj : j ≤ k) (hk : k ≤ c) : (Instr.sliceAt t (.slice A n c) (some (.int .i64 (j : Int))) (some (.int .i64 (k : Int))) none).run P w = .ok (.slice (cutA A c j size) (k - j) (c - j)) w := by
  obtain ⟨i, z, hi, hz, hs, hb, hzs⟩ := hT.hi
  have he : P.elem t = e := by simp [Program.elem, hT.ht]
  have ht' : P.underlying t = some (.slice (P.elem t)) := by rw [he]; exact hT.ht
  rw [run_sliceAt_slice (P := P) (w := w) t _ _ _ _ ht', run_slice_lh (P := P) (w := w) t A n c ht' .i64 .i64 j k (by omega) (by omega) (by omega), he]
  simp [sizeOf, typeInfo, hi, sliced, Result.andThen, cutA, hs]

theorem run_append_of_nil (base : Nat) (t ty e : TypeId) (i : TypeInfo) (size : Nat) (ht : P.underlying t = some (.slice e)) (hi : P.info? e = some i)
    (v : Value) (n : Nat) (xs : List Value) (hown : w.ownsRow base e size v n xs) (A : Option Addr) (c : Nat) : (Builtin.append_ #[t, t] ty #[v, .slice A 0 c]).run P w = .ok v w := by
  rcases hown.2 with ⟨rfl, rfl⟩ | ⟨g, cap, cur, rfl, _, _, hnc, _⟩
  · cases A <;> simp [Builtin.append_, run_underlying ht, sizeOf, typeInfo, hi, Builtin.lenOf, Builtin.firstCells, loadCells, loadCellsFrom]
  · cases A <;> simp [Builtin.append_, run_underlying ht, sizeOf, typeInfo, hi, Builtin.lenOf, Builtin.firstCells, hnc, storeCells, loadCells, loadCellsFrom]

/-- append onto what is owned, of any slice: what it reads as then. -/
theorem run_append_Own (r : Rep α) (base : Nat) (t ty e : TypeId) (bytes : Nat) (hT : SliceType P t e r.n bytes) (S : Blocks) (v : Value) (l : List α) (hown : Own r e w base S v l)
    (S2 : Blocks) (A : Option Addr) (c : Nat) (m : List α) (hm : SliceAt r w S2 A c m) (S3 : Blocks) (hS3 : ∀ b, S3 b → b < w.heap.size ∧ some b ≠ v.ownBlock) (hin : ∀ b, S b → S3 b)
    (hflat : ∀ cs x, r.is w S2 cs x → r.is w S3 cs x) (hbytes : (l.length + m.length) * bytes ≤ 140737488355328) (hlen : l.length + m.length ≤ 9223372036854775807) (hbase : base ≤ w.heap.size) :
    ∃ v' w', (Builtin.append_ #[t, t] ty #[v, .slice A m.length c]).run P w = .ok v' w' ∧ Own r e w' base S3 v' (l ++ m) ∧ w.grownBy w' v.ownBlock ∧ (v'.ownBlock = v.ownBlock ∨ v'.ownBlock = some w.heap.size) := by
  obtain ⟨ht, ⟨i, z, hi, hz, hsize, hby, hzs⟩, hpos⟩ := hT
  obtain ⟨xs, ho, hS, h1, hr⟩ := hown
  obtain ⟨ys, hyl, hy1, hya, hyr⟩ := hm.flat
  have hgl : ∀ b, v.ownBlock = some b → b < w.heap.size := fun b hb => (ho.lt b hb).2
  rcases Nat.eq_zero_or_pos m.length with h0 | h0
  · have hm0 : m = [] := List.eq_nil_of_length_eq_zero h0
    subst hm0
    refine ⟨v, w, run_append_of_nil w base t ty e i r.n ht hi v l.length xs ho A c, ⟨xs, by simpa using ho, hS3, h1, fun i hi => ?_⟩, World.grownBy.refl w _, .inl rfl⟩
    have := hr i (by simpa using hi)
    simpa using r.keep this hin (Same.refl _ _)
  · obtain ⟨g, o, rfl, hg2, hc⟩ := hya h0
    obtain ⟨v', w', hrun, ho', hg, _, hat⟩ := run_append_own_at (P := P) w base t ty e i z r.n bytes ht hi hz hsize hby hzs hpos v l.length xs ho ⟨g, o, none⟩ m.length c ys hyl (fun j u hj => by rw [add_plain]; exact hc j u hj) hy1 (by simp only [maxLen]; omega) hbytes hbase
    have hS3' : Same S3 w w' := fun b hb => hg.block b (hS3 b hb).1 (hS3 b hb).2
    refine ⟨v', w', hrun, ⟨xs ++ ys, by rw [List.length_append]; exact ho', fun b hb => ⟨Nat.lt_of_lt_of_le (hS3 b hb).1 hg.size, ?_⟩, fun u hu => ?_, fun k hk => ?_⟩, hg, hat⟩
    · rcases hat with e | e <;> rw [e]
      · exact (hS3 b hb).2
      · have := (hS3 b hb).1; simp; omega
    · rcases List.mem_append.1 hu with h | h
      · exact h1 u h
      · exact hy1 u h
    · have hxl := ho.1
      by_cases hkl : k < l.length
      · have hle : k * r.n + r.n ≤ l.length * r.n := by rw [← Nat.succ_mul]; exact Nat.mul_le_mul_right _ hkl
        rw [List.drop_append_of_le_length (by omega), List.take_append_of_le_length (by simp; omega), List.getElem_append_left hkl]
        exact r.keep (r.keep (hr k hkl) hin (Same.refl _ _)) (fun _ h => h) hS3'
      · simp only [List.length_append] at hk
        have hsub : (k - l.length) * r.n = k * r.n - l.length * r.n := Nat.sub_mul _ _ _
        have hle : l.length * r.n ≤ k * r.n := Nat.mul_le_mul_right _ (by omega)
        have hd : (xs ++ ys).drop (k * r.n) = ys.drop ((k - l.length) * r.n) := by
          rw [List.drop_append, List.drop_of_length_le (by omega), List.nil_append, hxl, hsub]
        rw [hd, List.getElem_append_right (by omega)]
        exact r.keep (hflat _ _ (hyr (k - l.length) (by omega))) (fun _ h => h) hS3'

/-- Bytes made a string. -/
theorem run_bytes_string (src e dst : TypeId) (hs : P.underlying src = some (.slice e)) (he : P.underlying e = some (.int .u8)) (hd : P.underlying dst = some .string) (S : Blocks) (A : Option Addr) (n c : Nat) (l : List UInt8) (hn : l.length = n) (h : SliceAt Rep.byte w S A c l) :
    (convert src dst (.slice A n c)).run P w = .ok (.string ⟨l.toArray⟩) w := by
  subst hn
  cases A with
  | none =>
    have h0 : l = [] := List.eq_nil_of_length_eq_zero (by have := h.2.2.1 rfl; have := h.len; omega)
    subst h0
    exact run_convert_bytes_nil (P := P) w src e hs he _ _ dst hd
  | some a =>
    rcases Nat.eq_zero_or_pos l.length with h0 | h0
    · have h0' : l = [] := List.eq_nil_of_length_eq_zero h0
      subst h0'
      rw [run_convert_bytes_string w src dst e _ _ c hs he hd]
      simp [Conv.bytesToString, loadCells, loadCellsFrom]
      rfl
    · obtain ⟨g, o, ha, _⟩ := h.byte h0
      simp only [Option.some.injEq] at ha
      subst ha
      have := run_convert_bytes_arg (P := P) w src e hs he g o l.length c (l.map fun b => (b.toNat : Int)) (by simp) (fun i hi => by
        obtain ⟨g', o', he', _, hc⟩ := h.byte hi
        simp only [Option.some.injEq, Addr.mk.injEq] at he'
        obtain ⟨rfl, rfl, _⟩ := he'
        simpa [List.getD, hi] using hc) dst hd
      rw [this]
      have : strOfNums (l.map fun b => (b.toNat : Int)) = ⟨l.toArray⟩ := by
        unfold strOfNums
        congr 1
        simp [Function.comp_def]
      rw [this]

theorem wp_append_Own {o : Oper} {a : Act} {K : Act → World → Prop} {Q : Exit → Act → World → Prop} (s x : Operand) (t : TypeId)
    (ho : o.op = .call { callee := .builtin .append, args := #[s, x], argTypes := #[t, t] })
    (r : Rep α) (base : Nat) (e : TypeId) (bytes : Nat) (hT : SliceType P t e r.n bytes) (S : Blocks) (v : Value) (l : List α) (hs : a.eval s = v) (hown : Own r e w base S v l)
    (S2 : Blocks) (A : Option Addr) (c : Nat) (m : List α) (hx : a.eval x = .slice A m.length c) (hm : SliceAt r w S2 A c m) (S3 : Blocks) (hS3 : ∀ b, S3 b → b < w.heap.size ∧ some b ≠ v.ownBlock) (hin : ∀ b, S b → S3 b)
    (hflat : ∀ cs x, r.is w S2 cs x → r.is w S3 cs x) (hbytes : (l.length + m.length) * bytes ≤ 140737488355328) (hlen : l.length + m.length ≤ 9223372036854775807) (hbase : base ≤ w.heap.size)
    (h : ∀ v' w', Own r e w' base S3 v' (l ++ m) → w.grownBy w' v.ownBlock → (v'.ownBlock = v.ownBlock ∨ v'.ownBlock = some w.heap.size) → K (a.put o.dst v') w') : o.wp P a w K Q := by
  obtain ⟨v', w', hrun, h2, h3, h4⟩ := run_append_Own (P := P) w r base t o.type e bytes hT S v l hown S2 A c m hm S3 hS3 hin hflat hbytes hlen hbase
  unfold Oper.wp execOp
  simp only [ho, resolve, invoke, builtin, Sem.run_bind, Sem.run_pure, Result.andThen_ok, List.map_toArray, List.map_cons, List.map_nil, hs, hx, hrun]
  exact h v' w' h2 h3 h4

theorem wpList_append_Own {ops : Array Oper} {rest : List Oper} {o : Oper} {a : Act} {Q : Exit → Act → World → Prop} (hgd : o.guard = none) (s x : Operand) (t : TypeId)
    (ho : o.op = .call { callee := .builtin .append, args := #[s, x], argTypes := #[t, t] })
    (r : Rep α) (base : Nat) (e : TypeId) (bytes : Nat) (hT : SliceType P t e r.n bytes) (S : Blocks) (v : Value) (l : List α) (hs : a.eval s = v) (hown : Own r e w base S v l)
    (S2 : Blocks) (A : Option Addr) (c : Nat) (m : List α) (hx : a.eval x = .slice A m.length c) (hm : SliceAt r w S2 A c m) (S3 : Blocks) (hS3 : ∀ b, S3 b → b < w.heap.size ∧ some b ≠ v.ownBlock) (hin : ∀ b, S b → S3 b)
    (hflat : ∀ cs x, r.is w S2 cs x → r.is w S3 cs x) (hbytes : (l.length + m.length) * bytes ≤ 140737488355328) (hlen : l.length + m.length ≤ 9223372036854775807) (hbase : base ≤ w.heap.size)
    (h : ∀ v' w', Own r e w' base S3 v' (l ++ m) → w.grownBy w' v.ownBlock → (v'.ownBlock = v.ownBlock ∨ v'.ownBlock = some w.heap.size) → wpList P ops Q rest (a.put o.dst v') w') : wpList P ops Q (o :: rest) a w :=
  wpList_plain hgd fun _ hK => wp_append_Own w s x t ho r base e bytes hT S v l hs hown S2 A c m hx hm S3 hS3 hin hflat hbytes hlen hbase fun v' w' h2 h3 h4 => hK _ _ (h v' w' h2 h3 h4)

/-- .. of bytes. -/
theorem wpList_append_bytes {ops : Array Oper} {rest : List Oper} {o : Oper} {a : Act} {Q : Exit → Act → World → Prop} (hgd : o.guard = none) (s x : Operand) (t : TypeId)
    (ho : o.op = .call { callee := .builtin .append, args := #[s, x], argTypes := #[t, t] })
    (base : Nat) (e : TypeId) (hT : SliceType P t e 1 1) (v : Value) (l : List UInt8) (hs : a.eval s = v) (hown : Own Rep.byte e w base nob v l)
    (S2 : Blocks) (A : Option Addr) (n c : Nat) (m : List UInt8) (hx : a.eval x = .slice A n c) (hm : SliceAt Rep.byte w S2 A c m) (hn : m.length = n)
    (hbytes : l.length + n ≤ 140737488355328) (hbase : base ≤ w.heap.size)
    (h : ∀ v' w', Own Rep.byte e w' base nob v' (l ++ m) → w.grownBy w' v.ownBlock → (v'.ownBlock = v.ownBlock ∨ v'.ownBlock = some w.heap.size) → wpList P ops Q rest (a.put o.dst v') w') : wpList P ops Q (o :: rest) a w :=
  wpList_append_Own w hgd s x t ho Rep.byte base e 1 hT nob v l hs hown S2 A c m (by rw [hx, hn]) hm nob (fun _ h => h.elim) (fun _ h => h) (fun _ _ h => h) (by omega) (by omega) hbase h
end

/-- Behind such an append: nothing below the base has turned. -/
theorem below_own {B : Nat} {a w w' : World} {r : Rep α} {e : TypeId} {S : Blocks} {v : Value} {l : List α} (h : Below B a w) (ho : Own r e w B S v l) (hg : w.grownBy w' v.ownBlock) (hB : B ≤ w.heap.size) : Below B a w' :=
  h.grown hg hB fun k hk => by obtain ⟨xs, ho, _⟩ := ho; exact (ho.lt k hk).1
theorem Own.alloc {r : Rep α} {e : TypeId} {w : World} {base : Nat} {S : Blocks} {v : Value} {l : List α} (h : Own r e w base S v l) (o : Obj) : Own r e (w.alloc o) base S v l :=
  h.mono (World.grownBy_alloc w o none) (by cases v.ownBlock <;> simp) (fun _ _ => by simp)
theorem World.grownBy_drewN (w : World) (n : Nat) (row : Option Nat) : w.grownBy (w.drewN n) row := ⟨rfl, rfl, rfl, Nat.le_refl _, fun _ _ _ => rfl⟩
theorem Own.drewN {r : Rep α} {e : TypeId} {w : World} {base : Nat} {S : Blocks} {v : Value} {l : List α} (h : Own r e w base S v l) (n : Nat) : Own r e (w.drewN n) base S v l :=
  h.mono (World.grownBy_drewN w n none) (by cases v.ownBlock <;> simp) (fun _ _ => by simp)
theorem Own.far {r : Rep α} {e : TypeId} {w w' : World} {base : Nat} {S : Blocks} {v : Value} {l : List α} (h : Own r e w base S v l) (hb : Below w.heap.size w w') : Own r e w' base S v l :=
  h.mono (row := none) ⟨hb.os, hb.tape, hb.output, hb.size, fun k hk _ => hb.block k hk⟩ (by cases v.ownBlock <;> simp) (fun _ _ => by simp)
end
end Go.Proofs.YtnpideapdjomgaaDoor
