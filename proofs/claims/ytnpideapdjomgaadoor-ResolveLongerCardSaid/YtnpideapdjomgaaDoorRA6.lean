/- Texts that lead to the claim, one behind the other: A world in which only some blocks have turned; what is owned while one's own or another's block is written. No program in sight. No conditions. -/
import Derived.Test.YtnpideapdjomgaaDoorRA0
import Derived.OwnWalk
import Derived.OneCell
namespace Go.Proofs.YtnpideapdjomgaaDoor
open Go.RowKit

/-- Only the blocks of F, and new ones, have turned. -/
structure Only (F : Blocks) (w w' : World) : Prop where
  os : w'.os = w.os
  tape : w'.tape = w.tape
  output : w'.output = w.output
  size : w.heap.size ≤ w'.heap.size
  block : ∀ b, b < w.heap.size → ¬ F b → w'.heap[b]? = w.heap[b]?

theorem Only.refl (F : Blocks) (w : World) : Only F w w := ⟨rfl, rfl, rfl, Nat.le_refl _, fun _ _ _ => rfl⟩
theorem Only.trans {F F1 : Blocks} {a b c : World} (h : Only F a b) (k : Only F1 b c) (hF : ∀ x, F1 x → F x ∨ a.heap.size ≤ x) : Only F a c :=
  ⟨k.os.trans h.os, k.tape.trans h.tape, k.output.trans h.output, Nat.le_trans h.size k.size, fun x hx hn =>
    (k.block x (Nat.lt_of_lt_of_le hx h.size) (fun e => by rcases hF x e with e | e; exact hn e; omega)).trans (h.block x hx hn)⟩
theorem Only.mono {F F1 : Blocks} {a b : World} (h : Only F a b) (hF : ∀ x, F x → F1 x) : Only F1 a b := ⟨h.os, h.tape, h.output, h.size, fun x hx hn => h.block x hx fun e => hn (hF x e)⟩
theorem Only.of_below {w w' : World} (h : Below w.heap.size w w') (F : Blocks) : Only F w w' := ⟨h.os, h.tape, h.output, h.size, fun b hb _ => h.block b hb⟩
theorem Only.below {F : Blocks} {w w' : World} {B : Nat} (h : Only F w w') (hB : B ≤ w.heap.size) (hF : ∀ b, F b → B ≤ b) : Below B w w' :=
  ⟨h.os, h.tape, h.output, h.size, fun b hb => h.block b (by omega) fun e => by have := hF b e; omega⟩
theorem Only.of_grown {w w' : World} {row : Option Nat} (h : w.grownBy w' row) (F : Blocks) (hF : ∀ b, some b = row → F b) : Only F w w' := ⟨h.os, h.tape, h.output, h.size, fun b hb hn => h.block b hb fun e => hn (hF b e)⟩
theorem Only.same {F S : Blocks} {w w' : World} (h : Only F w w') (hS : ∀ b, S b → b < w.heap.size ∧ ¬ F b) : Same S w w' := fun b hb => h.block b (hS b hb).1 (hS b hb).2
theorem Only.drewN {F : Blocks} {a w : World} (h : Only F a w) (n : Nat) : Only F a (w.drewN n) := ⟨h.os, h.tape, h.output, h.size, h.block⟩
theorem Only.alloc {F : Blocks} {a w : World} (h : Only F a w) (o : Obj) : Only F a (w.alloc o) :=
  ⟨h.os, h.tape, h.output, Nat.le_trans h.size (by simp), fun b hb hn => (Below.heap_alloc w o b (Nat.lt_of_lt_of_le hb h.size)).trans (h.block b hb hn)⟩
theorem Only.setCell {F : Blocks} {a w : World} (h : Only F a w) {p : Addr} (hp : F p.block ∨ a.heap.size ≤ p.block) (u : Value) : Only F a (w.setCell p u) :=
  ⟨h.os, h.tape, h.output, by simpa [World.setCell] using h.size, fun b hb hn => (Below.heap_setCell w p u b (by rintro rfl; rcases hp with e | e; exact hn e; omega)).trans (h.block b hb hn)⟩
theorem Only.grown {F : Blocks} {a w w' : World} {row : Option Nat} (h : Only F a w) (hg : w.grownBy w' row) (hr : ∀ b, some b = row → F b ∨ a.heap.size ≤ b) : Only F a w' :=
  ⟨hg.os.trans h.os, hg.tape.trans h.tape, hg.output.trans h.output, Nat.le_trans h.size hg.size, fun b hb hn =>
    (hg.block b (Nat.lt_of_lt_of_le hb h.size) (fun e => by rcases hr b e with e | e; exact hn e; omega)).trans (h.block b hb hn)⟩

section
variable {α : Type} {r : Rep α} {e : TypeId} {w w' : World} {base : Nat} {v : Value} {l : List α}
/-- What is owned stays, where its own block has not turned. -/
theorem Own.only {F : Blocks} (h : Own r e w base nob v l) (ho : Only F w w') (hF : ∀ b, v.ownBlock = some b → ¬ F b) : Own r e w' base nob v l := by
  obtain ⟨xs, hx, hS, h1, hr⟩ := h
  refine ⟨xs, ⟨hx.1, ?_⟩, fun _ h => h.elim, h1, fun i hi => r.keep (hr i hi) (fun _ h => h) fun _ h => h.elim⟩
  rcases hx.2 with h | ⟨g, cap, cur, rfl, hb, hg, rest⟩
  · exact .inl h
  · refine .inr ⟨g, cap, cur, rfl, hb, ?_, rest⟩
    rw [ho.block g (Array.getElem?_eq_some_iff.1 hg).1 (hF g rfl)]
    exact hg
theorem Own.block_lt (h : Own r e w base nob v l) {b : Nat} (hb : v.ownBlock = some b) : base ≤ b ∧ b < w.heap.size := by
  obtain ⟨xs, hx, _⟩ := h
  exact hx.lt b hb
/-- Rows of unlike element types. -/
theorem Own.ne_type {β : Type} {s : Rep β} {e' : TypeId} {base' : Nat} {v' : Value} {l' : List β} (h : Own r e w base nob v l) (h' : Own s e' w base' nob v' l') (hne : e ≠ e') {b : Nat} (hb : v.ownBlock = some b) : v'.ownBlock ≠ some b := by
  obtain ⟨xs, hx, _⟩ := h
  obtain ⟨ys, hy, _⟩ := h'
  intro hb'
  rcases hx.2 with ⟨rfl, _⟩ | ⟨g, cap, cur, rfl, _, hg, _⟩
  · simp [Value.ownBlock] at hb
  rcases hy.2 with ⟨rfl, _⟩ | ⟨g', cap', cur', rfl, _, hg', _⟩
  · simp [Value.ownBlock] at hb'
  simp [Value.ownBlock] at hb hb'
  subst hb; subst hb'
  rw [hg] at hg'
  injection hg' with hg'
  injection hg' with _ ht
  exact hne ht
/-- .. and a block of another type's cells. -/
theorem Own.ne_block (h : Own r e w base nob v l) {g : Nat} {cs : Array Value} {t : TypeId} {fr : Nat × Nat} (hg : w.heap[g]? = some (.cells cs t fr)) (hne : e ≠ t) : v.ownBlock ≠ some g := by
  obtain ⟨xs, hx, _⟩ := h
  intro hb
  rcases hx.2 with ⟨rfl, _⟩ | ⟨g', cap, cur, rfl, _, hg', _⟩
  · simp [Value.ownBlock] at hb
  simp [Value.ownBlock] at hb
  subst hb
  rw [hg'] at hg
  injection hg with hg
  injection hg with _ ht
  exact hne ht
/-- A cell of what is owned: it is there, and may be written. -/
theorem Own.cellAt (h : Own r e w base nob v l) (hn : r.n = 1) {k : Nat} (hk : k < l.length) : ∃ g c u, v = .slice (some ⟨g, 0, none⟩) l.length c ∧ base ≤ g ∧ g < w.heap.size ∧ w.cell? ⟨g, k, none⟩ = some u ∧ w.frozen? ⟨g, k, none⟩ = false ∧ r.is w nob [u] l[k] ∧
    ∀ u' x, r.is w nob [u'] x → Own r e (w.setCell ⟨g, k, none⟩ u') base nob v (l.set k x) := by
  obtain ⟨xs, hx, hS, h1, hr⟩ := h
  have hxl := hx.1
  rw [hn, Nat.mul_one] at hxl
  rcases hx.2 with ⟨rfl, h0⟩ | ⟨g, cap, cur, rfl, hb, hg, hle, hmax, hsz, htk⟩
  · omega
  rw [hn, Nat.mul_one] at hsz htk
  have hlt : g < w.heap.size := (Array.getElem?_eq_some_iff.1 hg).1
  have hkx : k < xs.length := by omega
  have hcell : w.cell? ⟨g, k, none⟩ = some xs[k] := by
    rw [cell_of_row w g k cur e (0, 0) hg, ← Array.getElem?_toList]
    have : xs[k]? = some xs[k] := List.getElem?_eq_getElem hkx
    rw [← this]
    conv => rhs; rw [← htk]
    rw [List.getElem?_take, if_pos hk]
  have hone : ∀ (ys : List Value) (i : Nat) (hi : i < ys.length), (ys.drop (i * 1)).take 1 = [ys[i]] := by
    intro ys i hi
    rw [Nat.mul_one, List.drop_eq_getElem_cons hi]; rfl
  have hri := hr k hk
  rw [hn, hone xs k hkx] at hri
  refine ⟨g, cap, xs[k], rfl, hb, hlt, hcell, by simp [World.frozen?, hg], hri, fun u' x hu => ⟨xs.set k u', ⟨by simp [hxl, hn], .inr ⟨g, cap, cur.setIfInBounds k u', by simp, hb, ?_, by simpa using hle, hmax, by simp [hsz, hn], ?_⟩⟩, fun _ h => h.elim, fun u hm => ?_, fun i hi => ?_⟩⟩
  · simp [World.setCell, Array.getElem?_modify, hg]
  · simp only [List.length_set, hn, Nat.mul_one]
    rw [Array.toList_setIfInBounds, List.take_set, htk]
  · rcases List.mem_or_eq_of_mem_set hm with h | rfl
    · exact h1 u h
    · exact r.one hu _ (by simp)
  · simp only [List.length_set] at hi
    rw [hn, hone _ i (by simp; omega)]
    by_cases hik : i = k
    · subst hik
      simp only [List.getElem_set_self]
      exact r.keep hu (fun _ h => h) fun _ h => h.elim
    · rw [List.getElem_set_ne (fun e => hik e.symm), List.getElem_set_ne (fun e => hik e.symm)]
      have := hr i hi
      rw [hn, hone xs i (by omega)] at this
      exact r.keep this (fun _ h => h) fun _ h => h.elim
end
end Go.Proofs.YtnpideapdjomgaaDoor
