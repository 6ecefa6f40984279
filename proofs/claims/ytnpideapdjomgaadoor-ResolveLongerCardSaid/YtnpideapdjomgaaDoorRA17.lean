/- Texts that lead to the claim, one behind the other: An element of a row of the call's own, of any number of cells, written over. No program in sight. No conditions. -/
import Derived.Test.YtnpideapdjomgaaDoorRA6
import Derived.Deep.MidRow
namespace Go.Proofs.YtnpideapdjomgaaDoor
open Go.RowKit

section
variable {w : World} {base size g n n0 c : Nat} {e : TypeId}
theorem ownsRow_setCell {xs : List Value} (h : w.ownsRow base e size (.slice (some ⟨g, 0, none⟩) n0 c) n xs) (k : Nat) (hk : k < n * size) (u : Value) : (w.setCell ⟨g, k, none⟩ u).ownsRow base e size (.slice (some ⟨g, 0, none⟩) n0 c) n (xs.set k u) := by
  refine ⟨by simp [h.1], ?_⟩
  rcases h.2 with ⟨h1, h2⟩ | ⟨g', cap, cur, e1, hb, hg, hle, hmax, hsz, htk⟩
  · cases h1
  · simp only [Value.slice.injEq, Option.some.injEq, Addr.mk.injEq] at e1
    obtain ⟨⟨rfl, -⟩, rfl, rfl⟩ := e1
    refine .inr ⟨g, c, cur.setIfInBounds k u, rfl, hb, ?_, hle, hmax, by simp [hsz], ?_⟩
    · simp [World.setCell, Array.getElem?_modify, hg]
    · rw [Array.toList_setIfInBounds, List.take_set, htk]
theorem ownsRow_setCells : ∀ (zs : List Value) (w : World) (k : Nat) (xs : List Value), w.ownsRow base e size (.slice (some ⟨g, 0, none⟩) n0 c) n xs → k + zs.length ≤ n * size → (w.setCells g k zs).ownsRow base e size (.slice (some ⟨g, 0, none⟩) n0 c) n (xs.take k ++ zs ++ xs.drop (k + zs.length)) := by
  intro zs
  induction zs with
  | nil => intro w k xs h _; simpa [World.setCells] using h
  | cons z zs ih =>
    intro w k xs h hk
    simp only [List.length_cons] at hk
    have h2 := ih (w.setCell ⟨g, k, none⟩ z) (k + 1) _ (ownsRow_setCell h k (by omega) z) (by omega)
    have hkl : k < xs.length := by have := h.1; omega
    have e1 : (xs.set k z).take (k + 1) = xs.take k ++ [z] := by
      rw [List.take_succ_eq_append_getElem (by simpa using hkl), List.take_set_of_le (by omega)]
      simp
    have e2 : (xs.set k z).drop (k + 1 + zs.length) = xs.drop (k + (zs.length + 1)) := by
      rw [List.drop_set_of_lt (by omega)]; congr 1; omega
    rw [e1, e2] at h2
    show ((w.setCell ⟨g, k, none⟩ z).setCells g (k + 1) zs).ownsRow _ _ _ _ _ _
    simpa using h2
theorem setCells_grown (g : Nat) : ∀ (zs : List Value) (w : World) (k : Nat), w.grownBy (w.setCells g k zs) (some g) := by
  intro zs
  induction zs with
  | nil => intro w k; exact World.grownBy.refl w _
  | cons z zs ih =>
    intro w k
    have h := ih (w.setCell ⟨g, k, none⟩ z) (k + 1)
    have hs : (w.setCell ⟨g, k, none⟩ z).heap.size = w.heap.size := by simp [World.setCell]
    refine ⟨h.os, h.tape, h.output, by rw [← hs]; exact h.size, fun b hb hn => ?_⟩
    rw [show w.setCells g k (z :: zs) = (w.setCell ⟨g, k, none⟩ z).setCells g (k + 1) zs from rfl, h.block b (by rw [hs]; exact hb) hn]
    exact Below.heap_setCell w _ z b (by rintro rfl; exact hn rfl)
variable {α : Type} {r : Rep α} {S : Blocks} {l : List α}
/-- An element written over. -/
theorem Own.setAt (h : Own r e w base S (.slice (some ⟨g, 0, none⟩) n c) l) {k : Nat} (hk : k < l.length) {zs : List Value} {x : α} (hz : r.is w S zs x) : Own r e (w.setCells g (k * r.n) zs) base S (.slice (some ⟨g, 0, none⟩) n c) (l.set k x) := by
  obtain ⟨xs, hx, hS, h1, hr⟩ := h
  have hzl := r.size hz
  have hle : k * r.n + r.n ≤ l.length * r.n := by rw [← Nat.succ_mul]; exact Nat.mul_le_mul_right _ hk
  have hxl := hx.1
  have hgr := setCells_grown g zs w (k * r.n)
  have hS2 : Same S w (w.setCells g (k * r.n) zs) := Same.of_grown hgr fun b hb => hS b hb
  have hx2 := ownsRow_setCells zs w (k * r.n) xs hx (by omega)
  refine ⟨_, by rw [List.length_set]; exact hx2, fun b hb => ⟨Nat.lt_of_lt_of_le (hS b hb).1 hgr.size, (hS b hb).2⟩, fun u hu => ?_, fun i hi => ?_⟩
  · simp only [List.mem_append] at hu
    rcases hu with (hu | hu) | hu
    · exact h1 u (List.mem_of_mem_take hu)
    · exact r.one hz u hu
    · exact h1 u (List.mem_of_mem_drop hu)
  · simp only [List.length_set] at hi
    have hile : i * r.n + r.n ≤ l.length * r.n := by rw [← Nat.succ_mul]; exact Nat.mul_le_mul_right _ hi
    rcases Nat.lt_trichotomy i k with hik | rfl | hik
    · have hle2 : i * r.n + r.n ≤ k * r.n := by rw [← Nat.succ_mul]; exact Nat.mul_le_mul_right _ hik
      rw [List.append_assoc, List.drop_append_of_le_length (by rw [List.length_take]; omega), List.take_append_of_le_length (by simp; omega), List.drop_take, List.take_take, Nat.min_eq_left (by omega), List.getElem_set_ne (by omega)]
      exact r.keep (hr i hi) (fun _ h => h) hS2
    · have e1 : (xs.take (i * r.n)).length = i * r.n := by rw [List.length_take]; omega
      rw [List.append_assoc, List.drop_append, e1, Nat.sub_self, List.drop_of_length_le (by omega), List.nil_append, List.drop_zero, List.take_append_of_le_length (by omega), List.take_of_length_le (by omega), List.getElem_set_self]
      exact r.keep hz (fun _ h => h) hS2
    · have hle2 : k * r.n + r.n ≤ i * r.n := by rw [← Nat.succ_mul]; exact Nat.mul_le_mul_right _ hik
      have e1 : (xs.take (k * r.n) ++ zs).length = k * r.n + r.n := by rw [List.length_append, List.length_take, hzl]; omega
      rw [List.drop_append, List.drop_of_length_le (by omega), List.nil_append, e1, List.drop_drop, hzl, show k * r.n + r.n + (i * r.n - (k * r.n + r.n)) = i * r.n by omega, List.getElem_set_ne (by omega)]
      exact r.keep (hr i hi) (fun _ h => h) hS2
theorem below_setCells {B : Nat} {a : World} (h : Below B a w) (hB : B ≤ w.heap.size) (hg : B ≤ g) (zs : List Value) (k : Nat) : Below B a (w.setCells g k zs) :=
  h.grown (setCells_grown g zs w k) hB fun b hb => by simp only [Option.some.injEq] at hb; omega
/-- An element read: its cells. -/
theorem Own.cells (h : Own r e w base S (.slice (some ⟨g, 0, none⟩) n c) l) {k : Nat} (hk : k < l.length) : ∃ cs, CellsAt w g (k * r.n) cs ∧ r.is w (fun b => (base ≤ b ∧ b < w.heap.size ∧ some b = some g) ∨ S b) cs l[k] := by
  obtain ⟨A, c', e1, hs⟩ := h.slice
  simp only [Value.slice.injEq] at e1
  obtain ⟨rfl, rfl, rfl⟩ := e1
  obtain ⟨g', o, cs, e2, hb, hc, hr⟩ := hs.at_ hk
  simp only [Option.some.injEq, Addr.mk.injEq] at e2
  obtain ⟨rfl, rfl, -⟩ := e2
  rw [Nat.zero_add] at hc
  exact ⟨cs, hc, hr⟩
theorem Own.free (h : Own r e w base S (.slice (some ⟨g, 0, none⟩) n c) l) (k : Nat) : w.frozen? ⟨g, k, none⟩ = false := by
  obtain ⟨xs, hx, _⟩ := h
  rcases hx.2 with ⟨h1, _⟩ | ⟨g', cap, cur, e1, hb, hg, _⟩
  · cases h1
  · simp only [Value.slice.injEq, Option.some.injEq, Addr.mk.injEq] at e1
    obtain ⟨⟨rfl, -⟩, -, -⟩ := e1
    simp [World.frozen?, hg]
theorem Own.there (h : Own r e w base S (.slice (some ⟨g, 0, none⟩) n c) l) {k : Nat} (hk : k < l.length) : w.there g (k * r.n) r.n := by
  obtain ⟨xs, hx, _⟩ := h
  rcases hx.2 with ⟨h1, _⟩ | ⟨g', cap, cur, e1, hb, hg, hle, hmax, hsz, htk⟩
  · cases h1
  · simp only [Value.slice.injEq, Option.some.injEq, Addr.mk.injEq] at e1
    obtain ⟨⟨rfl, -⟩, -, -⟩ := e1
    have hle2 : k * r.n + r.n ≤ cap * r.n := by rw [← Nat.succ_mul]; exact Nat.mul_le_mul_right _ (by omega)
    intro j hj
    refine ⟨?_, by simp [World.frozen?, hg]⟩
    rw [cell_of_row w g _ cur e (0, 0) hg, Array.getElem?_eq_getElem (by omega)]
    rfl
section
variable {P : Program}
/-- A store into an element of what is owned. -/
theorem wpList_store_Own {ops : Array Oper} {rest : List Oper} {op : Oper} {a : Act} {Q : Exit → Act → World → Prop} (hgd : op.guard = none) (ty : TypeId) (x y : Operand) (ho : op.op = .store ty x y)
    (h : Own r e w base S (.slice (some ⟨g, 0, none⟩) n c) l) (k : Nat) (hk : k < l.length) (o : Nat) (hx : a.eval x = .pointer (some ⟨g, o, none⟩)) (hok : o = k * r.n) (cells : Array Value) (hy : a.eval y = .agg cells) (z : α) (hz : r.is w S cells.toList z)
    (hi : (P.info? ty).map (·.size) = some r.n) (hK : ∀ w', Own r e w' base S (.slice (some ⟨g, 0, none⟩) n c) (l.set k z) → w.grownBy w' (some g) → wpList P ops Q rest (a.put op.dst undef) w') : wpList P ops Q (op :: rest) a w := by
  subst hok
  have hsz : cells.size = r.n := by simpa using r.size hz
  refine wpList_store_mid hgd ty x y ho g (k * r.n) cells hx hy (by rw [hsz]; exact h.there hk) (by rw [hsz]; exact hi) ?_ (hK _ (h.setAt hk hz) (setCells_grown g _ w _))
  exact Array.all_eq_true_iff_forall_mem.2 fun v hv => r.one hz v (by simpa using hv)
end
end
section
variable {w : World} {base g n c : Nat} {e : TypeId} {α : Type} {r : Rep α} {S : Blocks} {l : List α}
/-- An element of one cell, written over. -/
theorem Own.setCell1 (hn : r.n = 1) (h : Own r e w base S (.slice (some ⟨g, 0, none⟩) n c) l) {k : Nat} (hk : k < l.length) {u : Value} {x : α} (hu : r.is w S [u] x) : Own r e (w.setCell ⟨g, k, none⟩ u) base S (.slice (some ⟨g, 0, none⟩) n c) (l.set k x) := by
  have := h.setAt hk hu
  rw [hn, Nat.mul_one] at this
  exact this
theorem setCell_grown (g : Nat) (w : World) (i : Nat) (u : Value) : w.grownBy (w.setCell ⟨g, i, none⟩ u) (some g) := setCells_grown g [u] w i
/-- The first elements of what is owned: what stands behind is room. -/
theorem Own.first {A : Option Addr} {k : Nat} (h : Own r e w base nob (.slice A n c) l) (hn : l.length = n) (hk : k ≤ n) : Own r e w base nob (.slice A k c) (l.take k) := by
  obtain ⟨xs, hx, hS, h1, hr⟩ := h
  have hlt : (l.take k).length = k := by rw [List.length_take]; omega
  refine ⟨xs.take (k * r.n), ⟨by rw [List.length_take, hlt, hx.1, hn]; exact Nat.min_eq_left (Nat.mul_le_mul_right _ hk), ?_⟩, fun _ h => h.elim, fun u hu => h1 u (List.mem_of_mem_take hu), fun i hi => ?_⟩
  · rcases hx.2 with ⟨h, h0⟩ | ⟨g, cap, cur, h, hb, hg, hle, hmax, hsz, htk⟩
    · simp only [Value.slice.injEq] at h
      obtain ⟨rfl, rfl, rfl⟩ := h
      obtain rfl : k = 0 := by omega
      exact .inl ⟨rfl, by simp⟩
    · simp only [Value.slice.injEq] at h
      obtain ⟨rfl, rfl, rfl⟩ := h
      refine .inr ⟨g, c, cur, by rw [hlt], hb, hg, by omega, hmax, hsz, ?_⟩
      rw [hlt, ← htk, List.take_take]
      congr 1
      rw [hn]
      exact (Nat.min_eq_left (Nat.mul_le_mul_right _ hk)).symm
  · rw [hlt] at hi
    have := hr i (by omega)
    have e : ((xs.take (k * r.n)).drop (i * r.n)).take r.n = (xs.drop (i * r.n)).take r.n := by
      rw [List.drop_take, List.take_take]
      congr 1
      have : i * r.n + r.n ≤ k * r.n := by rw [← Nat.succ_mul]; exact Nat.mul_le_mul_right _ hi
      omega
    rw [e]
    simpa using this
end
section
variable {α : Type}
/-- A row that is filled, element by element. -/
def filling (L : List α) (z : α) (k : Nat) : List α := L.take k ++ List.replicate (L.length - k) z
theorem filling_len (L : List α) (z : α) {k : Nat} (hk : k ≤ L.length) : (filling L z k).length = L.length := by simp [filling]; omega
theorem filling_zero (L : List α) (z : α) : filling L z 0 = List.replicate L.length z := by simp [filling]
theorem filling_all (L : List α) (z : α) : filling L z L.length = L := by simp [filling]
theorem filling_step (L : List α) (z : α) {k : Nat} (hk : k < L.length) : (filling L z k).set k L[k] = filling L z (k + 1) := by
  unfold filling
  have e1 : (L.take k).length = k := by rw [List.length_take]; omega
  rw [List.set_append, if_neg (by omega), e1, Nat.sub_self]
  obtain ⟨m, hm⟩ : ∃ m, L.length - k = m + 1 := ⟨L.length - k - 1, by omega⟩
  rw [hm, List.replicate_succ, List.set_cons_zero, List.take_succ_eq_append_getElem hk, show L.length - (k + 1) = m by omega, List.append_assoc]
  rfl
end
end Go.Proofs.YtnpideapdjomgaaDoor
