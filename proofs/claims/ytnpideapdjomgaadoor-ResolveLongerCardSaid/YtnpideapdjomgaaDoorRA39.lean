/- Texts that lead to the claim, one behind the other: A list of commands written out: the operation that builds it. No conditions. -/
import Derived.Test.YtnpideapdjomgaaDoorRA9
namespace Go.Proofs.YtnpideapdjomgaaDoor
open Go.RowKit Go.ChangeShapes Go.WideShapes Go.Deep

theorem foldl_set_list (off : Nat) : ∀ (l : List Value) (k : Nat) (cells : List Value), off + k + l.length ≤ cells.length →
    (l.zipIdx k).foldl (fun (cs : List Value) (p : Value × Nat) => cs.set (off + p.2) p.1) cells = cells.take (off + k) ++ l ++ cells.drop (off + k + l.length) := by
  intro l
  induction l with
  | nil => intro k cells _; simp
  | cons a l ih =>
    intro k cells h
    simp only [List.length_cons] at h
    rw [List.zipIdx_cons, List.foldl_cons, ih (k + 1) _ (by rw [List.length_set]; omega)]
    apply List.ext_getElem?
    intro i
    have hk : off + k < cells.length := by omega
    rw [List.drop_set_of_lt (by omega)]
    simp only [List.getElem?_append, List.length_append, List.length_take, List.length_set, List.length_cons, List.getElem?_take, List.getElem?_drop, List.getElem?_set]
    have m1 : min (off + (k + 1)) cells.length = off + k + 1 := by omega
    have m2 : min (off + k) cells.length = off + k := by omega
    rw [m1, m2]
    rcases Nat.lt_trichotomy i (off + k) with hi | hi | hi
    · rw [if_pos (by omega), if_pos (by omega), if_pos (by omega), if_neg (by omega), if_pos (by omega), if_pos hi, if_pos hi]
    · subst hi
      rw [if_pos (by omega), if_pos (by omega), if_pos (by omega), if_pos rfl, if_pos hk, if_pos (by omega), if_neg (by omega)]
      simp
    · by_cases h2 : i < off + k + 1 + l.length
      · rw [if_pos h2, if_neg (by omega), if_pos (by omega), if_neg (by omega)]
        rw [show i - (off + k) = (i - (off + k + 1)) + 1 from by omega, List.getElem?_cons_succ]
      · rw [if_neg h2, if_neg (by omega)]
        congr 1; omega
theorem foldl_set_arr (X cells : Array Value) (off : Nat) (h : off + X.size ≤ cells.size) :
    X.zipIdx.foldl (fun cs (p : Value × Nat) => cs.setIfInBounds (off + p.2) p.1) cells = (cells.toList.take off ++ X.toList ++ cells.toList.drop (off + X.size)).toArray := by
  have key : ∀ (ps : List (Value × Nat)) (cs : Array Value), (ps.foldl (fun cs (p : Value × Nat) => cs.setIfInBounds (off + p.2) p.1) cs).toList = ps.foldl (fun (cs : List Value) (p : Value × Nat) => cs.set (off + p.2) p.1) cs.toList := by
    intro ps
    induction ps with
    | nil => intro cs; rfl
    | cons p ps ih => intro cs; rw [List.foldl_cons, List.foldl_cons, ih, Array.toList_setIfInBounds]
  apply Array.ext'
  rw [← Array.foldl_toList, key, Array.toList_zipIdx, foldl_set_list off X.toList 0 cells.toList (by simpa using h)]
  simp
/-- The cells of rows, one behind the other. -/
def flatC (Xs : List (Array Value)) : List Value := (Xs.map Array.toList).flatten
theorem flatC_len (sz : Nat) : ∀ (Xs : List (Array Value)), (∀ X ∈ Xs, X.size = sz) → (flatC Xs).length = Xs.length * sz := by
  intro Xs
  induction Xs with
  | nil => intro _; simp [flatC]
  | cons X Xs ih =>
    intro h
    have := ih fun Y hY => h Y (List.mem_cons_of_mem _ hY)
    unfold flatC at *
    rw [List.map_cons, List.flatten_cons, List.length_append, this, Array.length_toList, h X (by simp), List.length_cons, Nat.succ_mul]; omega
theorem fill_rows (sz : Nat) : ∀ (Xs : List (Array Value)) (k : Nat) (cells : Array Value), (∀ X ∈ Xs, X.size = sz) → cells.size = (k + Xs.length) * sz →
    Instr.fill (fun i => some (i * sz, sz)) cells ((Xs.zipIdx k).map fun p => (p.2, Value.agg p.1)) = some ((cells.toList.take (k * sz) ++ flatC Xs).toArray) := by
  intro Xs
  induction Xs with
  | nil =>
    intro k cells _ h
    simp only [List.length_nil, Nat.add_zero] at h
    simp only [List.zipIdx_nil, List.map_nil, Instr.fill, flatC, List.flatten_nil, List.append_nil, Option.some.injEq]
    rw [List.take_of_length_le (by rw [Array.length_toList]; omega)]
  | cons X Xs ih =>
    intro k cells hX h
    have h0 := hX X (by simp)
    have e : (k + (X :: Xs).length) * sz = k * sz + sz + Xs.length * sz := by rw [List.length_cons, Nat.add_mul, Nat.succ_mul]; omega
    rw [e] at h
    rw [List.zipIdx_cons, List.map_cons, Instr.fill]
    simp only [Value.cells, h0]
    rw [if_neg (by simp; omega)]
    have hf := foldl_set_arr X cells (k * sz) (by omega)
    rw [hf, ih (k + 1) _ (fun Y hY => hX Y (List.mem_cons_of_mem _ hY)) ?_]
    · have hlen : (cells.toList.take (k * sz) ++ X.toList).length = (k + 1) * sz := by
        rw [List.length_append, List.length_take, Array.length_toList, Array.length_toList, h0, Nat.succ_mul]; omega
      rw [← hlen, List.take_left]
      unfold flatC
      rw [List.map_cons, List.flatten_cons, List.append_assoc]
    · simp only [List.size_toArray, List.length_append, List.length_take, List.length_drop, Array.length_toList]
      have e2 : (k + 1 + Xs.length) * sz = k * sz + sz + Xs.length * sz := by rw [Nat.add_mul, Nat.succ_mul]
      omega
theorem run_build_rows {P : Program} (t e : TypeId) (w : World) (Z : Array Value) (sz : Nat) (hu : P.underlying t = some (.slice e)) (hz : (sizeOf e).run P w = .ok sz w) (hzero : (zeroValue e).run P w = .ok (.agg Z) w) (Xs : List (Array Value)) (h : ∀ X ∈ Xs, X.size = sz) (h0 : ¬ Xs.length * sz = 0) (hl : ¬ Xs.length * sz > 2 ^ 24) :
    (Instr.buildSlice t Xs.length (Xs.zipIdx.map fun p => (p.2, Value.agg p.1)).toArray).run P w = .ok (.slice (some ⟨w.heap.size, 0, none⟩) Xs.length Xs.length) (w.alloc (.cells (flatC Xs).toArray e)) := by
  have hf := fill_rows sz Xs 0 ((Array.range (Xs.length * sz)).map (Z[· % Z.size]!)) h (by simp)
  simp only [Nat.zero_mul, List.take_zero, List.nil_append] at hf
  unfold Instr.buildSlice
  rw [Sem.run_bind, run_underlying hu, Result.andThen_ok]
  dsimp only
  rw [Sem.run_bind, hz, Result.andThen_ok]
  rw [if_neg hl, if_neg h0]
  rw [Sem.run_bind, hzero, Result.andThen_ok, Sem.run_bind, Sem.run_pure, Result.andThen_ok]
  simp only [Value.cells]
  rw [hf]
  simp [newRow]
theorem run_build_cms (w : World) (Xs : List (Array Value)) (h : ∀ X ∈ Xs, X.size = 272) (h0 : 0 < Xs.length) (hl : Xs.length ≤ 1000) :
    (Instr.buildSlice 22 Xs.length (Xs.zipIdx.map fun p => (p.2, Value.agg p.1)).toArray).run Tryd.prog w = .ok (.slice (some ⟨w.heap.size, 0, none⟩) Xs.length Xs.length) (w.alloc (.cells (flatC Xs).toArray 44)) := by
  obtain ⟨i0, hi, hz0, hz1, hz2⟩ := info_parts cm_info
  exact run_build_rows _ _ w zcells.toArray 272 Tryd.underlying22 (by simp [sizeOf, typeInfo, hi, hz1]) (cm_zero w) Xs h (by omega) (by omega)
end Go.Proofs.YtnpideapdjomgaaDoor
