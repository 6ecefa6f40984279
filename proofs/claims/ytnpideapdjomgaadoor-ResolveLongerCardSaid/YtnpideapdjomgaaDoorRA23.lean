/- Texts that lead to the claim, one behind the other: Resolve on its way: what lies in memory. No conditions. -/
import Derived.Test.YtnpideapdjomgaaDoorRA12
import Derived.Test.YtnpideapdjomgaaDoorRA14
import Derived.Test.YtnpideapdjomgaaDoorRA13
import Derived.Test.YtnpideapdjomgaaDoorRA22
import Derived.Test.YtnpideapdjomgaaDoorRA9
import Derived.Deep.WholeRow
import Derived.Laws.CopyOwn
namespace Go.Proofs.YtnpideapdjomgaaDoor
open Go.RowKit Go.ChangeShapes Go.WideShapes Go.Deep

def intCells (l : List Int) : Array Value := (l.map fun x => Value.int .i64 x).toArray
theorem intCells_size (l : List Int) : (intCells l).size = l.length := by simp [intCells]
theorem intCells_set (l : List Int) (k : Nat) (v : Int) : (intCells l).setIfInBounds k (.int .i64 v) = intCells (l.set k v) := by
  unfold intCells
  rw [List.setIfInBounds_toArray, List.map_set]
theorem Own.fix {α : Type} {r : Rep α} {e : TypeId} {W W' : World} {base k : Nat} {S : Blocks} {v : Value} {l : List α} (h : Own r e W base S v l) (hS : ∀ b, S b → base ≤ b) (hk : k < base) (hg : W.grownBy W' (some k)) : Own r e W' base S v l := by
  refine h.mono hg ?_ fun b hb => by have := hS b hb; simp; omega
  cases hv : v.ownBlock with
  | none => exact .inl rfl
  | some b =>
    obtain ⟨xs, hx, _⟩ := h
    have := (hx.lt b hv).1
    exact .inr (by simp; omega)
theorem Own.ne {α β : Type} {r : Rep α} {r' : Rep β} {e e' : TypeId} {W : World} {base base' : Nat} {S S' : Blocks} {v v' : Value} {l : List α} {l' : List β} (h : Own r e W base S v l) (h' : Own r' e' W base' S' v' l') (he : e ≠ e') : v.ownBlock = none ∨ v.ownBlock ≠ v'.ownBlock := by
  obtain ⟨xs, ⟨_, hv⟩, _⟩ := h
  obtain ⟨ys, ⟨_, hv'⟩, _⟩ := h'
  rcases hv with ⟨rfl, _⟩ | ⟨g, cap, cur, rfl, _, hg, _⟩
  · exact .inl rfl
  · refine .inr fun hh => ?_
    rcases hv' with ⟨rfl, _⟩ | ⟨g', cap', cur', rfl, _, hg', _⟩
    · simp [Value.ownBlock] at hh
    · simp [Value.ownBlock] at hh
      subst hh
      rw [hg] at hg'
      simp at hg'
      exact he hg'.2
theorem Own.lo {α : Type} {r : Rep α} {e : TypeId} {W : World} {base : Nat} {S : Blocks} {v : Value} {l : List α} (h : Own r e W base S v l) : ∀ k, v.ownBlock = some k → base ≤ k ∧ k < W.heap.size := by
  obtain ⟨xs, hx, _⟩ := h
  exact fun k hk => hx.lt k hk
theorem grown_setCell (W : World) (b k : Nat) (v : Value) : W.grownBy (W.setCell ⟨b, k, none⟩ v) (some b) := by
  refine ⟨rfl, rfl, rfl, ?_, fun j _ hj => ?_⟩
  · unfold World.setCell; simp
  · have hne : j ≠ b := by intro e; exact hj (by rw [e])
    unfold World.setCell
    simp [Array.getElem?_modify, Ne.symm hne]
structure RM (w : World) (A : Option Addr) (n c : Nat) (q : Bool) (W : World) (m : Nat) (cs : List Cm) (st : Res.St) (fs : List ByteArray) (vo vc vf : Value) (S : Blocks) : Prop where
  b : Below w.heap.size w W
  five : w.heap.size + 5 ≤ W.heap.size
  lbox : W.heap[w.heap.size]? = some (.cells #[.slice A n c] 22 (0, 0))
  res : W.heap[w.heap.size + 1]? = some (.cells #[.slice none 0 0, .slice none 0 0, .slice none 0 0, .bool false] 28 (0, 0))
  tob : W.heap[w.heap.size + 2]? = some (.cells (intCells st.«to») 3 (0, 0))
  p : W.heap[w.heap.size + 3]? = some (.cells #[vc, .slice (some ⟨w.heap.size + 2, 0, none⟩) n n, vf, .bool q] 28 (0, 0))
  lab : Res.Labels Tryd.prog 9 W (w.heap.size + 4) m st.labels
  cmds : Own Rep.cm 44 W (w.heap.size + 5) S vc cs
  files : Own Rep.str 9 W (w.heap.size + 5) nob vf fs
  opn : Own (Rep.int .i64) 3 W (w.heap.size + 5) nob vo (st.opn.map fun x : Nat => (x : Int))
  hS : ∀ b, S b → w.heap.size + 5 ≤ b ∧ some b ≠ vo.ownBlock ∧ some b ≠ vf.ownBlock
  fl : fs.map (fun t => t.data.toList) = st.files
  max : n ≤ 9223372036854775807
  tl : st.«to».length = n
  tw : ∀ x ∈ st.«to», -1 ≤ x ∧ x ≤ 33554433
section
variable {w : World} {A : Option Addr} {n c : Nat} {q : Bool} {W W' : World} {m : Nat} {cs : List Cm} {st : Res.St} {fs : List ByteArray} {vo vc vf : Value} {S : Blocks}
theorem RM.far (h : RM w A n c q W m cs st fs vo vc vf S) (hb : Below W.heap.size W W') : RM w A n c q W' m cs st fs vo vc vf S := by
  have h5 := h.five
  exact ⟨h.b.trans (hb.mono h.b.size), Nat.le_trans h5 hb.size, (hb.block _ (by omega)).trans h.lbox, (hb.block _ (by omega)).trans h.res, (hb.block _ (by omega)).trans h.tob, (hb.block _ (by omega)).trans h.p, h.lab.same (hb.block _ (by omega)), h.cmds.far hb, h.files.far hb, h.opn.far hb, h.hS, h.fl, h.max, h.tl, h.tw⟩
theorem RM.hS0 (h : RM w A n c q W m cs st fs vo vc vf S) : ∀ b, S b → w.heap.size + 5 ≤ b := fun b hb => (h.hS b hb).1
/-- One of the five blocks has turned. -/
theorem RM.of_fix (h : RM w A n c q W m cs st fs vo vc vf S) {k : Nat} (hk : k < w.heap.size + 5) (hg : W.grownBy W' (some k)) :
    Own Rep.cm 44 W' (w.heap.size + 5) S vc cs ∧ Own Rep.str 9 W' (w.heap.size + 5) nob vf fs ∧ Own (Rep.int .i64) 3 W' (w.heap.size + 5) nob vo (st.opn.map fun x : Nat => (x : Int)) ∧ (∀ j, j < w.heap.size + 5 → j ≠ k → W'.heap[j]? = W.heap[j]?) ∧ w.heap.size + 5 ≤ W'.heap.size :=
  ⟨h.cmds.fix h.hS0 hk hg, h.files.fix (fun _ h => h.elim) hk hg, h.opn.fix (fun _ h => h.elim) hk hg, fun j hj hne => hg.block j (Nat.lt_of_lt_of_le hj h.five) (by simp; omega), Nat.le_trans h.five hg.size⟩
theorem RM.below_fix (h : RM w A n c q W m cs st fs vo vc vf S) {k : Nat} (hk : w.heap.size ≤ k) (hg : W.grownBy W' (some k)) : Below w.heap.size w W' :=
  h.b.grown hg h.b.size fun j hj => by simp at hj; omega
theorem RM.put (h : RM w A n c q W m cs st fs vo vc vf S) (k : Nat) (v : Int) (hv : -1 ≤ v ∧ v ≤ 33554433) : RM w A n c q (W.setCell ⟨w.heap.size + 2, k, none⟩ (.int .i64 v)) m cs (st.put k v) fs vo vc vf S := by
  have hg := grown_setCell W (w.heap.size + 2) k (.int .i64 v)
  obtain ⟨a, b, d, e, f⟩ := h.of_fix (by omega) hg
  have e2 := setCell_eq_setRow W _ k _ _ _ (.int .i64 v) h.tob
  refine ⟨h.below_fix (by omega) hg, f, (e _ (by omega) (by omega)).trans h.lbox, (e _ (by omega) (by omega)).trans h.res, ?_, (e _ (by omega) (by omega)).trans h.p, h.lab.same (e _ (by omega) (by omega)), a, b, d, h.hS, h.fl, h.max, by simp [Res.St.put, h.tl], fun x hx => by
    rcases List.mem_or_eq_of_mem_set hx with hx | rfl
    · exact h.tw x hx
    · exact hv⟩
  rw [e2, intCells_set]
  exact setRow_heap W _ _ _ _ _ h.tob
theorem RM.grownCmds (h : RM w A n c q W m cs st fs vo vc vf S) {v' : Value} {cs' : List Cm} {S' : Blocks} (ho : Own Rep.cm 44 W' (w.heap.size + 5) S' v' cs') (hg : W.grownBy W' vc.ownBlock) (hS' : ∀ b, S' b → S b ∨ (w.heap.size + 5 ≤ b ∧ some b ≠ vo.ownBlock ∧ some b ≠ vf.ownBlock)) :
    RM w A n c q (W'.setCell ⟨w.heap.size + 3, 0, none⟩ v') m cs' st fs vo v' vf S' := by
  have hlo := h.cmds.lo
  have hk : ∀ j, j < w.heap.size + 5 → W'.heap[j]? = W.heap[j]? := fun j hj => hg.block j (Nat.lt_of_lt_of_le hj h.five) (fun e => by have := (hlo j e.symm).1; omega)
  have hb : Below w.heap.size w W' := h.b.grown hg h.b.size fun j hj => by have := (hlo j hj).1; omega
  have hg2 := grown_setCell W' (w.heap.size + 3) 0 v'
  have hp' : W'.heap[w.heap.size + 3]? = _ := (hk _ (by omega)).trans h.p
  have e2 := setCell_eq_setRow W' _ 0 _ _ _ v' hp'
  have hk2 : ∀ j, j < w.heap.size + 5 → j ≠ w.heap.size + 3 → (W'.setCell ⟨w.heap.size + 3, 0, none⟩ v').heap[j]? = W.heap[j]? := fun j hj hne => (hg2.block j (by have := hg.size; have := h.five; omega) (by simp; omega)).trans (hk j hj)
  have hS2 : ∀ b, S' b → w.heap.size + 5 ≤ b ∧ some b ≠ vo.ownBlock ∧ some b ≠ vf.ownBlock := fun b hb => (hS' b hb).elim (h.hS b) id
  refine ⟨hb.grown hg2 hb.size fun j hj => by simp at hj; omega, Nat.le_trans h.five (Nat.le_trans hg.size hg2.size), (hk2 _ (by omega) (by omega)).trans h.lbox, (hk2 _ (by omega) (by omega)).trans h.res, (hk2 _ (by omega) (by omega)).trans h.tob, ?_, h.lab.same (hk2 _ (by omega) (by omega)), ho.fix (fun b hb => (hS2 b hb).1) (by omega) hg2, ?_, ?_, hS2, h.fl, h.max, h.tl, h.tw⟩
  · rw [e2]; exact setRow_heap W' _ _ _ _ _ hp'
  · exact (h.files.mono hg (h.files.ne h.cmds (by decide)) (fun _ h => h.elim)).fix (fun _ h => h.elim) (by omega) hg2
  · exact (h.opn.mono hg (h.opn.ne h.cmds (by decide)) (fun _ h => h.elim)).fix (fun _ h => h.elim) (by omega) hg2
theorem RM.grownFiles (h : RM w A n c q W m cs st fs vo vc vf S) {v' : Value} {t : ByteArray} (ho : Own Rep.str 9 W' (w.heap.size + 5) nob v' (fs ++ [t])) (hg : W.grownBy W' vf.ownBlock) (hv : v'.ownBlock = vf.ownBlock ∨ v'.ownBlock = some W.heap.size) :
    RM w A n c q (W'.setCell ⟨w.heap.size + 3, 2, none⟩ v') m cs { st with files := st.files ++ [t.data.toList] } (fs ++ [t]) vo vc v' S := by
  have hlo := h.files.lo
  have hk : ∀ j, j < w.heap.size + 5 → W'.heap[j]? = W.heap[j]? := fun j hj => hg.block j (Nat.lt_of_lt_of_le hj h.five) (fun e => by have := (hlo j e.symm).1; omega)
  have hb : Below w.heap.size w W' := h.b.grown hg h.b.size fun j hj => by have := (hlo j hj).1; omega
  have hg2 := grown_setCell W' (w.heap.size + 3) 2 v'
  have hp' : W'.heap[w.heap.size + 3]? = _ := (hk _ (by omega)).trans h.p
  have e2 := setCell_eq_setRow W' _ 2 _ _ _ v' hp'
  have hk2 : ∀ j, j < w.heap.size + 5 → j ≠ w.heap.size + 3 → (W'.setCell ⟨w.heap.size + 3, 2, none⟩ v').heap[j]? = W.heap[j]? := fun j hj hne => (hg2.block j (by have := hg.size; have := h.five; omega) (by simp; omega)).trans (hk j hj)
  have hlt : ∀ b, S b → b < W.heap.size := fun b hb => by obtain ⟨_, _, h3, _⟩ := h.cmds; exact (h3 b hb).1
  refine ⟨hb.grown hg2 hb.size fun j hj => by simp at hj; omega, Nat.le_trans h.five (Nat.le_trans hg.size hg2.size), (hk2 _ (by omega) (by omega)).trans h.lbox, (hk2 _ (by omega) (by omega)).trans h.res, (hk2 _ (by omega) (by omega)).trans h.tob, ?_, h.lab.same (hk2 _ (by omega) (by omega)), ?_, ho.fix (fun _ h => h.elim) (by omega) hg2, ?_, ?_, by simp [h.fl], h.max, h.tl, h.tw⟩
  · rw [e2]; exact setRow_heap W' _ _ _ _ _ hp'
  · exact (h.cmds.mono hg (h.cmds.ne h.files (by decide)) fun b hb => (h.hS b hb).2.2).fix h.hS0 (by omega) hg2
  · exact (h.opn.mono hg (h.opn.ne h.files (by decide)) (fun _ h => h.elim)).fix (fun _ h => h.elim) (by omega) hg2
  · intro b hb
    refine ⟨(h.hS b hb).1, (h.hS b hb).2.1, ?_⟩
    rcases hv with e | e <;> rw [e]
    · exact (h.hS b hb).2.2
    · have := hlt b hb; simp; omega
theorem RM.grownOpn (h : RM w A n c q W m cs st fs vo vc vf S) {v' : Value} {k : Nat} (ho : Own (Rep.int .i64) 3 W' (w.heap.size + 5) nob v' ((st.opn.map fun x : Nat => (x : Int)) ++ [(k : Int)])) (hg : W.grownBy W' vo.ownBlock) (hv : v'.ownBlock = vo.ownBlock ∨ v'.ownBlock = some W.heap.size) :
    RM w A n c q W' m cs { st with opn := st.opn ++ [k] } fs v' vc vf S := by
  have hlo := h.opn.lo
  have hk : ∀ j, j < w.heap.size + 5 → W'.heap[j]? = W.heap[j]? := fun j hj => hg.block j (Nat.lt_of_lt_of_le hj h.five) (fun e => by have := (hlo j e.symm).1; omega)
  have hb : Below w.heap.size w W' := h.b.grown hg h.b.size fun j hj => by have := (hlo j hj).1; omega
  have hlt : ∀ b, S b → b < W.heap.size := fun b hb => by obtain ⟨_, _, h3, _⟩ := h.cmds; exact (h3 b hb).1
  refine ⟨hb, Nat.le_trans h.five hg.size, (hk _ (by omega)).trans h.lbox, (hk _ (by omega)).trans h.res, (hk _ (by omega)).trans h.tob, (hk _ (by omega)).trans h.p, h.lab.same (hk _ (by omega)), ?_, ?_, ?_, ?_, h.fl, h.max, h.tl, h.tw⟩
  · exact h.cmds.mono hg (h.cmds.ne h.opn (by decide)) fun b hb => (h.hS b hb).2.1
  · exact h.files.mono hg (h.files.ne h.opn (by decide)) (fun _ h => h.elim)
  · simpa using ho
  · intro b hb
    refine ⟨(h.hS b hb).1, ?_, (h.hS b hb).2.2⟩
    rcases hv with e | e <;> rw [e]
    · exact (h.hS b hb).2.1
    · have := hlt b hb; simp; omega
theorem Own.cutEnd {α : Type} {r : Rep α} {e : TypeId} {W : World} {base : Nat} {S : Blocks} {Ao : Option Addr} {no co : Nat} {l : List α} (h : Own r e W base S (.slice Ao no co) l) {k : Nat} (hk : k ≤ no) : Own r e W base S (.slice Ao k co) (l.take k) := by
  obtain ⟨xs, ⟨hl, hv⟩, hS, h1, hr⟩ := h
  have hno : no = l.length := by
    rcases hv with ⟨hh, h0⟩ | ⟨g, cap, cur, hh, _⟩
    · cases hh; exact h0.symm
    · cases hh; rfl
  subst hno
  have hob : (Value.slice Ao k co).ownBlock = (Value.slice Ao l.length co).ownBlock := by cases Ao <;> rfl
  refine ⟨xs.take (k * r.n), ⟨?_, ?_⟩, ?_, fun u hu => h1 u (List.mem_of_mem_take hu), fun i hi => ?_⟩
  · rw [List.length_take, List.length_take, hl, Nat.min_eq_left hk]
    exact Nat.min_eq_left (Nat.mul_le_mul_right _ hk)
  · rcases hv with ⟨hh, h0⟩ | ⟨g, cap, cur, hh, hb, hg, hle, hmax, hsz, ht⟩
    · simp only [Value.slice.injEq] at hh
      obtain ⟨rfl, _, rfl⟩ := hh
      have : k = 0 := by omega
      subst this
      exact .inl ⟨rfl, by simp⟩
    · cases hh
      refine .inr ⟨g, co, cur, ?_, hb, hg, ?_, hmax, hsz, ?_⟩
      · rw [List.length_take, Nat.min_eq_left hk]
      · rw [List.length_take, Nat.min_eq_left hk]; omega
      · rw [List.length_take, Nat.min_eq_left hk, ← ht, List.take_take, Nat.min_eq_left (Nat.mul_le_mul_right _ hk)]
  · intro b hb; rw [hob]; exact hS b hb
  · rw [List.length_take] at hi
    have hik : i < k := by omega
    have := hr i (by omega)
    rw [List.getElem_take]
    rw [List.drop_take, List.take_take, Nat.min_eq_left]
    · exact this
    · have : (i + 1) * r.n ≤ k * r.n := Nat.mul_le_mul_right _ hik
      rw [Nat.succ_mul] at this; omega
theorem RM.cutOpn {Ao : Option Addr} {no co : Nat} (h : RM w A n c q W m cs st fs (.slice Ao no co) vc vf S) (_ : no ≠ 0) (hno : no = st.opn.length) : RM w A n c q W m cs { st with opn := st.opn.dropLast } fs (.slice Ao (no - 1) co) vc vf S := by
  have ho := h.opn.cutEnd (k := no - 1) (by omega)
  have e : (st.opn.map fun x : Nat => (x : Int)).take (no - 1) = (st.opn.dropLast.map fun x : Nat => (x : Int)) := by rw [List.dropLast_eq_take, List.map_take, hno]
  rw [e] at ho
  have hob : (Value.slice Ao (no - 1) co).ownBlock = (Value.slice Ao no co).ownBlock := by cases Ao <;> rfl
  exact ⟨h.b, h.five, h.lbox, h.res, h.tob, h.p, h.lab, h.cmds, h.files, ho, by rw [hob]; exact h.hS, h.fl, h.max, h.tl, h.tw⟩
theorem RM.label (h : RM w A n c q W m cs st fs vo vc vf S) {l' : List (List UInt8 × Nat)} (hl : Res.Labels Tryd.prog 9 W' (w.heap.size + 4) (m + 1) l') (ht : W.mapTurned W' (w.heap.size + 4)) : RM w A n c q W' (m + 1) cs { st with labels := l' } fs vo vc vf S := by
  have hg := ht.grown
  obtain ⟨a, b, d, e, f⟩ := h.of_fix (by omega) hg
  exact ⟨h.below_fix (by omega) hg, f, (e _ (by omega) (by omega)).trans h.lbox, (e _ (by omega) (by omega)).trans h.res, (e _ (by omega) (by omega)).trans h.tob, (e _ (by omega) (by omega)).trans h.p, hl, a, b, d, h.hS, h.fl, h.max, h.tl, h.tw⟩
/-- What was gathered, behind the last store. -/
structure ResOk (l : List Cm) (w w' : World) (r : List Int × List (List UInt8)) (A1 : Option Addr) (c1 : Nat) (A3 : Option Addr) (c3 : Nat) (fs : List ByteArray) : Prop where
  cmds : ∃ S1 : Blocks, Own Rep.cm 44 w' (w.heap.size + 5) S1 (.slice A1 l.length c1) l ∧ ∀ b, S1 b → w.heap.size + 5 ≤ b ∧ b < w'.heap.size ∧ some b ≠ (Value.slice A3 fs.length c3).ownBlock
  len : r.1.length = l.length
  tob : w'.heap[w.heap.size + 2]? = some (.cells (intCells r.1) 3 (0, 0))
  tw : ∀ x ∈ r.1, -1 ≤ x ∧ x ≤ 33554433
  files : Own Rep.str 9 w' (w.heap.size + 5) nob (.slice A3 fs.length c3) fs
  fl : fs.map (fun t => t.data.toList) = r.2
theorem ResOk.cmdsAt {l : List Cm} {w w' : World} {r : List Int × List (List UInt8)} {A1 A3 : Option Addr} {c1 c3 : Nat} {fs : List ByteArray} (h : ResOk l w w' r A1 c1 A3 c3 fs) : SliceAt Rep.cm w' (btw (w.heap.size + 5) w'.heap.size) A1 c1 l := by
  obtain ⟨S1, h1, h2⟩ := h.cmds
  obtain ⟨A', c', e, hs⟩ := h1.slice
  simp only [Value.slice.injEq] at e
  obtain ⟨rfl, -, rfl⟩ := e
  exact hs.up fun b hb => by
    rcases hb with hb | hb
    · exact ⟨hb.1, hb.2.1⟩
    · exact ⟨(h2 b hb).1, (h2 b hb).2.1⟩
theorem ResOk.filesAt {l : List Cm} {w w' : World} {r : List Int × List (List UInt8)} {A1 A3 : Option Addr} {c1 c3 : Nat} {fs : List ByteArray} (h : ResOk l w w' r A1 c1 A3 c3 fs) : SliceAt Rep.str w' (btw (w.heap.size + 5) w'.heap.size) A3 c3 fs := by
  obtain ⟨A', n', c', e, -, -, -, hs⟩ := h.files.read
  simp only [Value.slice.injEq] at e
  obtain ⟨rfl, -, rfl⟩ := e
  exact hs
theorem RM.done {l : List Cm} {A1 A3 : Option Addr} {n1 c1 n3 c3 : Nat} (h : RM w A n c q W m l st fs vo (.slice A1 n1 c1) (.slice A3 n3 c3) S) (Y : Array Value) :
    Below w.heap.size w (W.setRow (w.heap.size + 1) Y) ∧ (W.setRow (w.heap.size + 1) Y).heap[w.heap.size + 1]? = some (.cells Y 28 (0, 0)) ∧ n1 = l.length ∧ n3 = fs.length ∧ (n = l.length → ResOk l w (W.setRow (w.heap.size + 1) Y) (st.«to», st.files) A1 c1 A3 c3 fs) := by
  have hsz : (W.setRow (w.heap.size + 1) Y).heap.size = W.heap.size := size_setRow ..
  have h5 := h.five
  have hg : W.grownBy (W.setRow (w.heap.size + 1) Y) (some (w.heap.size + 1)) := ⟨rfl, rfl, rfl, by rw [hsz]; exact Nat.le_refl _, fun j _ hj => setRow_other W _ _ _ (by intro e; exact hj (by rw [e]))⟩
  obtain ⟨a1, a2, -, a4, -⟩ := h.of_fix (by omega) hg
  have e1 : n1 = l.length := by
    obtain ⟨A', c', e, _⟩ := a1.slice
    simp only [Value.slice.injEq] at e
    exact e.2.1
  have e3 : n3 = fs.length := by
    obtain ⟨A', c', e, _⟩ := a2.slice
    simp only [Value.slice.injEq] at e
    exact e.2.1
  subst e1 e3
  have a1b := a1
  obtain ⟨_, _, hSl, _⟩ := a1b
  exact ⟨below_setRow h.b (by omega) _, setRow_heap W _ _ _ _ _ h.res, rfl, rfl, fun hn => ⟨⟨S, a1, fun b hb => ⟨(h.hS b hb).1, (hSl b hb).1, (h.hS b hb).2.2⟩⟩, by rw [← hn]; exact h.tl, (a4 _ (by omega) (by omega)).trans h.tob, h.tw, a2, h.fl⟩⟩
/-- A row of numbers of its own. -/
theorem ints_of {W : World} {g : Nat} {l : List Int} (h : W.heap[g]? = some (.cells (intCells l) 3 (0, 0))) (hw : ∀ x ∈ l, -1 ≤ x ∧ x ≤ 33554433) (hm : l.length ≤ 9223372036854775807) : SliceAt (Rep.int .i64) W (fun b => b = g) (some ⟨g, 0, none⟩) l.length l := by
  refine ⟨Nat.le_refl _, by simp only [maxLen]; omega, by simp, fun i hi => ⟨g, 0, _, rfl, rfl, fun j u hj => ?_, rfl, ?_⟩⟩
  · match j, hj with
    | 0, hj =>
      simp only [List.getElem?_cons_zero, Option.some.injEq] at hj
      subst hj
      rw [cell_of_row W _ _ _ _ (0, 0) h]
      simp [intCells, Rep.int, hi]
  · have := hw _ (List.getElem_mem hi)
    simp [Lit.wf, IntKind.min, IntKind.max, IntKind.signed, IntKind.bits]; omega
end
end Go.Proofs.YtnpideapdjomgaaDoor
