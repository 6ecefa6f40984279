/- Texts that lead to the claim, one behind the other: Rows of names, side by side in a row that may be cut at its end: how they stay, how one more is laid. No program in sight. No conditions. -/
import Derived.Test.YtignnohjggjkoaaNa45
import Derived.Test.YtignnohjggjkoaaNa35
import Derived.Test.YtignnohjggjkoaaNa34
import Derived.Test.YtignnohjggjkoaaNa43
import Derived.Test.YtignnohjggjkoaaNa23
namespace Go.Proofs.Ytignnohjggjkoaa
open Go.RowKit Go.ChangeShapes Go.WideShapes Go.Deep

theorem MidV.cutTo {e : TypeId} {w : World} {base g off cap : Nat} {xs : List Value} (h : MidV e w base g off cap xs) {n : Nat} (hn : n ≤ xs.length) : MidV e w base g off n (xs.take n) := by
  obtain ⟨cur, hg, hs, ht⟩ := h.blk
  have hl := h.len
  have hm := h.max
  refine ⟨h.hb, ⟨cur, hg, by omega, ?_⟩, by rw [List.length_take]; omega, by omega, fun u hu => h.one u (List.mem_of_mem_take hu)⟩
  rw [List.length_take, Nat.min_eq_left hn]
  have e1 : (cur.toList.drop off).take n = ((cur.toList.drop off).take xs.length).take n := by rw [List.take_take, Nat.min_eq_left hn]
  rw [e1, ht]
section
variable {P : Program} {w : World}
theorem step_append_Mid {ops : Array Oper} {o : Oper} {a : Act} {K : Act → World → Prop} {Q : Exit → Act → World → Prop} {E : Prop} (hgd : o.guard = none) (s x : Operand) (t : TypeId)
    (ho : o.op = .call { callee := .builtin .append, args := #[s, x], argTypes := #[t, t] })
    (e : TypeId) (bytes : Nat) (hT : SliceType P t e 1 bytes) (base g off cap n : Nat) (xs : List Value) (hn : n = xs.length) (h : MidV e w base g off cap xs) (hs : a.eval s = .slice (some ⟨g, off, none⟩) n cap)
    (ad : Addr) (c : Nat) (u : Value) (hx : a.eval x = .slice (some ad) 1 c) (hu : w.cell? ad = some u) (h1 : u.oneCell' = true)
    (hbytes : (n + 1) * bytes ≤ 140737488355328) (hlen : n + 1 ≤ 9223372036854775807) (hbase : base ≤ w.heap.size)
    (hK : ∀ g' off' cap' w', MidV e w' base g' off' cap' (xs ++ [u]) → w.grownBy w' (some g) → (g' = g ∨ g' = w.heap.size) → K (a.put o.dst (.slice (some ⟨g', off', none⟩) (n + 1) cap')) w') :
    if Region.wanted o (yielded ops a.tmps) = true then Oper.wp P o a w K Q else E := by
  have hw : Region.wanted o (yielded ops a.tmps) = true := by simp [Region.wanted, hgd]
  rw [if_pos hw]
  subst hn
  obtain ⟨g', off', cap', w', hr, h2, h3, h4⟩ := run_append_Mid w t o.type e bytes hT base g off cap xs h ad c u hu h1 hbytes hlen hbase
  unfold Oper.wp execOp
  simp only [ho, resolve, invoke, builtin, Sem.run_bind, Sem.run_pure, Result.andThen_ok, List.map_toArray, List.map_cons, List.map_nil, hs, hx, hr]
  exact hK _ _ _ _ h2 h3 h4
end
theorem stNames : SliceType Try.prog 52 43 1 24 := SliceType.mk' (z := .slice none 0 0) Try.underlying52 (by kernel_rfl) rfl (by omega)

theorem Kd.other {w0 w w' : World} {F G : Blocks} {d : Nat} {s : Disk.St} (h : Kd w0 w F d s) (ho : Only G w w') (hG : ∀ b, G b → w0.heap.size ≤ b ∧ ¬ F b) : Kd w0 w' F d s :=
  ⟨h.at_.only ho fun b hb hg => (hG b hg).2 hb, h.below.trans (ho.below h.below.size fun b hb => (hG b hb).1), h.base⟩

/-- Rows of names, outside the disk. -/
structure NamesRow (w : World) (base : Nat) (F : Blocks) (vs : List Value) (R : List (List Disk.Nm)) : Prop where
  len : vs.length = R.length
  own : ∀ (k : Nat) (v : Value) (l : List Disk.Nm), vs[k]? = some v → R[k]? = some l → Own Rep.str 9 w base nob v (l.map ba)
  far : ∀ v ∈ vs, ∀ b, v.ownBlock = some b → b < w.heap.size ∧ ¬ F b
section
variable {w w' : World} {base : Nat} {F F' G : Blocks} {vs : List Value} {R : List (List Disk.Nm)}
theorem NamesRow.at_ (h : NamesRow w base F vs R) {v : Value} (hv : v ∈ vs) : ∃ l : List Disk.Nm, Own Rep.str 9 w base nob v (l.map ba) := by
  obtain ⟨k, hk⟩ := List.getElem?_of_mem hv
  have hl : k < R.length := by rw [← h.len]; exact (List.getElem?_eq_some_iff.1 hk).1
  exact ⟨R[k], h.own k v _ hk (List.getElem?_eq_getElem hl)⟩
theorem NamesRow.keep (h : NamesRow w base F vs R) (ho : Only G w w') (hG : ∀ v ∈ vs, ∀ b, v.ownBlock = some b → ¬ G b) (hF : ∀ b, b < w.heap.size → ¬ F b → ¬ F' b) : NamesRow w' base F' vs R :=
  ⟨h.len, fun k v l hk hl => (h.own k v l hk hl).only ho (hG v (List.mem_of_getElem? hk)), fun v hv b hb => ⟨Nat.lt_of_lt_of_le (h.far v hv b hb).1 ho.size, hF b (h.far v hv b hb).1 (h.far v hv b hb).2⟩⟩
theorem NamesRow.take (h : NamesRow w base F vs R) (n : Nat) : NamesRow w base F (vs.take n) (R.take n) := by
  refine ⟨by rw [List.length_take, List.length_take, h.len], fun k v l hk hl => ?_, fun v hv => h.far v (List.mem_of_mem_take hv)⟩
  rw [List.getElem?_take] at hk hl
  split at hk
  · rename_i hkn
    rw [if_pos hkn] at hl
    exact h.own k v l hk hl
  · cases hk
theorem NamesRow.snoc (h : NamesRow w base F vs R) {v : Value} {l : List Disk.Nm} (hv : Own Rep.str 9 w base nob v (l.map ba)) (hf : ∀ b, v.ownBlock = some b → ¬ F b) : NamesRow w base F (vs ++ [v]) (R ++ [l]) := by
  refine ⟨by simp [h.len], fun k u m hk hm => ?_, fun u hu b hb => ?_⟩
  · rcases Nat.lt_or_ge k vs.length with hl | hl
    · rw [List.getElem?_append_left hl] at hk
      rw [List.getElem?_append_left (by rw [← h.len]; exact hl)] at hm
      exact h.own k u m hk hm
    · rw [List.getElem?_append_right hl] at hk
      rw [List.getElem?_append_right (by rw [← h.len]; exact hl)] at hm
      have h0 : k - vs.length < 1 := by have := (List.getElem?_eq_some_iff.1 hk).1; simpa using this
      have e0 : k - vs.length = 0 := by omega
      rw [e0] at hk
      rw [show k - R.length = 0 by rw [← h.len]; exact e0] at hm
      cases hk; cases hm
      exact hv
  · rcases List.mem_append.1 hu with hu | hu
    · exact h.far u hu b hb
    · rw [List.mem_singleton.1 hu] at hb
      exact ⟨(hv.block_lt hb).2, hf b hb⟩
end
/-- .. in their row. -/
structure RowsAt (w : World) (base : Nat) (F : Blocks) (g off cap : Nat) (vs : List Value) (R : List (List Disk.Nm)) : Prop where
  mid : MidV 43 w base g off cap vs
  free : ¬ F g
  names : NamesRow w base F vs R
section
variable {w w' w3 : World} {base g off cap : Nat} {F : Blocks} {vs : List Value} {R : List (List Disk.Nm)}
/-- A call of the disk. -/
theorem RowsAt.call (h : RowsAt w base F g off cap vs R) (ho : Only F w w') : RowsAt w' base (grow F w w') g off cap vs R :=
  ⟨h.mid.only ho h.free, fun hg => hg.elim h.free fun hg => by have := h.mid.lt; have := hg.1; omega, h.names.keep ho (fun v hv b hb => (h.names.far v hv b hb).2) fun b hb hF hg => hg.elim hF fun hg => by have := hg.1; omega⟩
/-- Nothing old has turned. -/
theorem RowsAt.below (h : RowsAt w base F g off cap vs R) (hb : Below w.heap.size w w') : RowsAt w' base F g off cap vs R :=
  ⟨h.mid.far hb, h.free, h.names.keep (Only.of_below hb nob) (fun _ _ _ _ h => h.elim) fun _ _ h => h⟩
/-- One row more, behind a cut. -/
theorem RowsAt.append {w0 : World} {d : Nat} {s : Disk.St} (h : RowsAt w w0.heap.size F g off cap vs R) (hk : Kd w0 w F d s) {n : Nat} {v : Value} {l : List Disk.Nm} (hn : n ≤ vs.length) (hb : Below w.heap.size w w') (hv : Own Rep.str 9 w' w.heap.size nob v (l.map ba)) (ob : Obj)
    {g' off' cap' : Nat} (hm : MidV 43 w3 w0.heap.size g' off' cap' (vs.take n ++ [v])) (hg : (w'.alloc ob).grownBy w3 (some g)) (hat : g' = g ∨ g' = (w'.alloc ob).heap.size) : RowsAt w3 w0.heap.size F g' off' cap' (vs.take n ++ [v]) (R.take n ++ [l]) ∧ Kd w0 w3 F d s := by
  have hba : Below w.heap.size w (w'.alloc ob) := hb.alloc hb.size ob
  have hba2 : Below w'.heap.size w' (w'.alloc ob) := (Below.refl _ w').alloc (Nat.le_refl _) ob
  have hka := hk.far hba
  have ho : Only (fun b => b = g) (w'.alloc ob) w3 := Only.of_grown hg _ fun b hb => by simpa using hb
  have hrow := (h.below hba)
  have hne : ∀ u ∈ vs.take n ++ [v], ∀ b, u.ownBlock = some b → ¬ b = g := fun u hu b hb e => by
    subst e
    rcases List.mem_append.1 hu with hu | hu
    · obtain ⟨m, hm⟩ := hrow.names.at_ (List.mem_of_mem_take hu)
      exact hrow.mid.ne_own hm (by decide) hb
    · rw [List.mem_singleton.1 hu] at hb
      exact hrow.mid.ne_own (hv.far hba2) (by decide) hb
  have hfree : ∀ b, w.heap.size ≤ b → ¬ F b := fun b hb hF => by have := hk.at_.lt b hF; omega
  have hnm := (hrow.names.take n).snoc ((hv.far hba2).low hk.below.size) (fun b hb => hfree b ((hv.block_lt hb).1))
  refine ⟨⟨hm, fun hF => ?_, hnm.keep ho hne fun _ _ h => h⟩, hka.other ho fun b hb => by subst hb; exact ⟨h.mid.hb, h.free⟩⟩
  rcases hat with rfl | rfl
  · exact h.free hF
  · exact hfree _ (Nat.le_trans hb.size (by simp)) hF
end
end Go.Proofs.Ytignnohjggjkoaa
