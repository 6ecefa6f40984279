/- Texts that lead to the claim, one behind the other: A row of the call's own that is cut at its front and grows at its end: how append onto it reads. No program in sight. No conditions. -/
import Derived.Test.YtignnohjggjkoaaNa0
import Derived.Test.YtignnohjggjkoaaNa1
import Derived.Laws.AppendOwn
namespace Go.Proofs.Ytignnohjggjkoaa
open Go.RowKit Go.ChangeShapes Go.WideShapes Go.Deep

/-- A slice in the midst of a block of the call's own: its elements, one cell each. -/
structure MidV (e : TypeId) (w : World) (base g off cap : Nat) (xs : List Value) : Prop where
  hb : base ≤ g
  blk : ∃ cur, w.heap[g]? = some (.cells cur e (0, 0)) ∧ off + cap ≤ cur.size ∧ (cur.toList.drop off).take xs.length = xs
  len : xs.length ≤ cap
  max : cap ≤ maxLen
  one : ∀ u ∈ xs, u.oneCell' = true
section
variable {e : TypeId} {w w' : World} {base g off cap : Nat} {xs : List Value}
theorem MidV.lt (h : MidV e w base g off cap xs) : g < w.heap.size := by
  obtain ⟨cur, hg, -⟩ := h.blk
  exact (Array.getElem?_eq_some_iff.1 hg).1
theorem MidV.only {F : Blocks} (h : MidV e w base g off cap xs) (ho : Only F w w') (hF : ¬ F g) : MidV e w' base g off cap xs := by
  obtain ⟨cur, hg, hc⟩ := h.blk
  exact ⟨h.hb, ⟨cur, (ho.block g h.lt hF).trans hg, hc⟩, h.len, h.max, h.one⟩
theorem MidV.far (h : MidV e w base g off cap xs) (hb : Below w.heap.size w w') : MidV e w' base g off cap xs := h.only (F := nob) (Only.of_below hb _) fun h => h
theorem MidV.cell (h : MidV e w base g off cap xs) {k : Nat} (hk : k < xs.length) : w.cell? ⟨g, off + k, none⟩ = some xs[k] := by
  obtain ⟨cur, hg, hs, ht⟩ := h.blk
  rw [cell_of_row w g (off + k) cur e (0, 0) hg, ← Array.getElem?_toList]
  have : xs[k]? = some xs[k] := List.getElem?_eq_getElem hk
  rw [← this]
  conv => rhs; rw [← ht]
  rw [List.getElem?_take, if_pos hk, List.getElem?_drop]
theorem MidV.new (w : World) (cs : List Value) (hb : base ≤ w.heap.size) (hm : cs.length ≤ maxLen) (h1 : ∀ u ∈ cs, u.oneCell' = true) : MidV e (w.alloc (.cells cs.toArray e)) base w.heap.size 0 cs.length cs :=
  ⟨hb, ⟨cs.toArray, heap_alloc_new w _, by simp, by simp⟩, Nat.le_refl _, hm, h1⟩
theorem MidV.cut (h : MidV e w base g off cap xs) (h2 : 1 ≤ xs.length) : MidV e w base g (off + 1) (cap - 1) xs.tail := by
  obtain ⟨cur, hg, hs, ht⟩ := h.blk
  have hl := h.len
  have hm := h.max
  refine ⟨h.hb, ⟨cur, hg, by omega, ?_⟩, by simp; omega, by omega, fun u hu => h.one u (List.mem_of_mem_tail hu)⟩
  rw [List.length_tail]
  conv => rhs; rw [← ht]
  rw [← List.drop_one, List.drop_take, List.drop_drop]
theorem MidV.ne_own {α : Type} {r : Rep α} {e' : TypeId} {base' : Nat} {v : Value} {l : List α} (h : MidV e w base g off cap xs) (ho : Own r e' w base' nob v l) (hne : e' ≠ e) : v.ownBlock ≠ some g := by
  obtain ⟨cur, hg, -⟩ := h.blk
  exact ho.ne_block hg hne
end
section
variable {P : Program} (w : World)
/-- append of one element onto such a slice. -/
theorem run_append_Mid (t ty e : TypeId) (bytes : Nat) (hT : SliceType P t e 1 bytes) (base g off cap : Nat) (xs : List Value) (h : MidV e w base g off cap xs) (ad : Addr) (c : Nat) (u : Value) (hu : w.cell? ad = some u) (h1 : u.oneCell' = true)
    (hbytes : (xs.length + 1) * bytes ≤ 140737488355328) (hlen : xs.length + 1 ≤ 9223372036854775807) (hbase : base ≤ w.heap.size) :
    ∃ g' off' cap' w', (Builtin.append_ #[t, t] ty #[.slice (some ⟨g, off, none⟩) xs.length cap, .slice (some ad) 1 c]).run P w = .ok (.slice (some ⟨g', off', none⟩) (xs.length + 1) cap') w' ∧ MidV e w' base g' off' cap' (xs ++ [u]) ∧ w.grownBy w' (some g) ∧ (g' = g ∨ g' = w.heap.size) := by
  obtain ⟨ht, ⟨i, z, hi, hz, hsize, hby, hzs⟩, hpos⟩ := hT
  obtain ⟨cur, hg, hs, htk⟩ := h.blk
  have hl := h.len
  have hm := h.max
  have hcl : cur.toList.length = cur.size := Array.length_toList
  have hnews : ∀ j v, [u][j]? = some v → w.cell? (ad.add j) = some v := by
    intro j v hj
    match j, hj with
    | 0, hj =>
      simp only [List.getElem?_cons_zero, Option.some.injEq] at hj
      subst hj
      simpa [Addr.add] using hu
  have ho1 : ∀ v ∈ xs ++ [u], v.oneCell' = true := fun v hv => by
    rcases List.mem_append.1 hv with h' | h'
    · exact h.one v h'
    · rw [List.mem_singleton.1 h']; exact h1
  by_cases hroom : xs.length + 1 ≤ cap
  · have hf := run_firstCells_some (P := P) w i.size 1 ad 1 c [u] (by simp [hsize]) hnews
    rw [hsize] at hf
    have hst := run_storeCells_at P g (off + xs.length) e [u] 0 cur w hg (by simp; omega) (by simpa using h1)
    simp only [Nat.add_zero] at hst
    refine ⟨g, off, cap, w.setRow g (cur.toList.take (off + xs.length) ++ [u] ++ cur.toList.drop (off + xs.length + [u].length)).toArray, ?_, ⟨h.hb, ⟨_, setRow_heap w g cur _ e _ hg, ?_, ?_⟩, by simpa using hroom, hm, ho1⟩, ⟨rfl, rfl, rfl, by simp, fun k _ hk => setRow_other w g k _ (fun e => hk (by rw [e]))⟩, .inl rfl⟩
    · simp [Builtin.append_, run_underlying ht, sizeOf, typeInfo, hi, Builtin.lenOf, hroom, hf, hsize, add_plain, hst]
    · simp only [List.size_toArray, List.length_append, List.length_take, List.length_drop, hcl, List.length_cons, List.length_nil]
      omega
    · have e1 : (cur.toList.take (off + xs.length)).drop off = xs := by
        rw [List.drop_take]
        conv => rhs; rw [← htk]
        congr 1; omega
      have e2 : off ≤ (cur.toList.take (off + xs.length)).length := by simp only [List.length_take, hcl]; omega
      rw [List.append_assoc, List.drop_append_of_le_length e2, e1, ← List.append_assoc]
      exact List.take_left
  · have holds : ∀ j v, xs[j]? = some v → w.cell? ((⟨g, off, none⟩ : Addr).add j) = some v := fun j v hj => by
      obtain ⟨hj', rfl⟩ := List.getElem?_eq_some_iff.1 hj
      rw [add_plain]; exact h.cell hj'
    have hr := run_append_grow (P := P) w t ty e i z ht hi hz ⟨g, off, none⟩ xs.length cap xs (by simp [hsize]) holds ad 1 c [u] (by simp [hsize]) hnews (by omega) (by omega) (growslice_fits (by omega) (by rw [hby]; exact hbytes))
    have hge := grownCap_ge w (xs.length + 1) cap e
    have hcm : grownCap w (xs.length + 1) cap e ≤ maxLen := grownCap_le_maxLen w (xs.length + 1) cap e (by simp only [maxLen]; omega)
    refine ⟨w.heap.size, 0, _, _, hr, ⟨hbase, ⟨_, heap_alloc_new w.drew _, ?_, ?_⟩, by simpa using hge, hcm, ho1⟩, ⟨rfl, rfl, rfl, by simp, fun k hk _ => heap_alloc_old w.drew _ k hk⟩, .inr rfl⟩
    · simp only [Array.size_append, List.size_toArray, size_zeroCells, hzs, List.length_cons, List.length_nil]
      omega
    · simp only [Array.toList_append, List.drop_zero]
      exact List.take_left
theorem wpList_append_Mid {ops : Array Oper} {rest : List Oper} {o : Oper} {a : Act} {Q : Exit → Act → World → Prop} (hgd : o.guard = none) (s x : Operand) (t : TypeId)
    (ho : o.op = .call { callee := .builtin .append, args := #[s, x], argTypes := #[t, t] })
    (e : TypeId) (bytes : Nat) (hT : SliceType P t e 1 bytes) (base g off cap n : Nat) (xs : List Value) (hn : n = xs.length) (h : MidV e w base g off cap xs) (hs : a.eval s = .slice (some ⟨g, off, none⟩) n cap)
    (ad : Addr) (c : Nat) (u : Value) (hx : a.eval x = .slice (some ad) 1 c) (hu : w.cell? ad = some u) (h1 : u.oneCell' = true)
    (hbytes : (n + 1) * bytes ≤ 140737488355328) (hlen : n + 1 ≤ 9223372036854775807) (hbase : base ≤ w.heap.size)
    (hK : ∀ g' off' cap' w', MidV e w' base g' off' cap' (xs ++ [u]) → w.grownBy w' (some g) → (g' = g ∨ g' = w.heap.size) → wpList P ops Q rest (a.put o.dst (.slice (some ⟨g', off', none⟩) (n + 1) cap')) w') : wpList P ops Q (o :: rest) a w := by
  subst hn
  refine wpList_plain hgd fun K hK' => ?_
  obtain ⟨g', off', cap', w', hr, h2, h3, h4⟩ := run_append_Mid w t o.type e bytes hT base g off cap xs h ad c u hu h1 hbytes hlen hbase
  unfold Oper.wp execOp
  simp only [ho, resolve, invoke, builtin, Sem.run_bind, Sem.run_pure, Result.andThen_ok, List.map_toArray, List.map_cons, List.map_nil, hs, hx, hr]
  exact hK' _ _ (hK g' off' cap' w' h2 h3 h4)
end
end Go.Proofs.Ytignnohjggjkoaa
