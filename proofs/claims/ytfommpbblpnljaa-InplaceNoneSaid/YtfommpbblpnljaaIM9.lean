/- Texts that lead to the claim, one behind the other: A folder in memory: a map from names to files, whatever the order it was filled in. No program in sight. No conditions. -/
import Derived.Maps.RangeWalk
import Derived.Maps.Ext
import Derived.StringKeys
import Derived.Test.YtfommpbblpnljaaIM2
namespace Go.Proofs.Ytfommpbblpnljaa
namespace Disk
open Go.WideShapes

/-- How a pointer to a file reads. -/
def ptrElem : Value → Option (DataW Unit × List MemPlace)
  | .pointer (some ⟨b, 0, none⟩) => some (.lit (.int .i64 b), [])
  | .pointer none => some (.nil, [])
  | _ => none
def ref (b : Nat) : DataW Unit := .lit (.int .i64 b)
theorem ptrElem_mk (b : Nat) : ptrElem (.pointer (some ⟨b, 0, none⟩)) = some (ref b, []) := rfl
theorem ptrElem_ref {v : Value} {b : Nat} {ps : List MemPlace} (h : ptrElem v = some (ref b, ps)) : v = .pointer (some ⟨b, 0, none⟩) := by
  unfold ptrElem at h
  split at h
  · rename_i b'
    simp [ref] at h
    obtain ⟨h, -⟩ := h
    have h : b' = b := by omega
    rw [h]
  · simp [ref] at h
  · cases h
theorem ptrElem_nil {v : Value} {ps : List MemPlace} (h : ptrElem v = some (.nil, ps)) : v = .pointer none := by
  unfold ptrElem at h
  split at h
  · simp at h
  · rfl
  · cases h
theorem ptrElem_inv {v : Value} {y : DataW Unit × List MemPlace} (h : ptrElem v = some y) : ∃ p : Option Nat, v = .pointer (p.map fun b => ⟨b, 0, none⟩) := by
  unfold ptrElem at h
  split at h
  · exact ⟨some _, rfl⟩
  · exact ⟨none, rfl⟩
  · cases h

/-- A map as read that holds a folder; file i lies in block 'loc i'. -/
structure MapIs (D : DataW Unit) (l : Fo) (loc : Nat → Nat) : Prop where
  tidy : Maps.Tidy D
  at_ : ∀ k z, D.atKey (.string k) z = match find l k with | none => z | some i => ref (loc i)
  size : Maps.size D = l.length

theorem isKey (k : Nm) : WideAt.IsKeyLit (.string k) := trivial
theorem has_of {D : DataW Unit} {l : Fo} {loc : Nat → Nat} (h : MapIs D l loc) (k : Nm) : Maps.has D (.string k) = (find l k).isSome := by
  have := h.at_ k
  cases e : find l k with
  | none => rw [e] at this; exact Maps.has_false_of_atKey this
  | some i => rw [e] at this; exact Maps.has_true_of_atKey this
theorem str_ne {k k' : Nm} (h : k' ≠ k) : Lit.string k' ≠ Lit.string k := fun e => h (by cases e; rfl)

theorem MapIs.empty (loc : Nat → Nat) : MapIs (.map []) [] loc := ⟨Maps.tidy_empty, fun _ _ => rfl, rfl⟩
theorem MapIs.loc {D : DataW Unit} {l : Fo} {f g : Nat → Nat} (h : MapIs D l f) (hg : ∀ i ∈ ids l, g i = f i) : MapIs D l g := by
  refine ⟨h.tidy, fun k z => ?_, h.size⟩
  rw [h.at_]
  cases e : find l k with
  | none => rfl
  | some i => simp only; rw [hg i (List.mem_map.2 ⟨(k, i), mem_of_find e, rfl⟩)]
theorem MapIs.put {D : DataW Unit} {l : Fo} {loc : Nat → Nat} (h : MapIs D l loc) (hr : Rising l) (k : Nm) (i : Nat) : MapIs (D.put (.string k) (ref (loc i))) (put l k i) loc := by
  refine ⟨h.tidy.put (isKey k) _, fun k' z => ?_, ?_⟩
  · by_cases e : k' = k
    · subst e
      rw [Maps.atKey_put_same h.tidy.isMap (isKey k'), find_put_same hr]
    · rw [Maps.atKey_put_other (str_ne e), h.at_, find_put_other hr i e]
  · rw [Maps.size_put h.tidy, len_put hr, has_of h, h.size]
theorem MapIs.del {D : DataW Unit} {l : Fo} {loc : Nat → Nat} (h : MapIs D l loc) (hr : Rising l) (k : Nm) : MapIs (D.del (.string k)) (drop l k) loc := by
  refine ⟨h.tidy.del _, fun k' z => ?_, ?_⟩
  · by_cases e : k' = k
    · subst e
      rw [Maps.atKey_del_same, find_drop_same]
    · rw [Maps.atKey_del_other (str_ne e), h.at_, find_drop_other l e]
  · have h1 := Maps.size_del (k := .string k) h.tidy
    have h2 := len_drop hr k
    rw [has_of h, h.size] at h1
    omega

/-- Block b is a map that holds the folder l. -/
def Folder (P : Program) (k : TypeId) (w : World) (b n : Nat) (l : Fo) (loc : Nat → Nat) : Prop := ∃ D, w.ownsMap P k ptrElem b n D ∧ MapIs D l loc

section
variable {P : Program} {k t e : TypeId} {w w' : World} {b n : Nat} {l : Fo} {loc : Nat → Nat}
theorem Folder.lt (h : Folder P k w b n l loc) : b < w.heap.size := let ⟨_, h, _⟩ := h; h.lt
theorem Folder.same (h : Folder P k w b n l loc) (hb : w'.heap[b]? = w.heap[b]?) : Folder P k w' b n l loc := by
  obtain ⟨D, ⟨es, clock, h1, h2⟩, hm⟩ := h
  exact ⟨D, ⟨es, clock, hb.trans h1, h2⟩, hm⟩
theorem Folder.mono (h : Folder P k w b n l loc) {n' : Nat} (hn : n ≤ n') : Folder P k w b n' l loc := let ⟨D, h, hm⟩ := h; ⟨D, h.mono hn, hm⟩
theorem Folder.reloc (h : Folder P k w b n l loc) {g : Nat → Nat} (hg : ∀ i ∈ ids l, g i = loc i) : Folder P k w b n l g := let ⟨D, h, hm⟩ := h; ⟨D, h, hm.loc hg⟩
theorem Folder.made (w : World) (P : Program) (k : TypeId) (loc : Nat → Nat) : Folder P k (w.alloc (.map #[] 0)) w.heap.size 0 [] loc := ⟨_, World.ownsMap_made w P k ptrElem, .empty loc⟩
theorem Folder.len (h : Folder P k w b n l loc) : l.length ≤ n := by
  obtain ⟨D, h, hm⟩ := h
  rw [← hm.size]; exact h.size_le

/-- What a look finds. -/
def ptrOf (l : Fo) (loc : Nat → Nat) (k : Nm) : Value := .pointer ((find l k).map fun i => ⟨loc i, 0, none⟩)
theorem Folder.look (h : Folder P k w b n l loc) (hk : P.underlying k = some .string) (ht : P.underlying t = some (.map k e)) (hz : (zeroValue e).run P w = .ok (.pointer none) w) (s : ByteArray) (hs : s.size ≤ maxLen) :
    (Instr.lookup t (.map (some b)) (.string s) false).run P w = .ok (ptrOf l loc s.data.toList) w := by
  obtain ⟨D, h, hm⟩ := h
  obtain ⟨v, ps, hrun, hv⟩ := h.lookup (Maps.string_keyed hk) ht hz (zd := .nil) (zp := []) rfl (Go.WideMaps.keyOf_string_mk hk hs)
  rw [hrun]
  rw [hm.at_] at hv
  unfold ptrOf
  cases e : find l s.data.toList with
  | none => rw [e] at hv; rw [ptrElem_nil hv]; rfl
  | some i => rw [e] at hv; rw [ptrElem_ref hv]; rfl
theorem Folder.look_ok (h : Folder P k w b n l loc) (hk : P.underlying k = some .string) (ht : P.underlying t = some (.map k e)) (hz : (zeroValue e).run P w = .ok (.pointer none) w) (s : ByteArray) (hs : s.size ≤ maxLen) :
    (Instr.lookup t (.map (some b)) (.string s) true).run P w = .ok (.tuple #[ptrOf l loc s.data.toList, .bool (find l s.data.toList).isSome]) w := by
  obtain ⟨D, h, hm⟩ := h
  obtain ⟨v, ps, hrun, hv⟩ := h.look_ok (Maps.string_keyed hk) ht hz (zd := .nil) (zp := []) rfl (Go.WideMaps.keyOf_string_mk hk hs)
  rw [hrun, has_of hm]
  rw [hm.at_] at hv
  unfold ptrOf
  cases e : find l s.data.toList with
  | none => rw [e] at hv; rw [ptrElem_nil hv]; rfl
  | some i => rw [e] at hv; rw [ptrElem_ref hv]; rfl
theorem Folder.lenRun (h : Folder P k w b n l loc) (ht : P.underlying t = some (.map k e)) (ty : TypeId) : (Builtin.len_ #[t] ty #[.map (some b)]).run P w = .ok (.int .i64 l.length) w := by
  obtain ⟨D, h, hm⟩ := h
  rw [h.len ht ty, hm.size]
theorem Folder.store (h : Folder P k w b n l loc) (hr : Rising l) (hk : P.underlying k = some .string) (ht : P.underlying t = some (.map k e)) (hn : n < maxLen) (s : ByteArray) (hs : s.size ≤ maxLen) (i : Nat) :
    ∃ w', (Instr.mapUpdate t (.map (some b)) (.string s) (.pointer (some ⟨loc i, 0, none⟩))).run P w = .ok () w' ∧ Folder P k w' b (n + 1) (put l s.data.toList i) loc ∧ w.mapTurned w' b := by
  obtain ⟨D, h, hm⟩ := h
  obtain ⟨w', h1, h2, h3⟩ := h.store (Maps.string_keyed hk) ht hn (Go.WideMaps.keyOf_string_mk hk hs) (ptrElem_mk (loc i))
  exact ⟨w', h1, ⟨_, h2, hm.put hr _ _⟩, h3⟩
theorem Folder.drop (h : Folder P k w b n l loc) (hr : Rising l) (hk : P.underlying k = some .string) (ht : P.underlying t = some (.map k e)) (s : ByteArray) (hs : s.size ≤ maxLen) (ty : TypeId) :
    ∃ w', (Builtin.delete_ #[t, k] ty #[.map (some b), .string s]).run P w = .ok (.tuple #[]) w' ∧ Folder P k w' b n (drop l s.data.toList) loc ∧ w.mapTurned w' b := by
  obtain ⟨D, h, hm⟩ := h
  obtain ⟨w', h1, h2, h3⟩ := h.drop (Maps.string_keyed hk) ht (Go.WideMaps.keyOf_string_mk hk hs) ty
  exact ⟨w', h1, ⟨_, h2, hm.del hr _⟩, h3⟩
end

end Disk
end Go.Proofs.Ytfommpbblpnljaa
