/- Texts that lead to the claim, one behind the other: Labels in memory: a map from texts to places. No program in sight. No conditions. -/
import Derived.Maps.RangeWalk
import Derived.Maps.Ext
import Derived.StringKeys
import Derived.Test.YtnpideapdjomgaaDoorRA13
namespace Go.Proofs.YtnpideapdjomgaaDoor
namespace Res
open Go.WideShapes

def numElem : Value → Option (DataW Unit × List MemPlace)
  | .int .i64 v => some (.lit (.int .i64 v), [])
  | _ => none
theorem numElem_inv {v : Value} {n : Int} {ps : List MemPlace} (h : numElem v = some (.lit (.int .i64 n), ps)) : v = .int .i64 n := by
  unfold numElem at h
  split at h
  · simp at h; rw [h.1]
  · cases h
/-- Where a label leads (0: there is none). -/
def labOf (l : List (List UInt8 × Nat)) (k : List UInt8) : Option Nat := (l.find? (·.1 == k)).map (·.2)
theorem labOf_snoc_same {l : List (List UInt8 × Nat)} {k : List UInt8} (v : Nat) (h : labOf l k = none) : labOf (l ++ [(k, v)]) k = some v := by
  unfold labOf at h ⊢
  rw [List.find?_append]
  cases e : l.find? (·.1 == k) with
  | some p => rw [e] at h; cases h
  | none => simp
theorem labOf_snoc_other {l : List (List UInt8 × Nat)} {k k' : List UInt8} (v : Nat) (h : k' ≠ k) : labOf (l ++ [(k, v)]) k' = labOf l k' := by
  unfold labOf
  rw [List.find?_append]
  cases e : l.find? (·.1 == k') with
  | some p => rfl
  | none =>
    have : (k == k') = false := by simpa using fun e : k = k' => h e.symm
    simp [this]
theorem known_labOf (s : St) (t : List UInt8) : s.known t = (labOf s.labels t).isSome := by
  unfold St.known labOf
  rw [Option.isSome_map]
  rw [Bool.eq_iff_iff]
  rw [List.any_eq_true, List.find?_isSome]
theorem find_labOf (s : St) (t : List UInt8) : s.find t = labOf s.labels t := rfl
/-- A map as read that holds labels. -/
structure LabIs (D : DataW Unit) (l : List (List UInt8 × Nat)) : Prop where
  tidy : Maps.Tidy D
  at_ : ∀ k z, D.atKey (.string k) z = match labOf l k with | none => z | some i => .lit (.int .i64 (i : Int))
  size : Maps.size D = l.length
theorem LabIs.empty : LabIs (.map []) [] := ⟨Maps.tidy_empty, fun _ _ => rfl, rfl⟩
theorem labKey (k : List UInt8) : WideAt.IsKeyLit (.string k) := trivial
theorem lab_has {D : DataW Unit} {l : List (List UInt8 × Nat)} (h : LabIs D l) (k : List UInt8) : Maps.has D (.string k) = (labOf l k).isSome := by
  have := h.at_ k
  cases e : labOf l k with
  | none => rw [e] at this; exact Maps.has_false_of_atKey this
  | some i => rw [e] at this; exact Maps.has_true_of_atKey this
theorem LabIs.put {D : DataW Unit} {l : List (List UInt8 × Nat)} (h : LabIs D l) (k : List UInt8) (i : Nat) (hk : labOf l k = none) : LabIs (D.put (.string k) (.lit (.int .i64 (i : Int)))) (l ++ [(k, i)]) := by
  refine ⟨h.tidy.put (labKey k) _, fun k' z => ?_, ?_⟩
  · by_cases e : k' = k
    · subst e
      rw [Maps.atKey_put_same h.tidy.isMap (labKey k'), labOf_snoc_same i hk]
    · rw [Maps.atKey_put_other (fun e' => e (by cases e'; rfl)), h.at_, labOf_snoc_other i e]
  · rw [Maps.size_put h.tidy, lab_has h, hk, h.size]
    simp
/-- Block b is a map that holds the labels l. -/
def Labels (P : Program) (k : TypeId) (w : World) (b n : Nat) (l : List (List UInt8 × Nat)) : Prop := ∃ D, w.ownsMap P k numElem b n D ∧ LabIs D l
section
variable {P : Program} {k t e : TypeId} {w w' : World} {b n : Nat} {l : List (List UInt8 × Nat)}
theorem Labels.lt (h : Labels P k w b n l) : b < w.heap.size := let ⟨_, h, _⟩ := h; h.lt
theorem Labels.same (h : Labels P k w b n l) (hb : w'.heap[b]? = w.heap[b]?) : Labels P k w' b n l := by
  obtain ⟨D, ⟨es, clock, h1, h2⟩, hm⟩ := h
  exact ⟨D, ⟨es, clock, hb.trans h1, h2⟩, hm⟩
theorem Labels.mono (h : Labels P k w b n l) {n' : Nat} (hn : n ≤ n') : Labels P k w b n' l := let ⟨D, h, hm⟩ := h; ⟨D, h.mono hn, hm⟩
theorem Labels.made (w : World) (P : Program) (k : TypeId) : Labels P k (w.alloc (.map #[] 0)) w.heap.size 0 [] := ⟨_, World.ownsMap_made w P k numElem, .empty⟩
/-- What a look finds. -/
def labV (l : List (List UInt8 × Nat)) (k : List UInt8) : Value := .int .i64 ((labOf l k).getD 0 : Nat)
theorem Labels.look_ok (h : Labels P k w b n l) (hk : P.underlying k = some .string) (ht : P.underlying t = some (.map k e)) (hz : (zeroValue e).run P w = .ok (.int .i64 0) w) (s : ByteArray) (hs : s.size ≤ maxLen) :
    (Instr.lookup t (.map (some b)) (.string s) true).run P w = .ok (.tuple #[labV l s.data.toList, .bool (labOf l s.data.toList).isSome]) w := by
  obtain ⟨D, h, hm⟩ := h
  obtain ⟨v, ps, hrun, hv⟩ := h.look_ok (Maps.string_keyed hk) ht hz (zd := .lit (.int .i64 0)) (zp := []) rfl (Go.WideMaps.keyOf_string_mk hk hs)
  rw [hrun, lab_has hm]
  rw [hm.at_] at hv
  unfold labV
  cases e : labOf l s.data.toList with
  | none => rw [e] at hv; rw [numElem_inv hv]; rfl
  | some i => rw [e] at hv; rw [numElem_inv hv]; rfl
theorem Labels.store (h : Labels P k w b n l) (hk : P.underlying k = some .string) (ht : P.underlying t = some (.map k e)) (hn : n < maxLen) (s : ByteArray) (hs : s.size ≤ maxLen) (i : Nat) (hf : labOf l s.data.toList = none) :
    ∃ w', (Instr.mapUpdate t (.map (some b)) (.string s) (.int .i64 (i : Int))).run P w = .ok () w' ∧ Labels P k w' b (n + 1) (l ++ [(s.data.toList, i)]) ∧ w.mapTurned w' b := by
  obtain ⟨D, h, hm⟩ := h
  obtain ⟨w', h1, h2, h3⟩ := h.store (Maps.string_keyed hk) ht hn (Go.WideMaps.keyOf_string_mk hk hs) (show numElem (.int .i64 (i : Int)) = some (_, _) from rfl)
  exact ⟨w', h1, ⟨_, h2, hm.put _ _ hf⟩, h3⟩
end
end Res
end Go.Proofs.YtnpideapdjomgaaDoor
