/- Texts that lead to the claim, one behind the other: A folder in memory: a map from names to files, whatever the order it was filled in. No program in sight. No conditions. | Ranging over a folder in memory: the names come in some order, each once. No program in sight. No conditions. | A change comes about in a folder: the walk. Condition: room. | How many bytes a folder's files hold: the walk. Condition: room. -/
import Derived.Maps.RangeWalk
import Derived.Maps.Ext
import Derived.StringKeys
import Derived.Test.YtncpeogkccjmcaaGreatDoorTK1
import Derived.Test.YtncpeogkccjmcaaGreatDoorTK0
import Derived.Test.YtncpeogkccjmcaaGreatDoorTK2
import Derived.Test.YtncpeogkccjmcaaGreatDoorProg
import Derived.WalkKit
import Derived.WalkSpells
import Derived.WalkMore
import Derived.Deep.LoopGhost
namespace Go.Proofs.YtncpeogkccjmcaaGreatDoor
namespace Disk
open Go.WideShapes

/-- How a pointer to a file reads. -/
def ptrElem : Value → Option (DataW Unit × List MemPlace)
  | .pointer (some ⟨b, 0, none⟩) => some (.lit (.int .i64 b), [])
  | .pointer none => some (.nil, [])
  | _ => none
def ref (b : Nat) : DataW Unit := .lit (.int .i64 b)
theorem ptrElem_mk (b : Nat) : ptrElem (.pointer (some ⟨b, 0, none⟩)) = some (ref b, []) := rfl
theorem ptrElem_ref {v : Value} {b : Nat} {ps : List MemPlace} (h : ptrElem v = some (ref b, ps)) : v = .pointer (some ⟨b, 0, none⟩) := by
  unfold ptrElem at h
  split at h
  · rename_i b'
    simp [ref] at h
    obtain ⟨h, -⟩ := h
    have h : b' = b := by omega
    rw [h]
  · simp [ref] at h
  · cases h
theorem ptrElem_nil {v : Value} {ps : List MemPlace} (h : ptrElem v = some (.nil, ps)) : v = .pointer none := by
  unfold ptrElem at h
  split at h
  · simp at h
  · rfl
  · cases h
theorem ptrElem_inv {v : Value} {y : DataW Unit × List MemPlace} (h : ptrElem v = some y) : ∃ p : Option Nat, v = .pointer (p.map fun b => ⟨b, 0, none⟩) := by
  unfold ptrElem at h
  split at h
  · exact ⟨some _, rfl⟩
  · exact ⟨none, rfl⟩
  · cases h

/-- A map as read that holds a folder; file i lies in block 'loc i'. -/
structure MapIs (D : DataW Unit) (l : Fo) (loc : Nat → Nat) : Prop where
  tidy : Maps.Tidy D
  at_ : ∀ k z, D.atKey (.string k) z = match find l k with | none => z | some i => ref (loc i)
  size : Maps.size D = l.length

theorem isKey (k : Nm) : WideAt.IsKeyLit (.string k) := trivial
theorem has_of {D : DataW Unit} {l : Fo} {loc : Nat → Nat} (h : MapIs D l loc) (k : Nm) : Maps.has D (.string k) = (find l k).isSome := by
  have := h.at_ k
  cases e : find l k with
  | none => rw [e] at this; exact Maps.has_false_of_atKey this
  | some i => rw [e] at this; exact Maps.has_true_of_atKey this
theorem str_ne {k k' : Nm} (h : k' ≠ k) : Lit.string k' ≠ Lit.string k := fun e => h (by cases e; rfl)

theorem MapIs.empty (loc : Nat → Nat) : MapIs (.map []) [] loc := ⟨Maps.tidy_empty, fun _ _ => rfl, rfl⟩
theorem MapIs.loc {D : DataW Unit} {l : Fo} {f g : Nat → Nat} (h : MapIs D l f) (hg : ∀ i ∈ ids l, g i = f i) : MapIs D l g := by
  refine ⟨h.tidy, fun k z => ?_, h.size⟩
  rw [h.at_]
  cases e : find l k with
  | none => rfl
  | some i => simp only; rw [hg i (List.mem_map.2 ⟨(k, i), mem_of_find e, rfl⟩)]
theorem MapIs.put {D : DataW Unit} {l : Fo} {loc : Nat → Nat} (h : MapIs D l loc) (hr : Rising l) (k : Nm) (i : Nat) : MapIs (D.put (.string k) (ref (loc i))) (put l k i) loc := by
  refine ⟨h.tidy.put (isKey k) _, fun k' z => ?_, ?_⟩
  · by_cases e : k' = k
    · subst e
      rw [Maps.atKey_put_same h.tidy.isMap (isKey k'), find_put_same hr]
    · rw [Maps.atKey_put_other (str_ne e), h.at_, find_put_other hr i e]
  · rw [Maps.size_put h.tidy, len_put hr, has_of h, h.size]
theorem MapIs.del {D : DataW Unit} {l : Fo} {loc : Nat → Nat} (h : MapIs D l loc) (hr : Rising l) (k : Nm) : MapIs (D.del (.string k)) (drop l k) loc := by
  refine ⟨h.tidy.del _, fun k' z => ?_, ?_⟩
  · by_cases e : k' = k
    · subst e
      rw [Maps.atKey_del_same, find_drop_same]
    · rw [Maps.atKey_del_other (str_ne e), h.at_, find_drop_other l e]
  · have h1 := Maps.size_del (k := .string k) h.tidy
    have h2 := len_drop hr k
    rw [has_of h, h.size] at h1
    omega

/-- Block b is a map that holds the folder l. -/
def Folder (P : Program) (k : TypeId) (w : World) (b n : Nat) (l : Fo) (loc : Nat → Nat) : Prop := ∃ D, w.ownsMap P k ptrElem b n D ∧ MapIs D l loc

section
variable {P : Program} {k t e : TypeId} {w w' : World} {b n : Nat} {l : Fo} {loc : Nat → Nat}
theorem Folder.lt (h : Folder P k w b n l loc) : b < w.heap.size := let ⟨_, h, _⟩ := h; h.lt
theorem Folder.same (h : Folder P k w b n l loc) (hb : w'.heap[b]? = w.heap[b]?) : Folder P k w' b n l loc := by
  obtain ⟨D, ⟨es, clock, h1, h2⟩, hm⟩ := h
  exact ⟨D, ⟨es, clock, hb.trans h1, h2⟩, hm⟩
theorem Folder.mono (h : Folder P k w b n l loc) {n' : Nat} (hn : n ≤ n') : Folder P k w b n' l loc := let ⟨D, h, hm⟩ := h; ⟨D, h.mono hn, hm⟩
theorem Folder.reloc (h : Folder P k w b n l loc) {g : Nat → Nat} (hg : ∀ i ∈ ids l, g i = loc i) : Folder P k w b n l g := let ⟨D, h, hm⟩ := h; ⟨D, h, hm.loc hg⟩
theorem Folder.made (w : World) (P : Program) (k : TypeId) (loc : Nat → Nat) : Folder P k (w.alloc (.map #[] 0)) w.heap.size 0 [] loc := ⟨_, World.ownsMap_made w P k ptrElem, .empty loc⟩
theorem Folder.len (h : Folder P k w b n l loc) : l.length ≤ n := by
  obtain ⟨D, h, hm⟩ := h
  rw [← hm.size]; exact h.size_le

/-- What a look finds. -/
def ptrOf (l : Fo) (loc : Nat → Nat) (k : Nm) : Value := .pointer ((find l k).map fun i => ⟨loc i, 0, none⟩)
theorem Folder.look (h : Folder P k w b n l loc) (hk : P.underlying k = some .string) (ht : P.underlying t = some (.map k e)) (hz : (zeroValue e).run P w = .ok (.pointer none) w) (s : ByteArray) (hs : s.size ≤ maxLen) :
    (Instr.lookup t (.map (some b)) (.string s) false).run P w = .ok (ptrOf l loc s.data.toList) w := by
  obtain ⟨D, h, hm⟩ := h
  obtain ⟨v, ps, hrun, hv⟩ := h.lookup (Maps.string_keyed hk) ht hz (zd := .nil) (zp := []) rfl (Go.WideMaps.keyOf_string_mk hk hs)
  rw [hrun]
  rw [hm.at_] at hv
  unfold ptrOf
  cases e : find l s.data.toList with
  | none => rw [e] at hv; rw [ptrElem_nil hv]; rfl
  | some i => rw [e] at hv; rw [ptrElem_ref hv]; rfl
theorem Folder.look_ok (h : Folder P k w b n l loc) (hk : P.underlying k = some .string) (ht : P.underlying t = some (.map k e)) (hz : (zeroValue e).run P w = .ok (.pointer none) w) (s : ByteArray) (hs : s.size ≤ maxLen) :
    (Instr.lookup t (.map (some b)) (.string s) true).run P w = .ok (.tuple #[ptrOf l loc s.data.toList, .bool (find l s.data.toList).isSome]) w := by
  obtain ⟨D, h, hm⟩ := h
  obtain ⟨v, ps, hrun, hv⟩ := h.look_ok (Maps.string_keyed hk) ht hz (zd := .nil) (zp := []) rfl (Go.WideMaps.keyOf_string_mk hk hs)
  rw [hrun, has_of hm]
  rw [hm.at_] at hv
  unfold ptrOf
  cases e : find l s.data.toList with
  | none => rw [e] at hv; rw [ptrElem_nil hv]; rfl
  | some i => rw [e] at hv; rw [ptrElem_ref hv]; rfl
theorem Folder.lenRun (h : Folder P k w b n l loc) (ht : P.underlying t = some (.map k e)) (ty : TypeId) : (Builtin.len_ #[t] ty #[.map (some b)]).run P w = .ok (.int .i64 l.length) w := by
  obtain ⟨D, h, hm⟩ := h
  rw [h.len ht ty, hm.size]
theorem Folder.store (h : Folder P k w b n l loc) (hr : Rising l) (hk : P.underlying k = some .string) (ht : P.underlying t = some (.map k e)) (hn : n < maxLen) (s : ByteArray) (hs : s.size ≤ maxLen) (i : Nat) :
    ∃ w', (Instr.mapUpdate t (.map (some b)) (.string s) (.pointer (some ⟨loc i, 0, none⟩))).run P w = .ok () w' ∧ Folder P k w' b (n + 1) (put l s.data.toList i) loc ∧ w.mapTurned w' b := by
  obtain ⟨D, h, hm⟩ := h
  obtain ⟨w', h1, h2, h3⟩ := h.store (Maps.string_keyed hk) ht hn (Go.WideMaps.keyOf_string_mk hk hs) (ptrElem_mk (loc i))
  exact ⟨w', h1, ⟨_, h2, hm.put hr _ _⟩, h3⟩
theorem Folder.drop (h : Folder P k w b n l loc) (hr : Rising l) (hk : P.underlying k = some .string) (ht : P.underlying t = some (.map k e)) (s : ByteArray) (hs : s.size ≤ maxLen) (ty : TypeId) :
    ∃ w', (Builtin.delete_ #[t, k] ty #[.map (some b), .string s]).run P w = .ok (.tuple #[]) w' ∧ Folder P k w' b n (drop l s.data.toList) loc ∧ w.mapTurned w' b := by
  obtain ⟨D, h, hm⟩ := h
  obtain ⟨w', h1, h2, h3⟩ := h.drop (Maps.string_keyed hk) ht (Go.WideMaps.keyOf_string_mk hk hs) ty
  exact ⟨w', h1, ⟨_, h2, hm.del hr _⟩, h3⟩
end

end Disk
end Go.Proofs.YtncpeogkccjmcaaGreatDoor
namespace Go.Proofs.YtncpeogkccjmcaaGreatDoor
namespace Disk
open Go.WideShapes

/-- 'for k, f := range m' under way: the names that have come. -/
def Going (P : Program) (k : TypeId) (w : World) (b r n : Nat) (l : Fo) (loc : Nat → Nat) (seen : List Nm) (cnt : Nat) : Prop :=
  ∃ D left, w.ranges P k ptrElem b r n D left cnt ∧ MapIs D l loc ∧ (∀ k, left (.string k) = true ↔ (k ∈ keys l ∧ k ∉ seen)) ∧ seen.Nodup ∧ (∀ k ∈ seen, k ∈ keys l) ∧ cnt + seen.length ≤ l.length

section
variable {P : Program} {k t e : TypeId} {w w' : World} {b r n cnt : Nat} {l : Fo} {loc : Nat → Nat} {seen : List Nm}
theorem Going.folder (h : Going P k w b r n l loc seen cnt) : Folder P k w b n l loc := by
  obtain ⟨D, left, h1, h2, _⟩ := h
  exact ⟨D, h1.owns, h2⟩
theorem Going.nodup (h : Going P k w b r n l loc seen cnt) : seen.Nodup := let ⟨_, _, _, _, _, h, _⟩ := h; h
theorem Going.mem (h : Going P k w b r n l loc seen cnt) : ∀ k ∈ seen, k ∈ keys l := let ⟨_, _, _, _, _, _, h, _⟩ := h; h
theorem Going.count (h : Going P k w b r n l loc seen cnt) : cnt + seen.length ≤ l.length := let ⟨_, _, _, _, _, _, _, h⟩ := h; h
theorem Going.left_eq (h : Going P k w b r n l loc seen cnt) : w.rangeLeft b r = cnt := let ⟨_, _, h, _⟩ := h; h.left_eq
theorem Going.ne (h : Going P k w b r n l loc seen cnt) : r ≠ b := let ⟨_, _, h, _⟩ := h; h.ne
theorem Going.lt (h : Going P k w b r n l loc seen cnt) : r < w.heap.size := let ⟨_, _, h, _⟩ := h; h.lt
theorem Going.same (h : Going P k w b r n l loc seen cnt) (hb : w'.heap[b]? = w.heap[b]?) (hr : w'.heap[r]? = w.heap[r]?) : Going P k w' b r n l loc seen cnt := by
  obtain ⟨D, left, h1, h2⟩ := h
  obtain ⟨es, clock, since, sn, c0, a1, a2, a3, a4, a5, a6⟩ := h1
  exact ⟨D, left, ⟨es, clock, since, sn, c0, hb.trans a1, a2, a3, a4, hr.trans a5, a6⟩, h2⟩

/-- All have come: in some order. -/
theorem perm_keys {l : Fo} (hr : Rising l) {seen : List Nm} (hn : seen.Nodup) (hm : ∀ k ∈ seen, k ∈ keys l) (ha : ∀ k ∈ keys l, k ∈ seen) : seen.Perm (keys l) := by
  have hnd : (keys l).Nodup := by
    unfold keys List.Nodup
    rw [List.pairwise_map]
    exact hr.imp fun hab e => by rw [e] at hab; exact lt_irrefl _ hab
  rw [List.perm_ext_iff_of_nodup hn hnd]
  exact fun k => ⟨hm k, ha k⟩

theorem wpList_range_folder {ops : Array Oper} {rest : List Oper} {o : Oper} {a : Act} {Q : Exit → Act → World → Prop}
    (hg : o.guard = none) (m : Operand) (t : TypeId) (hop : o.op = Op.range t m) (k e : TypeId) (hk : P.underlying k = some .string) (ht : P.underlying t = some (.map k e)) (b n : Nat) (l : Fo) (loc : Nat → Nat)
    (hm : a.eval m = .map (some b)) (h : Folder P k w b n l loc)
    (hK : ∀ w', Going P k w' b w.heap.size n l loc [] l.length → w.grownBy w' none → w'.heap.size = w.heap.size + 1 → wpList P ops Q rest (a.put o.dst (.pointer (some ⟨w.heap.size, 0, none⟩))) w') :
    wpList P ops Q (o :: rest) a w := by
  obtain ⟨D, h, hD⟩ := h
  refine wpList_range_own w hg m t hop k e (Maps.string_keyed hk) ht ptrElem b n D hm h fun w' h1 h2 h3 => ?_
  rw [hD.size] at h1
  refine hK w' ⟨D, _, h1, hD, fun k => ?_, List.nodup_nil, by simp, Nat.le_refl _⟩ h2 h3
  rw [has_of hD, mem_keys]
  simp

theorem wpList_next_folder {ops : Array Oper} {rest : List Oper} {o : Oper} {a : Act} {Q : Exit → Act → World → Prop}
    (hg : o.guard = none) (it : Operand) (hop : o.op = Op.next it false) (k : TypeId) (hk : P.underlying k = some .string) (b r n : Nat) (l : Fo) (loc : Nat → Nat) (seen : List Nm) (cnt : Nat)
    (hit : a.eval it = .pointer (some ⟨r, 0, none⟩)) (h : Going P k w b r n l loc seen cnt)
    (hDone : cnt = 0 → (∀ k ∈ keys l, k ∈ seen) → wpList P ops Q rest (a.put o.dst (.tuple #[.bool false])) w)
    (hMore : ∀ (s : ByteArray) (i : Nat) (w' : World) (cnt' : Nat), s.size ≤ maxLen → find l s.data.toList = some i → s.data.toList ∉ seen → Going P k w' b r n l loc (seen ++ [s.data.toList]) cnt' → cnt' < cnt →
      w.grownBy w' (some r) → w'.heap.size = w.heap.size → (Instr.entry (.pointer (some ⟨r, 0, none⟩))).run P w' = .ok (.tuple #[.string s, .pointer (some ⟨loc i, 0, none⟩)]) w' → wpList P ops Q rest (a.put o.dst (.tuple #[.bool true, .string s, .pointer (some ⟨loc i, 0, none⟩)])) w') :
    wpList P ops Q (o :: rest) a w := by
  obtain ⟨D, left, h1, hD, hl, hn, hmem, hc⟩ := h
  refine wpList_next_ranges w hg it hop k (Maps.string_keyed hk) ptrElem Value.string (fun p : Option Nat => .pointer (p.map fun b => ⟨b, 0, none⟩))
    (fun key kl hkey => by obtain ⟨s, rfl, _⟩ := WideMaps.string_of_keyOf hk hkey; exact ⟨s, rfl⟩) (fun v y hv => ptrElem_inv hv) b r n D left cnt hit h1
    (fun h0 hf => hDone h0 fun k hk' => ?_) (fun s p kl y w' cnt' hkey hlk hv hat hrg hlt hgr hsz hen => ?_)
  · rcases Decidable.em (k ∈ seen) with h | h
    · exact h
    · have := (hl k).2 ⟨hk', h⟩
      rw [hf] at this
      cases this
  · obtain ⟨s', e1, rfl, hs⟩ := WideMaps.string_of_keyOf hk hkey
    cases e1
    obtain ⟨hin, hns⟩ := (hl _).1 hlk
    have hfs := mem_keys.1 hin
    cases hf : find l s.data.toList with
    | none => rw [hf] at hfs; cases hfs
    | some i =>
      have h2 := hat .nil
      rw [hD.at_, hf] at h2
      have hp := ptrElem_ref (v := .pointer (p.map fun b => ⟨b, 0, none⟩)) (b := loc i) (ps := y.2) (by rw [hv]; exact congrArg some (Prod.ext h2.symm rfl))
      rw [hp] at hen ⊢
      refine hMore s i w' cnt' hs hf hns ⟨D, _, hrg, hD, fun k' => ?_, ?_, ?_, ?_⟩ hlt hgr hsz hen
      · rw [Bool.and_eq_true, hl k', List.mem_append]
        constructor
        · rintro ⟨⟨a1, a2⟩, a3⟩
          refine ⟨a1, fun hm => ?_⟩
          rcases hm with hm | hm
          · exact a2 hm
          · rw [List.mem_singleton.1 hm, WideAt.sameKey_self (isKey _)] at a3
            cases a3
        · rintro ⟨a1, a2⟩
          refine ⟨⟨a1, fun hm => a2 (.inl hm)⟩, ?_⟩
          have : k' ≠ s.data.toList := fun e => a2 (.inr (by rw [e]; exact List.mem_singleton.2 rfl))
          rw [Maps.sameKey_ne (str_ne this)]
          rfl
      · rw [List.nodup_append]
        refine ⟨hn, by simp, fun x hx y hy e => ?_⟩
        rw [List.mem_singleton.1 hy] at e
        exact hns (e ▸ hx)
      · intro k' hk'
        rcases List.mem_append.1 hk' with h | h
        · exact hmem k' h
        · rw [List.mem_singleton.1 h]; exact hin
      · simp only [List.length_append, List.length_cons, List.length_nil]
        omega

/-- 'm[k] = f', 'delete(m, k)' at the operation. -/
theorem wpList_put_folder {ops : Array Oper} {rest : List Oper} {o : Oper} {a : Act} {Q : Exit → Act → World → Prop}
    (hg : o.guard = none) (m x v : Operand) (t : TypeId) (hop : o.op = Op.mapUpdate t m x v) (k e : TypeId) (hk : P.underlying k = some .string) (ht : P.underlying t = some (.map k e)) (b n : Nat) (l : Fo) (hr : Rising l) (loc : Nat → Nat)
    (hm : a.eval m = .map (some b)) (h : Folder P k w b n l loc) (hn : n < maxLen) (s : ByteArray) (hs : s.size ≤ maxLen) (i : Nat) (hx : a.eval x = .string s) (hv : a.eval v = .pointer (some ⟨loc i, 0, none⟩))
    (hK : ∀ w', Folder P k w' b (n + 1) (put l s.data.toList i) loc → w.mapTurned w' b → wpList P ops Q rest (a.put o.dst undef) w') : wpList P ops Q (o :: rest) a w := by
  refine wpList_plain hg fun K' hK' => ?_
  obtain ⟨w', hrun, r1, r2⟩ := h.store hr hk ht hn s hs i
  unfold Oper.wp
  simp [execOp, hop, hm, hx, hv, hrun, Result.andThen]
  exact hK' _ _ (hK w' r1 r2)
theorem wpList_del_folder {ops : Array Oper} {rest : List Oper} {o : Oper} {a : Act} {Q : Exit → Act → World → Prop}
    (hg : o.guard = none) (m x : Operand) (t k : TypeId) (hop : o.op = Op.call { callee := Callee.builtin Builtin.delete, args := #[m, x], argTypes := #[t, k] }) (e : TypeId) (hk : P.underlying k = some .string) (ht : P.underlying t = some (.map k e)) (b n : Nat) (l : Fo) (hr : Rising l) (loc : Nat → Nat)
    (hm : a.eval m = .map (some b)) (h : Folder P k w b n l loc) (s : ByteArray) (hs : s.size ≤ maxLen) (hx : a.eval x = .string s)
    (hK : ∀ w', Folder P k w' b n (drop l s.data.toList) loc → w.mapTurned w' b → wpList P ops Q rest (a.put o.dst (.tuple #[])) w') : wpList P ops Q (o :: rest) a w := by
  refine wpList_plain hg fun K' hK' => ?_
  obtain ⟨w', hrun, r1, r2⟩ := h.drop hr hk ht s hs o.type
  unfold Oper.wp
  simp [execOp, hop, resolve, invoke, builtin, hm, hx, hrun, Result.andThen]
  exact hK' _ _ (hK w' r1 r2)
end

/-- A copy under way: those names that have come. -/
def Part (l m : Fo) (seen : List Nm) : Prop := Rising m ∧ ∀ k, find m k = if k ∈ seen then find l k else none
theorem Part.start (l : Fo) : Part l [] [] := ⟨List.Pairwise.nil, fun k => by simp [find]⟩
theorem Part.step {l m : Fo} {seen : List Nm} (h : Part l m seen) {k : Nm} {i : Nat} (hi : find l k = some i) : Part l (put m k i) (seen ++ [k]) := by
  refine ⟨h.1.put k i, fun k' => ?_⟩
  by_cases e : k' = k
  · subst e
    rw [find_put_same h.1, if_pos (by simp), hi]
  · rw [find_put_other h.1 i e, h.2 k']
    have : (k' ∈ seen ++ [k]) ↔ k' ∈ seen := by simp [e]
    simp only [this]
theorem Part.end_ {l m : Fo} {seen : List Nm} (h : Part l m seen) (hl : Rising l) (ha : ∀ k ∈ keys l, k ∈ seen) : m = l := by
  refine find_ext h.1 hl fun k => ?_
  rw [h.2 k]
  split
  · rfl
  · rename_i hk
    cases e : find l k with
    | none => rfl
    | some i => exact absurd (ha k (mem_keys.2 (by rw [e]; rfl))) hk

/-- Summing over the names in whatever order. -/
def sizeAt (s : St) (l : Fo) (k : Nm) : Nat := ((find l k).bind fun i => s.all[i]?.map (·.bytes.length)).getD 0
theorem sum_size {s : St} {l : Fo} (hr : Rising l) {seen : List Nm} (hn : seen.Nodup) (hm : ∀ k ∈ seen, k ∈ keys l) (ha : ∀ k ∈ keys l, k ∈ seen) : (seen.map (sizeAt s l)).sum = s.size l := by
  rw [((perm_keys hr hn hm ha).map (sizeAt s l)).sum_nat]
  unfold St.size keys
  rw [List.map_map]
  congr 1
  refine List.map_congr_left fun p hp => ?_
  show sizeAt s l p.1 = _
  unfold sizeAt
  rw [find_of_mem hr (k := p.1) (i := p.2) hp]
  rfl

end Disk
end Go.Proofs.YtncpeogkccjmcaaGreatDoor
namespace Go.Proofs.YtncpeogkccjmcaaGreatDoor
open Go.RowKit Go.ChangeShapes Go.WideShapes Go.Deep

abbrev Fol := Disk.Folder Tryz.prog 9
theorem only_turned {w w' : World} {b : Nat} (h : w.mapTurned w' b) : Only (fun x => x = b) w w' := Only.of_grown h.grown _ fun x hx => by simpa using hx
theorem only_turnedA {w w1 w' : World} {b : Nat} (h0 : Below w.heap.size w w1) (h : w1.mapTurned w' b) : Only (fun x => x = b) w w' := (Only.of_below h0 _).trans (only_turned h) fun _ h => .inl h
theorem after_turn {w w2 : World} {b : Nat} {cs : Array Value} {e : TypeId} (h : (w.alloc (.cells cs e)).mapTurned w2 b) (hb : b < w.heap.size) {i : Nat} {v : Value} (hv : cs[i]? = some v) : w2.cell? ⟨w.heap.size, i, none⟩ = some v :=
  (World.cell?_of_block (a := ⟨w.heap.size, i, none⟩) ((only_turned h).block w.heap.size (by simp) (by omega))).trans ((cell_of_row _ _ i cs e (0, 0) (heap_alloc_new w _)).trans hv)
set_option maxRecDepth 100000 in
set_option maxHeartbeats 1000000 in
theorem goes_to (t : ByteArray) (i b n : Nat) (l : Disk.Fo) (loc : Nat → Nat) (w : World) (h : Hid (Fol w b n l loc)) (hr : Hid (Disk.Rising l)) (hn : n < 4611686018427387904) (ht : t.size ≤ maxLen) (he : t.toList.isEmpty = false) :
    Calls Tryz.prog 91 #[.agg #[.string ⟨#[]⟩, .string t, .pointer (some ⟨loc i, 0, none⟩)], .map (some b)] w fun e w' => e = .returned (.tuple #[]) ∧ Fol w' b (n + 1) (Disk.put l t.data.toList i) loc ∧ Only (fun x => x = b) w w' := by
  go_enter Tryz.func91, Tryz.ntmps91
  go_wp2_with (at_mapUpdate; refine Disk.wpList_put_folder rfl (.tmp 13) (.tmp 15) (.tmp 17) 34 rfl 9 80 Tryz.underlying9 Tryz.underlying34 b n l hr.out loc rfl (h.out.same (RowKit.Below.heap_alloc w _ b h.out.lt)) (by simp only [maxLen]; omega) t ht i rfl rfl ?_; intro w2 hf hturn)
  go_end0
  exact ⟨rfl, hf, only_turnedA (Below.alloc (Below.refl _ _) (Nat.le_refl _) _) hturn⟩
set_option maxRecDepth 100000 in
set_option maxHeartbeats 1000000 in
theorem goes_from (t : ByteArray) (b n : Nat) (p : Value) (l : Disk.Fo) (loc : Nat → Nat) (w : World) (h : Hid (Fol w b n l loc)) (hr : Hid (Disk.Rising l)) (hp : p = .pointer none) (ht : t.size ≤ maxLen) (he : t.toList.isEmpty = false) :
    Calls Tryz.prog 91 #[.agg #[.string t, .string ⟨#[]⟩, p], .map (some b)] w fun e w' => e = .returned (.tuple #[]) ∧ Fol w' b n (Disk.drop l t.data.toList) loc ∧ Only (fun x => x = b) w w' := by
  subst hp
  go_enter Tryz.func91, Tryz.ntmps91
  go_wp2_with (at_delete; refine Disk.wpList_del_folder rfl (.tmp 7) (.tmp 9) 34 9 rfl 80 Tryz.underlying9 Tryz.underlying34 b n l hr.out loc rfl (h.out.same (RowKit.Below.heap_alloc w _ b h.out.lt)) t ht rfl ?_; intro w2 hf hturn; have c1 := after_turn hturn h.out.lt (i := 1) rfl)
  go_end0
  exact ⟨rfl, hf, only_turnedA (Below.alloc (Below.refl _ _) (Nat.le_refl _) _) hturn⟩
set_option maxRecDepth 100000 in
set_option maxHeartbeats 1000000 in
theorem goes_both (s t : ByteArray) (i b n : Nat) (l : Disk.Fo) (loc : Nat → Nat) (w : World) (h : Hid (Fol w b n l loc)) (hr : Hid (Disk.Rising l)) (hn : n < 4611686018427387904) (hs : s.size ≤ maxLen) (hes : s.toList.isEmpty = false) (ht : t.size ≤ maxLen) (he : t.toList.isEmpty = false) :
    Calls Tryz.prog 91 #[.agg #[.string s, .string t, .pointer (some ⟨loc i, 0, none⟩)], .map (some b)] w fun e w' => e = .returned (.tuple #[]) ∧ Fol w' b (n + 1) (Disk.put (Disk.drop l s.data.toList) t.data.toList i) loc ∧ Only (fun x => x = b) w w' := by
  go_enter Tryz.func91, Tryz.ntmps91
  go_wp2_with (first
    | (at_delete; refine Disk.wpList_del_folder rfl (.tmp 7) (.tmp 9) 34 9 rfl 80 Tryz.underlying9 Tryz.underlying34 b n l hr.out loc rfl (h.out.same (RowKit.Below.heap_alloc w _ b h.out.lt)) s hs rfl ?_; intro w2 hf hturn; have hfh := Lib.hid hf; have hth := Lib.hid hturn; have c1 := after_turn hturn h.out.lt (i := 1) rfl; have c2 := after_turn hturn h.out.lt (i := 2) rfl; clear hf hturn)
    | (at_mapUpdate; refine Disk.wpList_put_folder rfl (.tmp 13) (.tmp 15) (.tmp 17) 34 rfl 9 80 Tryz.underlying9 Tryz.underlying34 b n _ (hr.out.drop _) loc rfl hfh.out (by simp only [maxLen]; omega) t ht i rfl rfl ?_; intro w3 hf3 hturn3))
  go_end0
  exact ⟨rfl, hf3, (only_turnedA (Below.alloc (Below.refl _ _) (Nat.le_refl _) _) hth.out).trans (only_turned hturn3) fun _ h => .inl h⟩
end Go.Proofs.YtncpeogkccjmcaaGreatDoor
namespace Go.Proofs.YtncpeogkccjmcaaGreatDoor
open Go.RowKit Go.ChangeShapes Go.WideShapes Go.Deep

def szAt (l : Disk.Fo) (sz : Nat → Nat) (k : Disk.Nm) : Nat := ((Disk.find l k).map sz).getD 0
abbrev Goi := Disk.Going Tryz.prog 9
theorem below_iter {w wr w2 : World} (h : wr.grownBy w2 (some w.heap.size)) (_hs : w.heap.size ≤ wr.heap.size) : Below w.heap.size wr w2 := ⟨h.os, h.tape, h.output, h.size, fun x hx => h.block x (by omega) (by simp; omega)⟩
theorem file_cell {w w2 : World} {l : Disk.Fo} {loc sz : Nat → Nat} (hf : ∀ i ∈ Disk.ids l, loc i < w.heap.size ∧ ∃ A c, w.cell? ⟨loc i, 0, none⟩ = some (.slice A (sz i) c)) (hb : Below w.heap.size w w2) {k : Disk.Nm} {i : Nat} (hi : Disk.find l k = some i) :
    ∃ A c, w2.cell? ⟨loc i, 0, none⟩ = some (.slice A (sz i) c) := by
  obtain ⟨h1, A, c, h2⟩ := hf i (List.mem_map.2 ⟨(k, i), Disk.mem_of_find hi, rfl⟩)
  exact ⟨A, c, (hb.cell (p := ⟨loc i, 0, none⟩) h1).trans h2⟩
set_option maxRecDepth 100000 in
set_option maxHeartbeats 1000000 in
theorem sum_any (d b n : Nat) (l : Disk.Fo) (loc sz : Nat → Nat) (w : World) (h : Hid (Fol w b n l loc)) (hd : w.cell? ⟨d, 0, none⟩ = some (.map (some b)))
    (hf : Hid (∀ i ∈ Disk.ids l, loc i < w.heap.size ∧ ∃ A c, w.cell? ⟨loc i, 0, none⟩ = some (.slice A (sz i) c))) (_ : d < w.heap.size)
    (hb : Hid (∀ seen : List Disk.Nm, seen.Nodup → (∀ k ∈ seen, k ∈ Disk.keys l) → (seen.map (szAt l sz)).sum ≤ 4611686018427387904)) :
    Calls Tryz.prog 20 #[.pointer (some ⟨d, 0, none⟩)] w fun e w' => ∃ seen : List Disk.Nm, seen.Nodup ∧ (∀ k ∈ seen, k ∈ Disk.keys l) ∧ (∀ k ∈ Disk.keys l, k ∈ seen) ∧ e = .returned (.int .i64 ((seen.map (szAt l sz)).sum : Nat)) ∧ Below w.heap.size w w' := by
  go_enter Tryz.func20, Tryz.ntmps20
  go_wp2_with (at_range; refine Disk.wpList_range_folder rfl (.tmp 9) 34 rfl 9 80 Tryz.underlying9 Tryz.underlying34 b n l loc rfl h.out ?_; intro w1 hg1 hgr1 hs1; have HG1 := Lib.hid hg1; have HB1 := Lib.hid (hgr1); clear hg1 hgr1)
  have hB0 : Hid (Below w.heap.size w w1) := Lib.hid ⟨HB1.out.os, HB1.out.tape, HB1.out.output, HB1.out.size, fun x hx => HB1.out.block x hx (by simp)⟩
  go_frame
  go_loopg [3] l.length (fun j v3 wr => ∃ (q : Nat) (seen : List Disk.Nm), j = q ∧ v3 = .int .i64 ((seen.map (szAt l sz)).sum : Nat) ∧ Hid (Goi wr b w.heap.size n l loc seen q) ∧ Hid (Below w.heap.size w wr))
  case atStart => exact ⟨_, [], rfl, rfl, HG1, hB0⟩
  case round =>
    obtain ⟨q, seen, hj, rfl, HG, HB⟩ := hrel
    go_wp2_with (at_next; refine Disk.wpList_next_folder rfl (.tmp 10) rfl 9 Tryz.underlying9 b w.heap.size n l loc seen q rfl HG.out (fun h0 ha => ?_) (fun s i w2 cnt2 hss hfi hns hg2 hlt hgr hsz hen => ?_); all_goals try (have hB2 := HB.out.trans (below_iter hgr HB.out.size); obtain ⟨A, c, hcell⟩ := file_cell hf.out hB2 hfi; have HG2 := Lib.hid hg2; have HB2 := Lib.hid hB2))
    · go_ret
      exact ⟨seen, HG.out.nodup, HG.out.mem, ha, rfl, HB.out⟩
    · have hsum : ((seen ++ [s.data.toList]).map (szAt l sz)).sum = (seen.map (szAt l sz)).sum + sz i := by
        rw [List.map_append, List.sum_append]
        simp [szAt, hfi]
      have hbd := hb.out _ HG2.out.nodup HG2.out.mem
      rw [hsum] at hbd
      have hbd2 : wrap64 (((seen.map (szAt l sz)).sum : Nat) + (sz i : Nat)) = (((seen ++ [s.data.toList]).map (szAt l sz)).sum : Nat) := by
        rw [hsum]; unfold wrap64; omega
      rw [hbd2]
      go_roundg cnt2
      case measure => omega
      case rel => exact ⟨_, _, rfl, rfl, HG2, HB2⟩
end Go.Proofs.YtncpeogkccjmcaaGreatDoor
