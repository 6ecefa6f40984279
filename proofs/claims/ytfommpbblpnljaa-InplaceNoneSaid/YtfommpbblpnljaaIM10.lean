/- Texts that lead to the claim, one behind the other: Ranging over a folder in memory: the names come in some order, each once. No program in sight. No conditions. -/
import Derived.Test.YtfommpbblpnljaaIM9
namespace Go.Proofs.Ytfommpbblpnljaa
namespace Disk
open Go.WideShapes

/-- 'for k, f := range m' under way: the names that have come. -/
def Going (P : Program) (k : TypeId) (w : World) (b r n : Nat) (l : Fo) (loc : Nat → Nat) (seen : List Nm) (cnt : Nat) : Prop :=
  ∃ D left, w.ranges P k ptrElem b r n D left cnt ∧ MapIs D l loc ∧ (∀ k, left (.string k) = true ↔ (k ∈ keys l ∧ k ∉ seen)) ∧ seen.Nodup ∧ (∀ k ∈ seen, k ∈ keys l) ∧ cnt + seen.length ≤ l.length

section
variable {P : Program} {k t e : TypeId} {w w' : World} {b r n cnt : Nat} {l : Fo} {loc : Nat → Nat} {seen : List Nm}
theorem Going.folder (h : Going P k w b r n l loc seen cnt) : Folder P k w b n l loc := by
  obtain ⟨D, left, h1, h2, _⟩ := h
  exact ⟨D, h1.owns, h2⟩
theorem Going.nodup (h : Going P k w b r n l loc seen cnt) : seen.Nodup := let ⟨_, _, _, _, _, h, _⟩ := h; h
theorem Going.mem (h : Going P k w b r n l loc seen cnt) : ∀ k ∈ seen, k ∈ keys l := let ⟨_, _, _, _, _, _, h, _⟩ := h; h
theorem Going.count (h : Going P k w b r n l loc seen cnt) : cnt + seen.length ≤ l.length := let ⟨_, _, _, _, _, _, _, h⟩ := h; h
theorem Going.left_eq (h : Going P k w b r n l loc seen cnt) : w.rangeLeft b r = cnt := let ⟨_, _, h, _⟩ := h; h.left_eq
theorem Going.ne (h : Going P k w b r n l loc seen cnt) : r ≠ b := let ⟨_, _, h, _⟩ := h; h.ne
theorem Going.lt (h : Going P k w b r n l loc seen cnt) : r < w.heap.size := let ⟨_, _, h, _⟩ := h; h.lt
theorem Going.same (h : Going P k w b r n l loc seen cnt) (hb : w'.heap[b]? = w.heap[b]?) (hr : w'.heap[r]? = w.heap[r]?) : Going P k w' b r n l loc seen cnt := by
  obtain ⟨D, left, h1, h2⟩ := h
  obtain ⟨es, clock, since, sn, c0, a1, a2, a3, a4, a5, a6⟩ := h1
  exact ⟨D, left, ⟨es, clock, since, sn, c0, hb.trans a1, a2, a3, a4, hr.trans a5, a6⟩, h2⟩

/-- All have come: in some order. -/
theorem perm_keys {l : Fo} (hr : Rising l) {seen : List Nm} (hn : seen.Nodup) (hm : ∀ k ∈ seen, k ∈ keys l) (ha : ∀ k ∈ keys l, k ∈ seen) : seen.Perm (keys l) := by
  have hnd : (keys l).Nodup := by
    unfold keys List.Nodup
    rw [List.pairwise_map]
    exact hr.imp fun hab e => by rw [e] at hab; exact lt_irrefl _ hab
  rw [List.perm_ext_iff_of_nodup hn hnd]
  exact fun k => ⟨hm k, ha k⟩

theorem wpList_range_folder {ops : Array Oper} {rest : List Oper} {o : Oper} {a : Act} {Q : Exit → Act → World → Prop}
    (hg : o.guard = none) (m : Operand) (t : TypeId) (hop : o.op = Op.range t m) (k e : TypeId) (hk : P.underlying k = some .string) (ht : P.underlying t = some (.map k e)) (b n : Nat) (l : Fo) (loc : Nat → Nat)
    (hm : a.eval m = .map (some b)) (h : Folder P k w b n l loc)
    (hK : ∀ w', Going P k w' b w.heap.size n l loc [] l.length → w.grownBy w' none → w'.heap.size = w.heap.size + 1 → wpList P ops Q rest (a.put o.dst (.pointer (some ⟨w.heap.size, 0, none⟩))) w') :
    wpList P ops Q (o :: rest) a w := by
  obtain ⟨D, h, hD⟩ := h
  refine wpList_range_own w hg m t hop k e (Maps.string_keyed hk) ht ptrElem b n D hm h fun w' h1 h2 h3 => ?_
  rw [hD.size] at h1
  refine hK w' ⟨D, _, h1, hD, fun k => ?_, List.nodup_nil, by simp, Nat.le_refl _⟩ h2 h3
  rw [has_of hD, mem_keys]
  simp

theorem wpList_next_folder {ops : Array Oper} {rest : List Oper} {o : Oper} {a : Act} {Q : Exit → Act → World → Prop}
    (hg : o.guard = none) (it : Operand) (hop : o.op = Op.next it false) (k : TypeId) (hk : P.underlying k = some .string) (b r n : Nat) (l : Fo) (loc : Nat → Nat) (seen : List Nm) (cnt : Nat)
    (hit : a.eval it = .pointer (some ⟨r, 0, none⟩)) (h : Going P k w b r n l loc seen cnt)
    (hDone : cnt = 0 → (∀ k ∈ keys l, k ∈ seen) → wpList P ops Q rest (a.put o.dst (.tuple #[.bool false])) w)
    (hMore : ∀ (s : ByteArray) (i : Nat) (w' : World) (cnt' : Nat), s.size ≤ maxLen → find l s.data.toList = some i → s.data.toList ∉ seen → Going P k w' b r n l loc (seen ++ [s.data.toList]) cnt' → cnt' < cnt →
      w.grownBy w' (some r) → w'.heap.size = w.heap.size → (Instr.entry (.pointer (some ⟨r, 0, none⟩))).run P w' = .ok (.tuple #[.string s, .pointer (some ⟨loc i, 0, none⟩)]) w' → wpList P ops Q rest (a.put o.dst (.tuple #[.bool true, .string s, .pointer (some ⟨loc i, 0, none⟩)])) w') :
    wpList P ops Q (o :: rest) a w := by
  obtain ⟨D, left, h1, hD, hl, hn, hmem, hc⟩ := h
  refine wpList_next_ranges w hg it hop k (Maps.string_keyed hk) ptrElem Value.string (fun p : Option Nat => .pointer (p.map fun b => ⟨b, 0, none⟩))
    (fun key kl hkey => by obtain ⟨s, rfl, _⟩ := WideMaps.string_of_keyOf hk hkey; exact ⟨s, rfl⟩) (fun v y hv => ptrElem_inv hv) b r n D left cnt hit h1
    (fun h0 hf => hDone h0 fun k hk' => ?_) (fun s p kl y w' cnt' hkey hlk hv hat hrg hlt hgr hsz hen => ?_)
  · rcases Decidable.em (k ∈ seen) with h | h
    · exact h
    · have := (hl k).2 ⟨hk', h⟩
      rw [hf] at this
      cases this
  · obtain ⟨s', e1, rfl, hs⟩ := WideMaps.string_of_keyOf hk hkey
    cases e1
    obtain ⟨hin, hns⟩ := (hl _).1 hlk
    have hfs := mem_keys.1 hin
    cases hf : find l s.data.toList with
    | none => rw [hf] at hfs; cases hfs
    | some i =>
      have h2 := hat .nil
      rw [hD.at_, hf] at h2
      have hp := ptrElem_ref (v := .pointer (p.map fun b => ⟨b, 0, none⟩)) (b := loc i) (ps := y.2) (by rw [hv]; exact congrArg some (Prod.ext h2.symm rfl))
      rw [hp] at hen ⊢
      refine hMore s i w' cnt' hs hf hns ⟨D, _, hrg, hD, fun k' => ?_, ?_, ?_, ?_⟩ hlt hgr hsz hen
      · rw [Bool.and_eq_true, hl k', List.mem_append]
        constructor
        · rintro ⟨⟨a1, a2⟩, a3⟩
          refine ⟨a1, fun hm => ?_⟩
          rcases hm with hm | hm
          · exact a2 hm
          · rw [List.mem_singleton.1 hm, WideAt.sameKey_self (isKey _)] at a3
            cases a3
        · rintro ⟨a1, a2⟩
          refine ⟨⟨a1, fun hm => a2 (.inl hm)⟩, ?_⟩
          have : k' ≠ s.data.toList := fun e => a2 (.inr (by rw [e]; exact List.mem_singleton.2 rfl))
          rw [Maps.sameKey_ne (str_ne this)]
          rfl
      · rw [List.nodup_append]
        refine ⟨hn, by simp, fun x hx y hy e => ?_⟩
        rw [List.mem_singleton.1 hy] at e
        exact hns (e ▸ hx)
      · intro k' hk'
        rcases List.mem_append.1 hk' with h | h
        · exact hmem k' h
        · rw [List.mem_singleton.1 h]; exact hin
      · simp only [List.length_append, List.length_cons, List.length_nil]
        omega

/-- 'm[k] = f', 'delete(m, k)' at the operation. -/
theorem wpList_put_folder {ops : Array Oper} {rest : List Oper} {o : Oper} {a : Act} {Q : Exit → Act → World → Prop}
    (hg : o.guard = none) (m x v : Operand) (t : TypeId) (hop : o.op = Op.mapUpdate t m x v) (k e : TypeId) (hk : P.underlying k = some .string) (ht : P.underlying t = some (.map k e)) (b n : Nat) (l : Fo) (hr : Rising l) (loc : Nat → Nat)
    (hm : a.eval m = .map (some b)) (h : Folder P k w b n l loc) (hn : n < maxLen) (s : ByteArray) (hs : s.size ≤ maxLen) (i : Nat) (hx : a.eval x = .string s) (hv : a.eval v = .pointer (some ⟨loc i, 0, none⟩))
    (hK : ∀ w', Folder P k w' b (n + 1) (put l s.data.toList i) loc → w.mapTurned w' b → wpList P ops Q rest (a.put o.dst undef) w') : wpList P ops Q (o :: rest) a w := by
  refine wpList_plain hg fun K' hK' => ?_
  obtain ⟨w', hrun, r1, r2⟩ := h.store hr hk ht hn s hs i
  unfold Oper.wp
  simp [execOp, hop, hm, hx, hv, hrun, Result.andThen]
  exact hK' _ _ (hK w' r1 r2)
theorem wpList_del_folder {ops : Array Oper} {rest : List Oper} {o : Oper} {a : Act} {Q : Exit → Act → World → Prop}
    (hg : o.guard = none) (m x : Operand) (t k : TypeId) (hop : o.op = Op.call { callee := Callee.builtin Builtin.delete, args := #[m, x], argTypes := #[t, k] }) (e : TypeId) (hk : P.underlying k = some .string) (ht : P.underlying t = some (.map k e)) (b n : Nat) (l : Fo) (hr : Rising l) (loc : Nat → Nat)
    (hm : a.eval m = .map (some b)) (h : Folder P k w b n l loc) (s : ByteArray) (hs : s.size ≤ maxLen) (hx : a.eval x = .string s)
    (hK : ∀ w', Folder P k w' b n (drop l s.data.toList) loc → w.mapTurned w' b → wpList P ops Q rest (a.put o.dst (.tuple #[])) w') : wpList P ops Q (o :: rest) a w := by
  refine wpList_plain hg fun K' hK' => ?_
  obtain ⟨w', hrun, r1, r2⟩ := h.drop hr hk ht s hs o.type
  unfold Oper.wp
  simp [execOp, hop, resolve, invoke, builtin, hm, hx, hrun, Result.andThen]
  exact hK' _ _ (hK w' r1 r2)
end

/-- A copy under way: those names that have come. -/
def Part (l m : Fo) (seen : List Nm) : Prop := Rising m ∧ ∀ k, find m k = if k ∈ seen then find l k else none
theorem Part.start (l : Fo) : Part l [] [] := ⟨List.Pairwise.nil, fun k => by simp [find]⟩
theorem Part.step {l m : Fo} {seen : List Nm} (h : Part l m seen) {k : Nm} {i : Nat} (hi : find l k = some i) : Part l (put m k i) (seen ++ [k]) := by
  refine ⟨h.1.put k i, fun k' => ?_⟩
  by_cases e : k' = k
  · subst e
    rw [find_put_same h.1, if_pos (by simp), hi]
  · rw [find_put_other h.1 i e, h.2 k']
    have : (k' ∈ seen ++ [k]) ↔ k' ∈ seen := by simp [e]
    simp only [this]
theorem Part.end_ {l m : Fo} {seen : List Nm} (h : Part l m seen) (hl : Rising l) (ha : ∀ k ∈ keys l, k ∈ seen) : m = l := by
  refine find_ext h.1 hl fun k => ?_
  rw [h.2 k]
  split
  · rfl
  · rename_i hk
    cases e : find l k with
    | none => rfl
    | some i => exact absurd (ha k (mem_keys.2 (by rw [e]; rfl))) hk

/-- Summing over the names in whatever order. -/
def sizeAt (s : St) (l : Fo) (k : Nm) : Nat := ((find l k).bind fun i => s.all[i]?.map (·.bytes.length)).getD 0
theorem sum_size {s : St} {l : Fo} (hr : Rising l) {seen : List Nm} (hn : seen.Nodup) (hm : ∀ k ∈ seen, k ∈ keys l) (ha : ∀ k ∈ keys l, k ∈ seen) : (seen.map (sizeAt s l)).sum = s.size l := by
  rw [((perm_keys hr hn hm ha).map (sizeAt s l)).sum_nat]
  unfold St.size keys
  rw [List.map_map]
  congr 1
  refine List.map_congr_left fun p hp => ?_
  show sizeAt s l p.1 = _
  unfold sizeAt
  rw [find_of_mem hr (k := p.1) (i := p.2) hp]
  rfl

end Disk
end Go.Proofs.Ytfommpbblpnljaa
