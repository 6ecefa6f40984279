/- Texts that lead to the claim, one behind the other: A row of bytes that may have been cut to its length: what it reads as, append onto it. No program in sight. No conditions. -/
import Derived.Test.YtncpeogkccjmcaaGreatDoorTK2
namespace Go.Proofs.YtncpeogkccjmcaaGreatDoor
open Go.RowKit Go.ChangeShapes Go.WideShapes Go.Deep

/-- A slice of bytes at the head of the block blk, or one without room. -/
def RowT (e : TypeId) (w : World) (A : Option Addr) (c : Nat) (blk : Option Nat) (l : List UInt8) : Prop :=
  (blk = none ∧ c = 0 ∧ l = []) ∨ ∃ g cur, blk = some g ∧ A = some ⟨g, 0, none⟩ ∧ w.heap[g]? = some (.cells cur e (0, 0)) ∧ c ≤ cur.size ∧ l.length ≤ c ∧ c ≤ maxLen ∧ cur.toList.take l.length = bcells l

section
variable {e : TypeId} {w w' : World} {A : Option Addr} {c : Nat} {blk : Option Nat} {l : List UInt8}
theorem RowT.lt (h : RowT e w A c blk l) {b : Nat} (hb : blk = some b) : b < w.heap.size := by
  rcases h with ⟨rfl, -, -⟩ | ⟨g, cur, rfl, -, hg, -⟩
  · cases hb
  · cases hb; exact (Array.getElem?_eq_some_iff.1 hg).1
theorem RowT.ty (h : RowT e w A c blk l) {b : Nat} (hb : blk = some b) : ∃ cur, w.heap[b]? = some (.cells cur e (0, 0)) := by
  rcases h with ⟨rfl, -, -⟩ | ⟨g, cur, rfl, -, hg, -⟩
  · cases hb
  · cases hb; exact ⟨_, hg⟩
theorem RowT.same (h : RowT e w A c blk l) (hk : ∀ b, blk = some b → w'.heap[b]? = w.heap[b]?) : RowT e w' A c blk l := by
  rcases h with h | ⟨g, cur, rfl, e1, hg, rest⟩
  · exact .inl h
  · exact .inr ⟨g, cur, rfl, e1, (hk g rfl).trans hg, rest⟩
theorem RowT.len (h : RowT e w A c blk l) : l.length ≤ c ∧ c ≤ maxLen := by
  rcases h with ⟨-, rfl, rfl⟩ | ⟨g, cur, -, -, -, -, h1, h2, -⟩
  · exact ⟨Nat.le_refl _, Nat.zero_le _⟩
  · exact ⟨h1, h2⟩
theorem RowT.slice (h : RowT e w A c blk l) : SliceAt Rep.byte w (fun b => some b = blk) A c l := by
  rcases h with ⟨rfl, rfl, rfl⟩ | ⟨g, cur, rfl, rfl, hg, h0, h1, h2, h3⟩
  · exact ⟨by simp, by simp [maxLen], fun _ => rfl, fun i hi => absurd hi (by simp)⟩
  · refine ⟨h1, h2, by simp, fun i hi => ⟨g, 0, _, rfl, rfl, fun j u hj => ?_, rfl⟩⟩
    match j, hj with
    | 0, hj =>
      simp only [List.getElem?_cons_zero, Option.some.injEq] at hj
      subst hj
      rw [cell_of_row w g _ cur e (0, 0) hg, ← Array.getElem?_toList]
      have : (bcells l)[i]? = some (.int .u8 l[i].toNat) := by simp [bcells, hi]
      rw [← h3, List.getElem?_take, if_pos hi] at this
      simpa [Rep.byte] using this
theorem RowT.cut (h : RowT e w A c blk l) {k : Nat} (hk : k ≤ l.length) : RowT e w A k blk (l.take k) := by
  rcases h with ⟨rfl, rfl, rfl⟩ | ⟨g, cur, rfl, rfl, hg, h0, h1, h2, h3⟩
  · obtain rfl : k = 0 := by simpa using hk
    exact .inl ⟨rfl, rfl, rfl⟩
  · refine .inr ⟨g, cur, rfl, rfl, hg, by omega, by rw [List.length_take]; omega, by omega, ?_⟩
    rw [List.length_take, Nat.min_eq_left hk]
    have e1 : cur.toList.take k = (cur.toList.take l.length).take k := by rw [List.take_take, Nat.min_eq_left hk]
    rw [e1, h3]
    simp [bcells, List.map_take]
theorem RowT.none_ (e : TypeId) (w : World) (A : Option Addr) : RowT e w A 0 none [] := .inl ⟨rfl, rfl, rfl⟩
theorem RowT.of_own {base n : Nat} (h : Own Rep.byte e w base nob (.slice A n c) l) : n = l.length ∧ RowT e w A c (Value.slice A n c).ownBlock l ∧ ∀ b, (Value.slice A n c).ownBlock = some b → base ≤ b := by
  obtain ⟨A', n', c', e0, hn, -⟩ := h.form
  simp only [Value.slice.injEq] at e0
  obtain ⟨rfl, rfl, rfl⟩ := e0
  refine ⟨hn.out, ?_, fun b hb => (h.block_lt hb).1⟩
  obtain ⟨xs, ⟨hxl, hv⟩, -, h1, hr⟩ := h
  rcases hv with ⟨hv, h0⟩ | ⟨g, cap, cur, hv, hb, hg, hle, hmax, hsz, htk⟩
  · simp only [Value.slice.injEq] at hv
    obtain ⟨rfl, h0', rfl⟩ := hv
    exact .inl ⟨rfl, rfl, List.eq_nil_of_length_eq_zero h0⟩
  · simp only [Value.slice.injEq] at hv
    obtain ⟨rfl, -, rfl⟩ := hv
    have hx : xs = bcells l := by
      apply List.ext_getElem
      · simp [bcells, hxl, Rep.byte]
      · intro i h1 h2
        have hi : i < l.length := by simpa [bcells] using h2
        have := hr i hi
        have hb1 : Rep.byte.n = 1 := rfl
        rw [hb1, Nat.mul_one] at this
        change (xs.drop i).take 1 = _ at this
        rw [List.drop_eq_getElem_cons h1, List.take_succ_cons, List.take_zero, List.cons.injEq] at this
        simpa [bcells] using this.1
    refine .inr ⟨g, cur, rfl, rfl, hg, by rw [hsz]; simp [Rep.byte], hle, hmax, ?_⟩
    rw [← hx, ← htk]
    simp [Rep.byte]
end

section
variable {P : Program} (w : World)
/-- append of any bytes onto such a row. -/
theorem run_append_RowT (t ty e : TypeId) (hT : SliceType P t e 1 1) {A : Option Addr} {c : Nat} {blk : Option Nat} {l : List UInt8} (h : RowT e w A c blk l) {S2 : Blocks} {A2 : Option Addr} {c2 : Nat} {m : List UInt8} (hm : SliceAt Rep.byte w S2 A2 c2 m)
    (hb : l.length + m.length ≤ 140737488355328) :
    ∃ A' c' blk' w', (Builtin.append_ #[t, t] ty #[.slice A l.length c, .slice A2 m.length c2]).run P w = .ok (.slice A' (l.length + m.length) c') w' ∧ RowT e w' A' c' blk' (l ++ m) ∧ w.grownBy w' blk ∧ (blk' = blk ∨ blk' = some w.heap.size) := by
  obtain ⟨ht, ⟨i, z, hi, hz, hsize, hby, hzs⟩, hpos⟩ := hT
  have hl := h.len
  rcases Nat.eq_zero_or_pos m.length with h0 | h0
  · obtain rfl : m = [] := List.eq_nil_of_length_eq_zero h0
    have hlc := hl.1
    refine ⟨A, c, blk, w, ?_, by simpa using h, World.grownBy.refl w _, .inl rfl⟩
    cases A with
    | none =>
      have hc0 : c = 0 := h.slice.2.2.1 rfl
      have hl0 : l.length = 0 := by omega
      rw [hl0, hc0]
      cases A2 <;> simp [Builtin.append_, run_underlying ht, sizeOf, typeInfo, hi, Builtin.lenOf, Builtin.firstCells, loadCells, loadCellsFrom]
    | some a => cases A2 <;> simp [Builtin.append_, run_underlying ht, sizeOf, typeInfo, hi, Builtin.lenOf, Builtin.firstCells, hlc, storeCells, loadCells, loadCellsFrom]
  · obtain ⟨g2, o2, rfl, -, hc2⟩ := hm.bytes h0
    have hnews : ∀ j u, (bcells m)[j]? = some u → w.cell? ((⟨g2, o2, none⟩ : Addr).add j) = some u := fun j u hj => by rw [add_plain]; exact hc2 j u hj
    have hml : (bcells m).length = m.length * i.size := by rw [bcells_len, hsize, Nat.mul_one]
    have new : ∀ (k : Nat) (cs : List Value) (hk : l.length + m.length ≤ k) (_ : k ≤ maxLen) (hcs : cs = bcells (l ++ m)), RowT e (w.drew.alloc (.cells (cs.toArray ++ Builtin.zeroCells z.cells (k - (l.length + m.length))) e)) (some ⟨w.heap.size, 0, none⟩) k (some w.heap.size) (l ++ m) := by
      rintro k cs hk hk2 rfl
      refine .inr ⟨_, _, rfl, rfl, heap_alloc_new w.drew _, ?_, by simpa using hk, hk2, ?_⟩
      · simp [bcells_len, size_zeroCells, hzs]; omega
      · simp only [Array.toList_append]
        exact List.take_left' (by simp [bcells_len])
    have hmx : ∀ k o, k ≤ l.length + m.length → grownCap w k o e ≤ maxLen := fun k o hk => grownCap_le_maxLen w k o e (by simp only [maxLen]; omega)
    by_cases hroom : l.length + m.length ≤ c
    · rcases h with ⟨rfl, rfl, rfl⟩ | ⟨g, cur, rfl, rfl, hg, hcc, h1, h2, h3⟩
      · omega
      have hr := run_append_room (P := P) w t ty e i ht hi g l.length c cur hg ⟨g2, o2, none⟩ m.length c2 (bcells m) hml hnews (bcells_one m) hroom (by rw [hsize, bcells_len]; omega)
      refine ⟨_, _, some g, _, hr, .inr ⟨g, _, rfl, rfl, setRow_heap w g cur _ e _ hg, ?_, by simpa using hroom, h2, ?_⟩, ⟨rfl, rfl, rfl, by simp, fun k _ hk => setRow_other w g k _ (fun e => hk (by rw [e]))⟩, .inl rfl⟩
      · simp [hsize, bcells_len]; omega
      · rw [hsize, Nat.mul_one, h3, List.append_assoc, ← List.append_assoc, ← bcells_append, List.take_left' (by simp [bcells_len])]
    · have hfit : Builtin.nextslicecap (l.length + m.length) c * i.bytes ≤ 281474976710656 := growslice_fits (by omega) (by rw [hby]; omega)
      cases A with
      | none =>
        have hc0 : c = 0 := h.slice.2.2.1 rfl
        obtain rfl : l = [] := List.eq_nil_of_length_eq_zero (by omega)
        subst hc0
        have hr := run_append_nil (P := P) w t ty e i z ht hi hz ⟨g2, o2, none⟩ m.length c2 (bcells m) hml hnews h0 (by omega) (by rw [hby]; simp at hb; omega)
        have hge := grownCap_ge w m.length 0 e
        have h' := new (grownCap w m.length 0 e) (bcells m) (by simpa using hge) (hmx _ _ (by simp)) rfl
        simp only [List.length_nil, Nat.zero_add, List.nil_append] at h' ⊢
        exact ⟨_, _, _, _, hr, h', ⟨rfl, rfl, rfl, by simp, fun k hk _ => heap_alloc_old w.drew _ k hk⟩, .inr rfl⟩
      | some a =>
        have hcells : ∀ j u, (bcells l)[j]? = some u → w.cell? (a.add j) = some u := by
          intro j u hj
          have hj' : j < l.length := by have := (List.getElem?_eq_some_iff.1 hj).1; rwa [bcells_len] at this
          obtain ⟨g, o, ha, -, hcs⟩ := h.slice.bytes (by omega)
          simp only [Option.some.injEq] at ha
          subst ha
          rw [add_plain]
          exact hcs j u hj
        have hr := run_append_grow (P := P) w t ty e i z ht hi hz a l.length c (bcells l) (by rw [bcells_len, hsize, Nat.mul_one]) hcells ⟨g2, o2, none⟩ m.length c2 (bcells m) hml hnews (by omega) (by omega) hfit
        have hge := grownCap_ge w (l.length + m.length) c e
        have h' := new (grownCap w (l.length + m.length) c e) (bcells l ++ bcells m) hge (hmx _ _ (Nat.le_refl _)) (bcells_append _ _).symm
        rw [← List.append_toArray] at h'
        exact ⟨_, _, _, _, hr, h', ⟨rfl, rfl, rfl, by simp, fun k hk _ => heap_alloc_old w.drew _ k hk⟩, .inr rfl⟩
theorem wpList_append_RowT {ops : Array Oper} {rest : List Oper} {o : Oper} {a : Act} {Q : Exit → Act → World → Prop} (hgd : o.guard = none) (s x : Operand) (t : TypeId)
    (ho : o.op = .call { callee := .builtin .append, args := #[s, x], argTypes := #[t, t] })
    (e : TypeId) (hT : SliceType P t e 1 1) {A : Option Addr} {n c : Nat} {blk : Option Nat} {l : List UInt8} (hn : n = l.length) (h : RowT e w A c blk l) (hs : a.eval s = .slice A n c)
    {S2 : Blocks} {A2 : Option Addr} {n2 c2 : Nat} {m : List UInt8} (hn2 : n2 = m.length) (hm : SliceAt Rep.byte w S2 A2 c2 m) (hx : a.eval x = .slice A2 n2 c2)
    (hb : n + n2 ≤ 140737488355328)
    (hK : ∀ A' c' blk' w', RowT e w' A' c' blk' (l ++ m) → w.grownBy w' blk → (blk' = blk ∨ blk' = some w.heap.size) → wpList P ops Q rest (a.put o.dst (.slice A' (n + n2) c')) w') : wpList P ops Q (o :: rest) a w := by
  subst hn; subst hn2
  refine wpList_plain hgd fun K hK' => ?_
  obtain ⟨A', c', blk', w', hr, h2, h3, h4⟩ := run_append_RowT w t o.type e hT h hm hb
  unfold Oper.wp execOp
  simp only [ho, resolve, invoke, builtin, Sem.run_bind, Sem.run_pure, Result.andThen_ok, List.map_toArray, List.map_cons, List.map_nil, hs, hx, hr]
  exact hK' _ _ (hK A' c' blk' w' h2 h3 h4)
end
end Go.Proofs.YtncpeogkccjmcaaGreatDoor
