/- Rows of bytes of the call's own side by side, each in a block of its own. No program in sight. No conditions. -/
import Derived.Test.YtfmaaempcpjpkaaDoorBagMem
import Derived.OpenShut
namespace Go.Proofs.YtfmaaempcpjpkaaDoor
open Go.RowKit

/-- Rows of bytes, each in a block of its own. -/
structure Rws (T : TypeId) (w wr : World) (es : List (Ent × List UInt8)) : Prop where
  b : Below w.heap.size w wr
  own : ∀ x ∈ es, Own Rep.byte T wr w.heap.size nob (Ent.v x.1) x.2
  dist : es.Pairwise fun x y => ∀ q, (Ent.v x.1).ownBlock = some q → (Ent.v y.1).ownBlock ≠ some q
section
variable {T : TypeId} {w wr w' : World} {es : List (Ent × List UInt8)}
theorem Rws.nil (T : TypeId) (h : Below w.heap.size w wr) : Rws T w wr [] := ⟨h, fun _ h => absurd h (by simp), List.Pairwise.nil⟩
theorem Rws.far (h : Rws T w wr es) (hb : Below wr.heap.size wr w') : Rws T w w' es := ⟨h.b.trans (hb.mono h.b.size), fun x hx => (h.own x hx).far hb, h.dist⟩
theorem Rws.add (h : Rws T w wr es) (hb : Below wr.heap.size wr w') {A : Option Addr} {n c : Nat} {l : List UInt8} (ho : Own Rep.byte T w' wr.heap.size nob (.slice A n c) l) : Rws T w w' (es ++ [((A, n, c), l)]) := by
  have h2 := h.far hb
  refine ⟨h2.b, fun x hx => ?_, List.pairwise_append.2 ⟨h.dist, List.pairwise_singleton _ _, fun x hx y hy q hq hq' => ?_⟩⟩
  · rcases List.mem_append.1 hx with hx | hx
    · exact h2.own x hx
    · simp only [List.mem_singleton] at hx
      subst hx
      obtain ⟨xs, hx, hrest⟩ := ho
      refine ⟨xs, ⟨hx.1, ?_⟩, hrest⟩
      rcases hx.2 with e | ⟨g, cap, cur, e1, e2, e3⟩
      · exact .inl e
      · exact .inr ⟨g, cap, cur, e1, Nat.le_trans h.b.size e2, e3⟩
  · simp only [List.mem_singleton] at hy
    subst hy
    have h3 := ((h.own x hx).block_lt hq).2
    have h4 := (ho.block_lt hq').1
    omega
theorem Rws.get (h : Rws T w wr es) {k : Nat} {A : Option Addr} {n c : Nat} {l : List UInt8} (hk : es[k]? = some ((A, n, c), l)) : Own Rep.byte T wr w.heap.size nob (.slice A n c) l := h.own _ (List.mem_of_getElem? hk)
/-- .. as it is read. -/
theorem Rws.read (h : Rws T w wr es) {k : Nat} {A : Option Addr} {n c : Nat} {l : List UInt8} (hk : es[k]? = some ((A, n, c), l)) : n = l.length ∧ n ≤ c ∧ c ≤ 9223372036854775807 ∧ SliceAt Rep.byte wr (under wr.heap.size) A c l := by
  obtain ⟨A', n', c', e, hn, h1, h2, hs⟩ := (h.get hk).read
  simp only [Value.slice.injEq] at e
  obtain ⟨rfl, rfl, rfl⟩ := e
  exact ⟨hn.out, h1, h2, hs.up (btw_under (Nat.le_refl _))⟩
/-- A byte of a row written over. -/
theorem Rws.put (h : Rws T w wr es) {k : Nat} {g n c : Nat} {l : List UInt8} (hk : es[k]? = some ((some ⟨g, 0, none⟩, n, c), l)) {i : Nat} (hi : i < l.length) (x : UInt8) : Rws T w (wr.setCell ⟨g, i, none⟩ (.int .u8 x.toNat)) (es.set k ((some ⟨g, 0, none⟩, n, c), l.set i x)) := by
  have hg := setCell_grown g wr i (.int .u8 x.toNat)
  have ho := h.get hk
  have hkl : k < es.length := (List.getElem?_eq_some_iff.1 hk).1
  refine ⟨h.b.grown hg h.b.size fun b hb => by simp only [Option.some.injEq] at hb; subst hb; exact (ho.block_lt rfl).1, fun y hy => ?_, ?_⟩
  · obtain ⟨j, hj⟩ := List.mem_iff_getElem?.1 hy
    by_cases hjk : j = k
    · subst hjk
      rw [List.getElem?_set_self (by omega)] at hj
      simp only [Option.some.injEq] at hj
      subst hj
      exact ho.setCell1 rfl hi rfl
    · rw [List.getElem?_set_ne (fun e => hjk e.symm)] at hj
      refine (h.own y (List.mem_of_getElem? hj)).mono hg ?_ fun _ h => h.elim
      cases hv : (Ent.v y.1).ownBlock with
      | none => exact .inl rfl
      | some b =>
        refine .inr fun e => ?_
        simp only [Option.some.injEq] at e
        subst e
        obtain ⟨hjl, hjy⟩ := List.getElem?_eq_some_iff.1 hj
        obtain ⟨_, hky⟩ := List.getElem?_eq_some_iff.1 hk
        rcases Nat.lt_or_ge j k with hlt | hge
        · exact List.pairwise_iff_getElem.1 h.dist j k hjl hkl hlt b (by rw [hjy]; exact hv) (by rw [hky]; rfl)
        · exact List.pairwise_iff_getElem.1 h.dist k j hkl hjl (by omega) b (by rw [hky]; rfl) (by rw [hjy]; exact hv)
  · refine List.pairwise_iff_getElem.2 fun p q hp hq hpq => ?_
    simp only [List.length_set] at hp hq
    have e1 : ∀ j (hj : j < es.length), Ent.v ((es.set k ((some ⟨g, 0, none⟩, n, c), l.set i x))[j]'(by simpa using hj)).1 = Ent.v es[j].1 := fun j hj => by
      by_cases hjk : j = k
      · subst hjk
        rw [List.getElem_set_self]
        obtain ⟨_, hky⟩ := List.getElem?_eq_some_iff.1 hk
        rw [hky]
      · rw [List.getElem_set_ne (fun e => hjk e.symm)]
    rw [e1 p hp, e1 q hq]
    exact List.pairwise_iff_getElem.1 h.dist p q hp hq hpq
/-- A byte of a row: its cell. -/
theorem Rws.cell (h : Rws T w wr es) {k : Nat} {A : Option Addr} {n c : Nat} {l : List UInt8} (hk : es[k]? = some ((A, n, c), l)) {i : Nat} (hi : i < l.length) : ∃ g, A = some ⟨g, 0, none⟩ ∧ wr.cell? ⟨g, i, none⟩ = some (.int .u8 l[i].toNat) ∧ wr.frozen? ⟨g, i, none⟩ = false := by
  obtain ⟨g, c', u, e, -, -, hc, hf, hu, -⟩ := (h.get hk).cellAt rfl hi
  simp only [Value.slice.injEq] at e
  obtain ⟨rfl, -, -⟩ := e
  simp only [Rep.byte, List.cons.injEq, and_true] at hu
  exact ⟨g, rfl, by rw [hc, hu], hf⟩
theorem Rws.only {F : Blocks} (h : Rws T w wr es) (ho : Only F wr w') (hF : ∀ b, F b → w.heap.size ≤ b) (hne : ∀ x ∈ es, ∀ b, (Ent.v x.1).ownBlock = some b → ¬ F b) : Rws T w w' es :=
  ⟨h.b.trans (ho.below h.b.size hF), fun x hx => (h.own x hx).only ho (hne x hx), h.dist⟩
/-- Some of the rows, for the look at shared memory. -/
theorem Rws.chosen {fs : List (Ent × List UInt8)} (h : Rws T w wr es) (hs : fs.Sublist es) : (∀ x ∈ fs.map Prod.fst, ∃ l : List UInt8, Own Rep.byte T wr w.heap.size nob (Ent.v x) l) ∧ (fs.map Prod.fst).Pairwise fun a b => ∀ q, (Ent.v a).ownBlock = some q → (Ent.v b).ownBlock ≠ some q :=
  ⟨fun x hx => by
    obtain ⟨y, hy, rfl⟩ := List.mem_map.1 hx
    exact ⟨_, h.own y (hs.subset hy)⟩, List.pairwise_map.2 (h.dist.sublist hs)⟩
theorem u8_bits (op : BinOp) (a b : Int) : ∃ y : UInt8, bits op .u8 a b = y.toNat := by
  have h := wf_bits op .u8 a b
  simp [Lit.wf, IntKind.min, IntKind.max, IntKind.signed, IntKind.bits] at h
  refine ⟨UInt8.ofNat (bits op .u8 a b).toNat, ?_⟩
  simp
  omega
end
end Go.Proofs.YtfmaaempcpjpkaaDoor
