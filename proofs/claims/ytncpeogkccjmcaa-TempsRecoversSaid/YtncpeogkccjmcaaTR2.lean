/- Texts that lead to the claim, one behind the other: The reading of arguments as lists, with what the bound on each part's weight (the reach) says of them. No program in sight. No conditions. -/
import Derived.Test.YtncpeogkccjmcaaRows
import Derived.Test.YtncpeogkccjmcaaTR1
import Derived.JoinedCond
import Derived.Deep.CondSized
namespace Go.Proofs.Ytncpeogkccjmcaa
open Go.RowKit Go.ChangeShapes Go.WideShapes Go.Deep

/-- A type's values read as r says; where no part weighs more than N, G says what is read. -/
def OpensR (P : Program) (t : TypeId) {α : Type} (r : Rep α) (G : Nat → α → Prop) : Prop :=
  ∀ {H : Type} (enc : TypeId × Value → H) (w : World) (base : Nat) (spare : Nat → Bool) (held : Bool) (fuel : Nat) (cs : List Value) (x : DataW H × List MemPlace),
    DataW.trod enc P w base spare held fuel t cs = some x → ∃ y, r.is w (under w.heap.size) cs y ∧ ∀ N, (x.1.weights P t).all (· ≤ N) = true → G N y

section
variable {P : Program}
theorem OpensR.str {t : TypeId} (ht : P.underlying t = some .string) : OpensR P t Rep.str (fun N s => s.size ≤ N) := by
  intro H enc w base spare held fuel cs x h
  obtain ⟨s, rfl, rfl, hs⟩ := DataW.trod_string ht h
  exact ⟨s, ⟨rfl, hs⟩, fun N hN => by simpa [DataW.weights] using hN⟩
theorem OpensR.of {t : TypeId} {α : Type} {r : Rep α} (h : Opens P t r) : OpensR P t r (fun _ _ => True) := by
  intro H enc w base spare held fuel cs x hx
  obtain ⟨y, hy⟩ := h enc w base spare held fuel cs x hx
  exact ⟨y, hy, fun _ _ => trivial⟩
theorem all_weights {H : Type} (e : TypeId) (D : Nat → DataW H) (N : Nat) : ∀ l : List Nat, (DataW.weightsAll P e (l.map D)).all (· ≤ N) = true → ∀ i ∈ l, ((D i).weights P e).all (· ≤ N) = true
  | [], _, i, hi => absurd hi (by simp)
  | a :: r, h, i, hi => by
    simp only [List.map_cons, DataW.weightsAll, List.all_append, Bool.and_eq_true] at h
    rcases List.mem_cons.1 hi with rfl | hi
    · exact h.1
    · exact all_weights e D N r h.2 i hi
theorem OpensR.slice {t e : TypeId} {α : Type} {r : Rep α} {G : Nat → α → Prop} (ht : P.underlying t = some (.slice e)) (hn : P.cellsOf e = r.n) (hp : 0 < r.n) (he : OpensR P e r G) : OpensR P t r.slice (fun N l => l.length * P.bytesOf e ≤ N ∧ ∀ x ∈ l, G N x) := by
  intro H enc w base spare held fuel cs x h
  rcases open_slice ht h with ⟨rfl, rfl⟩ | ⟨a, len, cap, m, n, D, Pl, rfl, hb, hl, hm, hmm, rfl, hi⟩
  · exact ⟨[], ⟨none, 0, rfl, SliceAt.nil _ _ _⟩, fun N _ => ⟨by simp, fun x hx => absurd hx (by simp)⟩⟩
  · have hlm : len ≤ m := by rw [hmm]; split <;> omega
    rcases Nat.eq_zero_or_pos len with rfl | hpos
    · exact ⟨[], ⟨some a, cap, by simp, by simp, hm, by simp, fun i hi => absurd hi (by simp)⟩, fun N _ => ⟨by simp, fun x hx => absurd hx (by simp)⟩⟩
    have hne : Nonempty α := by
      obtain ⟨cs', _, h2⟩ := hi 0 (by omega)
      obtain ⟨y, _⟩ := he enc w base spare held _ _ _ h2
      exact ⟨y⟩
    haveI : Inhabited α := ⟨Classical.choice hne⟩
    obtain ⟨f, hf⟩ := choose_lt (α := α) (n := len) (p := fun i y => (∀ N, ((D i).weights P e).all (· ≤ N) = true → G N y) ∧ ∃ cs', w.cells? base (a.add (i * P.cellsOf e)) (P.cellsOf e) = some cs' ∧ r.is w (under w.heap.size) cs' y) (fun i hi' => by
      obtain ⟨cs', h1, h2⟩ := hi i (by omega)
      obtain ⟨y, hy, hwy⟩ := he enc w base spare held _ _ _ h2
      exact ⟨y, hwy, cs', h1, hy⟩)
    refine ⟨(List.range len).map f, ⟨some a, cap, by simp, by simpa using hl, hm, by simp, fun i hi' => ?_⟩, ?_⟩
    · simp at hi'
      obtain ⟨_, cs', h1, hy⟩ := hf i hi'
      obtain ⟨_, hlen, hat⟩ := World.cells?_some h1
      have hn' : 0 < P.cellsOf e := by omega
      have h0 := hat 0 hn'
      have hspot : a.spot = none := by
        obtain ⟨_, cs0, hc0, _⟩ := hf 0 (by omega)
        obtain ⟨_, hlen0, hat0⟩ := World.cells?_some hc0
        have h00 := hat0 0 hn'
        rw [List.getElem?_eq_getElem (by omega)] at h00
        have e0 : (a.add (0 * P.cellsOf e)).add 0 = a := by simp [Addr.add]
        rw [e0] at h00
        unfold World.cell? at h00
        split at h00
        · split at h00
          · cases h00
          · rename_i hs; simpa using hs
        · cases h00
      obtain ⟨ab, ao, asp⟩ := a
      simp only at hspot
      subst hspot
      rw [add_plain] at hat h0
      refine ⟨ab, ao, cs', rfl, ?_, fun j u hj => ?_, by simpa using hy⟩
      · rw [add_plain, List.getElem?_eq_getElem (by omega)] at h0
        exact World.block_lt_of_cell? w _ h0
      · have hjl : j < P.cellsOf e := by
          have := (List.getElem?_eq_some_iff.1 hj).1
          omega
        have := hat j hjl
        rw [add_plain, hn] at this
        rw [this]; exact hj
    · intro N hN
      have hN' := hN
      simp only [DataW.weights, ht, List.all_cons, Bool.and_eq_true, decide_eq_true_eq, List.length_map, List.length_range] at hN'
      refine ⟨Nat.le_trans (Nat.mul_le_mul_right _ (by simp)) hN'.1, fun x hx => ?_⟩
      clear hN'
      obtain ⟨i, hi', rfl⟩ := List.mem_map.1 hx
      have hil : i < len := by simpa using hi'
      refine (hf i hil).1 N ?_
      simp only [DataW.weights, ht, List.all_cons, List.all_append, Bool.and_eq_true] at hN
      exact all_weights e D N _ hN.2.1 i hi'

theorem OpensR.sliceArg {H : Type} {enc : TypeId × Value → H} {t : TypeId} {α : Type} {r : Rep α} {G : Nat → List α → Prop} (ho : OpensR P t r.slice G) {w : World} {base : Nat} {spare : Nat → Bool} {held : Bool} {v : Value} {d : DataW H} {p : List MemPlace} (hv : ∀ cs, v ≠ .agg cs) (h : DataW.Trod enc P w base spare held t v d p) :
    ∃ A c l, v = .slice A l.length c ∧ SliceAt r w (under w.heap.size) A c l ∧ ∀ N, (d.weights P t).all (· ≤ N) = true → G N l := by
  obtain ⟨fuel, hf⟩ := h
  obtain ⟨l, ⟨A, c, e, hs⟩, hw⟩ := ho enc w base spare held fuel _ _ hf
  refine ⟨A, c, l, ?_, hs, hw⟩
  cases v <;> first | (simp [Value.cells] at e; done) | (simpa [Value.cells] using e) | (exact absurd rfl (hv _))
end
end Go.Proofs.Ytncpeogkccjmcaa
