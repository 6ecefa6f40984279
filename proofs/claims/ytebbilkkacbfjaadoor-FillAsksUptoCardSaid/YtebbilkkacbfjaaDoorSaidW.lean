/- The reading of arguments as lists, with what they weigh in the second form's count (bulk). No program in sight. No conditions. -/
import Derived.Test.YtebbilkkacbfjaaDoorRows
import Derived.Test.YtebbilkkacbfjaaDoorSaid
import Derived.JoinedCond
import Derived.Deep.CondSized
namespace Go.Proofs.YtebbilkkacbfjaaDoor
open Go.RowKit Go.ChangeShapes Go.WideShapes Go.Deep

/-- A type's values read as r says; what is read weighs at most its bulk. -/
def OpensW (P : Program) (t : TypeId) {α : Type} (r : Rep α) (wt : α → Nat) : Prop :=
  ∀ {H : Type} (enc : TypeId × Value → H) (w : World) (base : Nat) (spare : Nat → Bool) (held : Bool) (fuel : Nat) (cs : List Value) (x : DataW H × List MemPlace),
    DataW.trod enc P w base spare held fuel t cs = some x → ∃ y, r.is w (under w.heap.size) cs y ∧ wt y ≤ Rows.uptoBulk x.1

section
variable {P : Program}
theorem OpensW.int {t : TypeId} {k : IntKind} (ht : P.underlying t = some (.int k)) : OpensW P t (Rep.int k) (fun _ => 1) := by
  intro H enc w base spare held fuel cs x h
  obtain ⟨n, rfl, rfl, hw⟩ := DataW.trod_int ht h
  exact ⟨n, ⟨rfl, hw⟩, by simp [Rows.uptoBulk]⟩
theorem OpensW.byte {t : TypeId} (ht : P.underlying t = some (.int .u8)) : OpensW P t Rep.byte (fun _ => 1) := by
  intro H enc w base spare held fuel cs x h
  obtain ⟨y, hy⟩ := Opens.byte ht enc w base spare held fuel cs x h
  obtain ⟨n, _, rfl, _⟩ := DataW.trod_int ht h
  exact ⟨y, hy, by simp [Rows.uptoBulk]⟩
theorem OpensW.bool {t : TypeId} (ht : P.underlying t = some .bool) : OpensW P t Rep.bool (fun _ => 1) := by
  intro H enc w base spare held fuel cs x h
  obtain ⟨b, rfl, rfl⟩ := DataW.trod_bool ht h
  exact ⟨b, rfl, by simp [Rows.uptoBulk]⟩
theorem OpensW.str {t : TypeId} (ht : P.underlying t = some .string) : OpensW P t Rep.str (fun s => s.size + 1) := by
  intro H enc w base spare held fuel cs x h
  obtain ⟨s, rfl, rfl, hs⟩ := DataW.trod_string ht h
  exact ⟨s, ⟨rfl, hs⟩, by simp [Rows.uptoBulk]⟩
theorem bulk_sum {H : Type} {α : Type} (wt : α → Nat) (f : Nat → α) (D : Nat → DataW H) (n : Nat) (h : ∀ i, i < n → wt (f i) ≤ Rows.uptoBulk (D i)) : (((List.range n).map f).map wt).sum ≤ Rows.uptoBulkAll ((List.range n).map D) := by
  have key : ∀ l : List Nat, (∀ i ∈ l, i < n) → ((l.map f).map wt).sum ≤ Rows.uptoBulkAll (l.map D) := by
    intro l
    induction l with
    | nil => intro _; simp [Rows.uptoBulkAll]
    | cons a r ih =>
      intro hl
      have h1 := h a (hl a (by simp))
      have h2 := ih fun i hi => hl i (by simp [hi])
      simp only [List.map_cons, List.sum_cons, Rows.uptoBulkAll]
      omega
  exact key _ fun i hi => by simpa using hi
theorem OpensW.slice {t e : TypeId} {α : Type} {r : Rep α} {wt : α → Nat} (ht : P.underlying t = some (.slice e)) (hn : P.cellsOf e = r.n) (hp : 0 < r.n) (he : OpensW P e r wt) : OpensW P t r.slice (fun l => (l.map wt).sum + 1) := by
  intro H enc w base spare held fuel cs x h
  rcases open_slice ht h with ⟨rfl, rfl⟩ | ⟨a, len, cap, m, n, D, Pl, rfl, hb, hl, hm, hmm, rfl, hi⟩
  · exact ⟨[], ⟨none, 0, rfl, SliceAt.nil _ _ _⟩, by simp [Rows.uptoBulk]⟩
  · have hlm : len ≤ m := by rw [hmm]; split <;> omega
    rcases Nat.eq_zero_or_pos len with rfl | hpos
    · exact ⟨[], ⟨some a, cap, by simp, by simp, hm, by simp, fun i hi => absurd hi (by simp)⟩, by simp [Rows.uptoBulk]⟩
    have hne : Nonempty α := by
      obtain ⟨cs', _, h2⟩ := hi 0 (by omega)
      obtain ⟨y, _⟩ := he enc w base spare held _ _ _ h2
      exact ⟨y⟩
    haveI : Inhabited α := ⟨Classical.choice hne⟩
    obtain ⟨f, hf⟩ := choose_lt (α := α) (n := len) (p := fun i y => wt y ≤ Rows.uptoBulk (D i) ∧ ∃ cs', w.cells? base (a.add (i * P.cellsOf e)) (P.cellsOf e) = some cs' ∧ r.is w (under w.heap.size) cs' y) (fun i hi' => by
      obtain ⟨cs', h1, h2⟩ := hi i (by omega)
      obtain ⟨y, hy, hwy⟩ := he enc w base spare held _ _ _ h2
      exact ⟨y, hwy, cs', h1, hy⟩)
    refine ⟨(List.range len).map f, ⟨some a, cap, by simp, by simpa using hl, hm, by simp, fun i hi' => ?_⟩, ?_⟩
    · simp at hi'
      obtain ⟨_, cs', h1, hy⟩ := hf i hi'
      obtain ⟨_, hlen, hat⟩ := World.cells?_some h1
      have hn' : 0 < P.cellsOf e := by omega
      have h0 := hat 0 hn'
      have hspot : a.spot = none := by
        obtain ⟨_, cs0, hc0, _⟩ := hf 0 (by omega)
        obtain ⟨_, hlen0, hat0⟩ := World.cells?_some hc0
        have h00 := hat0 0 hn'
        rw [List.getElem?_eq_getElem (by omega)] at h00
        have e0 : (a.add (0 * P.cellsOf e)).add 0 = a := by simp [Addr.add]
        rw [e0] at h00
        unfold World.cell? at h00
        split at h00
        · split at h00
          · cases h00
          · rename_i hs; simpa using hs
        · cases h00
      obtain ⟨ab, ao, asp⟩ := a
      simp only at hspot
      subst hspot
      rw [add_plain] at hat h0
      refine ⟨ab, ao, cs', rfl, ?_, fun j u hj => ?_, by simpa using hy⟩
      · rw [add_plain, List.getElem?_eq_getElem (by omega)] at h0
        exact World.block_lt_of_cell? w _ h0
      · have hjl : j < P.cellsOf e := by
          have := (List.getElem?_eq_some_iff.1 hj).1
          omega
        have := hat j hjl
        rw [add_plain, hn] at this
        rw [this]; exact hj
    · have := bulk_sum wt f D len fun i hi => (hf i hi).1
      simp only [Rows.uptoBulk]
      omega
theorem OpensW.pair {t : TypeId} {f1 f2 : Field} {α β γ : Type} {r : Rep α} {s : Rep β} {f : γ → α × β} {wa : α → Nat} {wb : β → Nat} (mk : α → β → γ) (hmk : ∀ a b, f (mk a b) = (a, b)) (ht : P.underlying t = some (.struct #[f1, f2]))
    (h1 : P.cellsOf f1.type = r.n) (h2 : P.cellsOf f2.type = s.n) (o1 : f1.offset = 0) (o2 : f2.offset = r.n) (hc : P.cellsOf t = r.n + s.n) (hr : OpensW P f1.type r wa) (hs : OpensW P f2.type s wb) : OpensW P t (Rep.pair r s f) (fun y => wa (f y).1 + wb (f y).2 + 1) := by
  intro H enc w base spare held fuel cs x h
  obtain ⟨ys, n', hn', rfl, hlen, hyl, hf⟩ := DataW.trod_struct ht h
  have e1 := hf 0 f1 rfl
  have e2 := hf 1 f2 rfl
  simp at hyl
  rw [List.getElem?_eq_getElem (by omega)] at e1 e2
  obtain ⟨a, ha, wa'⟩ := hr enc w base spare held _ _ _ e1
  obtain ⟨b, hb, wb'⟩ := hs enc w base spare held _ _ _ e2
  rw [o1, h1, List.drop_zero] at ha
  rw [o2, h2] at hb
  refine ⟨mk a b, ⟨_, _, (List.take_append_drop r.n cs).symm, by rw [hmk]; exact ha, ?_⟩, ?_⟩
  · rw [hmk]
    rwa [List.take_of_length_le (by rw [List.length_drop]; omega)] at hb
  · match ys, hyl, wa', wb' with
    | [y1, y2], _, wa', wb' =>
      show wa (f (mk a b)).1 + wb (f (mk a b)).2 + 1 ≤ _
      rw [hmk]
      simp only [List.map_cons, List.map_nil, Rows.uptoBulk, Rows.uptoBulkAll]
      simp only [List.getElem_cons_zero, List.getElem_cons_succ] at wa' wb'
      omega

theorem OpensW.sliceArg {H : Type} {enc : TypeId × Value → H} {t : TypeId} {α : Type} {r : Rep α} {wt : List α → Nat} (ho : OpensW P t r.slice wt) {w : World} {base : Nat} {spare : Nat → Bool} {held : Bool} {v : Value} {d : DataW H} {p : List MemPlace} (hv : ∀ cs, v ≠ .agg cs) (h : DataW.Trod enc P w base spare held t v d p) :
    ∃ A c l, v = .slice A l.length c ∧ SliceAt r w (under w.heap.size) A c l ∧ wt l ≤ Rows.uptoBulk d := by
  obtain ⟨fuel, hf⟩ := h
  obtain ⟨l, ⟨A, c, e, hs⟩, hw⟩ := ho enc w base spare held fuel _ _ hf
  refine ⟨A, c, l, ?_, hs, hw⟩
  cases v <;> first | (simp [Value.cells] at e; done) | (simpa [Value.cells] using e) | (exact absurd rfl (hv _))
theorem bulk_le {H : Type} {l : List (DataW H)} (hk : Rows.uptoSmall H l = true) : Rows.uptoBulkAll l ≤ 1048576 := of_decide_eq_true hk
end
end Go.Proofs.YtebbilkkacbfjaaDoor
