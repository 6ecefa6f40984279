/- Pieces that a call gathers itself, each with a text of its own: what is known of them while they grow. No program in sight but the numbers of two types. No conditions. -/
import Derived.Test.YtebbilkkacbfjaaDoorPieces
import Derived.OwnWalk
import Derived.OneCell
namespace Go.Proofs.YtebbilkkacbfjaaDoor
open Go.RowKit

theorem World.grownBy_of_below {w w' : World} (hb : Below w.heap.size w w') (row : Option Nat) : w.grownBy w' row := ⟨hb.os, hb.tape, hb.output, hb.size, fun k hk _ => hb.block k hk⟩
theorem ownsRow_far {w w' : World} {base : Nat} {e : TypeId} {size n : Nat} {v : Value} {xs : List Value} (h : w.ownsRow base e size v n xs) (hb : Below w.heap.size w w') : w'.ownsRow base e size v n xs :=
  h.kept (row := none) (World.grownBy_of_below hb none) (by cases v.ownBlock <;> simp)
/-- Rows of unlike element types lie in unlike blocks. -/
theorem ownsRow_ne {w : World} {b1 b2 : Nat} {e1 e2 : TypeId} {s1 s2 n1 n2 : Nat} {v1 v2 : Value} {x1 x2 : List Value} (h1 : w.ownsRow b1 e1 s1 v1 n1 x1) (h2 : w.ownsRow b2 e2 s2 v2 n2 x2) (hne : e1 ≠ e2) : v1.ownBlock = none ∨ v1.ownBlock ≠ v2.ownBlock := by
  rcases h1.2 with ⟨rfl, _⟩ | ⟨g, cap, cur, rfl, _, hg, _⟩
  · exact .inl rfl
  · refine .inr fun e => ?_
    rcases h2.2 with ⟨rfl, _⟩ | ⟨g', cap', cur', rfl, _, hg', _⟩
    · simp [Value.ownBlock] at e
    · simp [Value.ownBlock] at e
      subst e
      rw [hg] at hg'
      injection hg' with hg'
      injection hg' with _ ht
      exact hne ht

def flatP : List Piece → List Value → List Value
  | p :: r, t :: s => .int .i64 p.group :: t :: flatP r s
  | _, _ => []
theorem flatP_snoc : ∀ (l : List Piece) (ts : List Value) (_ : ts.length = l.length) (p : Piece) (t : Value), flatP (l ++ [p]) (ts ++ [t]) = flatP l ts ++ [.int .i64 p.group, t]
  | [], [], _, _, _ => rfl
  | [], _ :: _, h, _, _ => by simp at h
  | _ :: _, [], h, _, _ => by simp at h
  | a :: l, b :: ts, h, p, t => by simp only [List.cons_append, flatP]; rw [flatP_snoc l ts (by simpa using h)]
theorem flatP_len : ∀ (l : List Piece) (ts : List Value) (_ : ts.length = l.length), (flatP l ts).length = l.length * 2
  | [], [], _ => rfl
  | [], _ :: _, h => by simp at h
  | _ :: _, [], h => by simp at h
  | a :: l, b :: ts, h => by simp only [flatP, List.length_cons]; rw [flatP_len l ts (by simpa using h)]; omega
theorem flatP_at : ∀ (l : List Piece) (ts : List Value) (h : ts.length = l.length) (i : Nat) (hi : i < l.length), ((flatP l ts).drop (i * 2)).take 2 = [.int .i64 l[i].group, ts[i]]
  | [], [], _, _, hi => by simp at hi
  | [], _ :: _, h, _, _ => by simp at h
  | _ :: _, [], h, _, _ => by simp at h
  | a :: l, b :: ts, h, 0, _ => by simp [flatP]
  | a :: l, b :: ts, h, i + 1, hi => by
    have := flatP_at l ts (by simpa using h) i (by simpa using hi)
    rw [show (i + 1) * 2 = i * 2 + 1 + 1 by omega]
    simpa [flatP] using this

/-- Pieces in a row of the call's own, each text in a row of its own. -/
def POwn (w : World) (base : Nat) (v : Value) (l : List Piece) : Prop :=
  ∃ ts : List Value, ts.length = l.length ∧ w.ownsRow base 81 2 v l.length (flatP l ts) ∧ (∀ p ∈ l, (Lit.int .i64 p.group).wf = true) ∧
    (∀ i (h : i < l.length) (h' : i < ts.length), Own Rep.byte 5 w base nob ts[i] l[i].text) ∧
    ∀ i j (_ : i < j) (hj : j < ts.length), (ts[i]'(by omega)).ownBlock = none ∨ (ts[i]'(by omega)).ownBlock ≠ (ts[j]).ownBlock

theorem POwn.nil (w : World) (base : Nat) : POwn w base (.slice none 0 0) [] := ⟨[], rfl, World.ownsRow_nil _ _ _ _, by simp, fun i h => absurd h (by simp), fun i j _ hj => absurd hj (by simp)⟩

theorem POwn.far {w w' : World} {base : Nat} {v : Value} {l : List Piece} (h : POwn w base v l) (hb : Below w.heap.size w w') : POwn w' base v l := by
  obtain ⟨ts, h1, h2, h3, h4, h5⟩ := h
  exact ⟨ts, h1, ownsRow_far h2 hb, h3, fun i hi hi' => (h4 i hi hi').far hb, h5⟩

theorem Own.lt' {α : Type} {r : Rep α} {e : TypeId} {w : World} {base : Nat} {S : Blocks} {v : Value} {l : List α} (h : Own r e w base S v l) {k : Nat} (hk : v.ownBlock = some k) : base ≤ k ∧ k < w.heap.size := by
  obtain ⟨xs, ho, _⟩ := h
  exact ho.lt k hk

/-- One more behind them. -/
theorem POwn.push {w0 w w' : World} {base : Nat} {v v' tv : Value} {l : List Piece} {p : Piece} (h : POwn w0 base v l) (hb : Below w0.heap.size w0 w) (hwf : (Lit.int .i64 p.group).wf = true)
    (ht : Own Rep.byte 5 w base nob tv p.text) (hnew : ∀ k, tv.ownBlock = some k → w0.heap.size ≤ k)
    (hown : ∀ xs, w.ownsRow base 81 2 v l.length xs → w'.ownsRow base 81 2 v' (l.length + 1) (xs ++ [.int .i64 p.group, tv])) (hg : w.grownBy w' v.ownBlock) : POwn w' base v' (l ++ [p]) := by
  obtain ⟨ts, h1, h2, h3, h4, h5⟩ := h
  have h2' := ownsRow_far h2 hb
  have stay : ∀ {t : Value} {x : List UInt8}, Own Rep.byte 5 w base nob t x → Own Rep.byte 5 w' base nob t x := fun {t x} ho =>
    ho.mono hg (by obtain ⟨xs, hx, _⟩ := ho; exact ownsRow_ne hx h2' (by decide)) (fun _ hb => hb.elim)
  refine ⟨ts ++ [tv], by simp [h1], ?_, fun q hq => ?_, fun i hi hi' => ?_, fun i j hij hj => ?_⟩
  · rw [flatP_snoc l ts h1, List.length_append]
    exact hown _ h2'
  · rcases List.mem_append.1 hq with h | h
    · exact h3 q h
    · simp at h; subst h; exact hwf
  · simp only [List.length_append, List.length_cons, List.length_nil] at hi hi'
    by_cases hil : i < l.length
    · rw [List.getElem_append_left (by omega), List.getElem_append_left hil]
      exact stay ((h4 i hil (by omega)).far hb)
    · obtain rfl : i = l.length := by omega
      have e : (ts ++ [tv])[l.length]'(by simp [h1]) = tv := by simp [← h1]
      have e' : (l ++ [p])[l.length]'(by simp) = p := by simp
      rw [e, e']
      exact stay ht
  · simp only [List.length_append, List.length_cons, List.length_nil] at hj
    by_cases hjl : j < ts.length
    · rw [List.getElem_append_left (by omega), List.getElem_append_left hjl]
      exact h5 i j hij hjl
    · obtain rfl : j = ts.length := by omega
      rw [List.getElem_append_left hij]
      have e : (ts ++ [tv])[ts.length]'(by simp) = tv := by simp
      rw [e]
      cases hk : (ts[i]'hij).ownBlock with
      | none => exact .inl rfl
      | some k =>
        refine .inr fun he => ?_
        have := (Own.lt' (h4 i (by omega) hij) hk).2
        have := hnew k he.symm
        omega

/-- What they read as. -/
theorem POwn.slice {w : World} {base : Nat} {v : Value} {l : List Piece} (h : POwn w base v l) : ∃ A c, v = .slice A l.length c ∧ SliceAt Rep.piece w (btw base w.heap.size) A c l := by
  obtain ⟨ts, h1, h2, h3, h4, h5⟩ := h
  have hO : Own Rep.piece 81 w base (fun b => (base ≤ b ∧ b < w.heap.size) ∧ some b ≠ v.ownBlock) v l := by
    refine ⟨flatP l ts, h2, fun b hb => ⟨hb.1.2, hb.2⟩, fun u hu => ?_, fun i hi => ?_⟩
    · obtain ⟨k, hk0, hu⟩ := List.mem_iff_getElem.1 hu
      have hk := hk0
      rw [flatP_len l ts h1] at hk
      have hf := flatP_at l ts h1 (k / 2) (by omega)
      have : [Value.int .i64 (l[k / 2]'(by omega)).group, ts[k / 2]'(by omega)][k % 2]? = (flatP l ts)[k]? := by
        rw [← hf, List.getElem?_take, if_pos (Nat.mod_lt _ (by omega)), List.getElem?_drop]
        congr 1; omega
      rw [List.getElem?_eq_getElem hk0, hu] at this
      obtain ⟨xs, ho, _⟩ := h4 (k / 2) (by omega) (by omega)
      have h2' : k % 2 = 0 ∨ k % 2 = 1 := by omega
      rcases h2' with e | e
      · rw [e] at this; simp at this; rw [← this]; rfl
      · rw [e] at this; simp at this; rw [← this]
        rcases ho.2 with ⟨e, _⟩ | ⟨g, cap, cur, e, _⟩ <;> rw [e] <;> rfl
    · obtain ⟨A, c, he, hs⟩ := (h4 i hi (by omega)).slice
      refine ⟨[.int .i64 l[i].group], [ts[i]'(by omega)], ?_, ⟨rfl, h3 _ (List.getElem_mem hi)⟩, A, c, by rw [he], hs.up fun b hb => ?_⟩
      · show ((flatP l ts).drop (i * 2)).take 2 = _
        rw [flatP_at l ts h1 i hi]; rfl
      · rcases hb with ⟨hb1, hb2, hb3⟩ | hb
        · refine ⟨⟨hb1, hb2⟩, fun e => ?_⟩
          obtain ⟨xs, ho, _⟩ := h4 i hi (by omega)
          rcases ownsRow_ne ho h2 (by decide) with h | h
          · rw [h] at hb3; cases hb3
          · exact h (hb3.symm.trans e)
        · exact hb.elim
  obtain ⟨A, c, he, hs⟩ := hO.slice
  refine ⟨A, c, he, hs.up fun b hb => ?_⟩
  rcases hb with ⟨h, h', _⟩ | ⟨h, _⟩
  · exact ⟨h, h'⟩
  · exact h

/-- The last one's text, opened: its cell, that it is owned; and shut again with another text there. -/
theorem POwn.last {w : World} {base : Nat} {v : Value} {l : List Piece} {p : Piece} (h : POwn w base v (l ++ [p])) :
    ∃ g cap tv, v = .slice (some ⟨g, 0, none⟩) (l.length + 1) cap ∧ base ≤ g ∧ w.cell? ⟨g, l.length * 2, none⟩ = some (.int .i64 p.group) ∧ w.cell? ⟨g, l.length * 2 + 1, none⟩ = some tv ∧ w.frozen? ⟨g, l.length * 2 + 1, none⟩ = false ∧ g < w.heap.size ∧
      Own Rep.byte 5 w base nob tv p.text ∧ (tv.ownBlock = none ∨ tv.ownBlock ≠ some g) ∧
      ∀ w1 tv' x, w.grownBy w1 tv.ownBlock → Own Rep.byte 5 w1 base nob tv' x → (tv'.ownBlock = tv.ownBlock ∨ tv'.ownBlock = none ∨ ∃ k, tv'.ownBlock = some k ∧ w.heap.size ≤ k) →
        POwn (w1.setCell ⟨g, l.length * 2 + 1, none⟩ tv') base v (l ++ [{ p with text := x }]) := by
  obtain ⟨ts, h1, h2, h3, h4, h5⟩ := h
  rw [List.length_append] at h1
  obtain ⟨ts0, tv, rfl⟩ : ∃ t0 t, ts = t0 ++ [t] := ⟨ts.dropLast, ts.getLast (by rintro rfl; simp at h1), (List.dropLast_concat_getLast _).symm⟩
  have hl0 : ts0.length = l.length := by simpa using h1
  rw [flatP_snoc l ts0 hl0] at h2
  have hfl := flatP_len l ts0 hl0
  have htv : Own Rep.byte 5 w base nob tv p.text := by
    have := h4 l.length (by simp) (by simp [hl0])
    simpa [hl0] using this
  rcases h2.2 with ⟨_, h0⟩ | ⟨g, cap, cur, rfl, hb, hg, hle, hmax, hsz, htk⟩
  · simp at h0
  have hlt : g < w.heap.size := (Array.getElem?_eq_some_iff.1 hg).1
  have hc := h2.cells (g := g) rfl
  have c0 := hc (l.length * 2) (.int .i64 p.group) (by rw [List.getElem?_append_right (by omega), hfl]; simp)
  have c1 := hc (l.length * 2 + 1) tv (by rw [List.getElem?_append_right (by omega), hfl]; simp)
  rw [Go.WideShapes.add_plain] at c0 c1
  have hne : tv.ownBlock = none ∨ tv.ownBlock ≠ some g := by
    obtain ⟨xs, ho, _⟩ := htv
    rcases ownsRow_ne ho h2 (by decide) with h | h
    · exact .inl h
    · exact .inr (by simpa [Value.ownBlock] using h)
  refine ⟨g, cap, tv, by simp, hb, by simpa using c0, by simpa using c1, by simp [World.frozen?, hg], hlt, htv, hne, fun w1 tv' x hgr ho' hat => ?_⟩
  have hne' : (some g : Option Nat) ≠ tv.ownBlock := by
    intro e
    rcases hne with h | h
    · rw [h] at e; cases e
    · exact h e.symm
  have h2g : w1.ownsRow base 81 2 (.slice (some ⟨g, 0, none⟩) (l ++ [p]).length cap) (l ++ [p]).length (flatP l ts0 ++ [.int .i64 p.group, tv]) :=
    h2.kept hgr (.inr hne')
  have hg1 : w1.heap[g]? = some (.cells cur 81 (0, 0)) := by
    rw [hgr.block g hlt hne']; exact hg
  have hother : ∀ i (hi : i < ts0.length), (ts0[i]).ownBlock = none ∨ (ts0[i]).ownBlock ≠ tv.ownBlock := fun i hi => by
    have := h5 i ts0.length hi (by simp)
    rw [List.getElem_append_left hi] at this
    simpa using this
  have farset : ∀ {t : Value} {y : List UInt8}, Own Rep.byte 5 w1 base nob t y → Own Rep.byte 5 (w1.setCell ⟨g, l.length * 2 + 1, none⟩ tv') base nob t y := fun {t y} ho => by
    refine ho.mono (row := some g) ⟨rfl, rfl, rfl, by simp [World.setCell], fun k _ hk => Below.heap_setCell _ _ _ _ (by simpa using hk)⟩ ?_ (fun _ h => h.elim)
    obtain ⟨xs, ho, _⟩ := ho
    have := ownsRow_ne ho h2g (by decide)
    simpa [Value.ownBlock] using this
  refine ⟨ts0 ++ [tv'], by simp [hl0], ?_, fun q hq => ?_, fun i hi hi' => ?_, fun i j hij hj => ?_⟩
  · rw [flatP_snoc l ts0 hl0]
    simp only [List.length_append, List.length_cons, List.length_nil] at hle htk ⊢
    refine ⟨by simp [hfl]; omega, .inr ⟨g, cap, cur.setIfInBounds (l.length * 2 + 1) tv', rfl, hb, ?_, hle, hmax, by simp [hsz], ?_⟩⟩
    · simp [World.setCell, Array.getElem?_modify, hg1]
    · have hcs : l.length * 2 + 1 < cur.size := by rw [hsz]; omega
      rw [Array.toList_setIfInBounds, List.take_set, htk]
      rw [List.set_append_right _ _ (by omega), hfl]
      simp
  · rcases List.mem_append.1 hq with h | h
    · exact h3 q (List.mem_append.2 (.inl h))
    · simp at h; subst h; exact h3 p (by simp)
  · simp only [List.length_append, List.length_cons, List.length_nil] at hi hi'
    by_cases hil : i < l.length
    · rw [List.getElem_append_left (by omega), List.getElem_append_left hil]
      have := h4 i (by simp; omega) (by simp; omega)
      rw [List.getElem_append_left (by omega), List.getElem_append_left hil] at this
      exact farset (this.mono hgr (hother i (by omega)) (fun _ h => h.elim))
    · obtain rfl : i = l.length := by omega
      have e : (ts0 ++ [tv'])[l.length]'(by simp [hl0]) = tv' := by simp [← hl0]
      rw [e]
      simpa using farset ho'
  · simp only [List.length_append, List.length_cons, List.length_nil] at hj
    by_cases hjl : j < ts0.length
    · rw [List.getElem_append_left (by omega), List.getElem_append_left hjl]
      have := h5 i j hij (by simp; omega)
      rwa [List.getElem_append_left (by omega), List.getElem_append_left hjl] at this
    · obtain rfl : j = ts0.length := by omega
      rw [List.getElem_append_left hij]
      have e : (ts0 ++ [tv'])[ts0.length]'(by simp) = tv' := by simp
      rw [e]
      rcases hat with h | h | ⟨k, hk, hge⟩
      · rw [h]; exact hother i hij
      · cases hk : (ts0[i]'hij).ownBlock with
        | none => exact .inl rfl
        | some q => exact .inr (by rw [h]; simp)
      · cases hq : (ts0[i]'hij).ownBlock with
        | none => exact .inl rfl
        | some q =>
          refine .inr fun e => ?_
          have := h4 i (by simp; omega) (by simp; omega)
          rw [List.getElem_append_left hij] at this
          have := (Own.lt' this hq).2
          rw [hk] at e
          injection e
          omega

end Go.Proofs.YtebbilkkacbfjaaDoor
