/- A bag of pieces and their texts: pieces put into it, and the look at shared memory. Conditions: pieces of the run's own; room. -/
import Derived.Test.YtebbilkkacbfjaaDoorBag
import Derived.Test.YtebbilkkacbfjaaDoorBagPieces
import Derived.Test.YtebbilkkacbfjaaDoorParts
namespace Go.Proofs.YtebbilkkacbfjaaDoor
open Go.RowKit

/-- Pieces of the call's own, the texts by name. -/
def PT (w : World) (base : Nat) (v : Value) (l : List Piece) (ts : List Value) : Prop :=
  ts.length = l.length ∧ w.ownsRow base 81 2 v l.length (flatP l ts) ∧ (∀ p ∈ l, (Lit.int .i64 p.group).wf = true) ∧
    (∀ i (h : i < l.length) (h' : i < ts.length), Own Rep.byte 5 w base nob ts[i] l[i].text) ∧
    ∀ i j (_ : i < j) (hj : j < ts.length), (ts[i]'(by omega)).ownBlock = none ∨ (ts[i]'(by omega)).ownBlock ≠ (ts[j]).ownBlock
theorem POwn.texts {w : World} {base : Nat} {v : Value} {l : List Piece} (h : POwn w base v l) : ∃ ts, PT w base v l ts := h
section
variable {w w' : World} {base : Nat} {v : Value} {l : List Piece} {ts : List Value}
theorem PT.far (h : PT w base v l ts) (hb : Below w.heap.size w w') : PT w' base v l ts := by
  obtain ⟨h1, h2, h3, h4, h5⟩ := h
  exact ⟨h1, ownsRow_far h2 hb, h3, fun i hi hi' => (h4 i hi hi').far hb, h5⟩
theorem PT.low {base' : Nat} (h : PT w base v l ts) (hb : base' ≤ base) : PT w base' v l ts := by
  obtain ⟨h1, h2, h3, h4, h5⟩ := h
  refine ⟨h1, ⟨h2.1, ?_⟩, h3, fun i hi hi' => ?_, h5⟩
  · rcases h2.2 with h | ⟨g, cap, cur, e1, e2, e3⟩
    · exact .inl h
    · exact .inr ⟨g, cap, cur, e1, Nat.le_trans hb e2, e3⟩
  · obtain ⟨xs, hx, hrest⟩ := h4 i hi hi'
    refine ⟨xs, ⟨hx.1, ?_⟩, hrest⟩
    rcases hx.2 with h | ⟨g, cap, cur, e1, e2, e3⟩
    · exact .inl h
    · exact .inr ⟨g, cap, cur, e1, Nat.le_trans hb e2, e3⟩
theorem flatP_one : ∀ (l : List Piece) (ts : List Value), (∀ t ∈ ts, t.oneCell' = true) → ∀ u ∈ flatP l ts, u.oneCell' = true
  | [], _, _, u, hu => by simp [flatP] at hu
  | _ :: _, [], _, u, hu => by simp [flatP] at hu
  | a :: l, t :: ts, h, u, hu => by
    simp only [flatP, List.mem_cons] at hu
    rcases hu with rfl | rfl | hu
    · rfl
    · exact h _ (by simp)
    · exact flatP_one l ts (fun x hx => h x (by simp [hx])) u hu
theorem PT.one (h : PT w base v l ts) : ∀ t ∈ ts, t.oneCell' = true := fun t ht => by
  obtain ⟨h1, h2, h3, h4, h5⟩ := h
  obtain ⟨i, hi, rfl⟩ := List.getElem_of_mem ht
  obtain ⟨A, n, c, e, -⟩ := (h4 i (by omega) hi).form
  rw [e]; rfl
/-- .. as a row of cells. -/
theorem PT.raw (h : PT w base v l ts) : ∃ L : List (List Value), Own (Rep.raw 2) 81 w base nob v L := by
  have h1 := h.1
  have hl := flatP_len l ts h1
  refine ⟨(List.range l.length).map fun i => ((flatP l ts).drop (i * 2)).take 2, flatP l ts, ?_, fun _ h => h.elim, flatP_one l ts h.one, fun i hi => ?_⟩
  · simpa [Rep.raw] using h.2.1
  · have hi' : i < l.length := by simpa using hi
    simp only [List.getElem_map, List.getElem_range]
    refine ⟨rfl, by rw [List.length_take, List.length_drop, hl]; omega, fun u hu => ?_⟩
    exact flatP_one l ts h.one u (List.mem_of_mem_drop (List.mem_of_mem_take hu))
theorem PT.cell (h : PT w base v l ts) {i : Nat} (hi : i < l.length) : ∃ g c, v = .slice (some ⟨g, 0, none⟩) l.length c ∧ w.cell? ⟨g, i * 2 + 1, none⟩ = some (ts[i]'(by have := h.1; omega)) := by
  obtain ⟨h1, h2, h3, h4, h5⟩ := h
  rcases h2.2 with ⟨_, h0⟩ | ⟨g, cap, cur, rfl, hb, hg, hle, hmax, hsz, ht⟩
  · omega
  · refine ⟨g, cap, rfl, ?_⟩
    rw [cell_of_row w g _ cur _ (0, 0) hg]
    have h6 := flatP_at l ts h1 i hi
    rw [← ht] at h6
    have h7 := congrArg (fun x => x[1]?) h6
    simp only [List.getElem?_take, List.getElem?_drop, List.getElem?_cons_succ, List.getElem?_cons_zero] at h7
    rw [if_pos (by omega)] at h7
    split at h7
    · rw [← Array.getElem?_toList]; exact h7
    · omega
theorem PT.only {F : Blocks} (h : PT w base v l ts) (ho : Only F w w') (hF : ∀ b, v.ownBlock = some b → ¬ F b) (hT : ∀ i (hi : i < ts.length) b, (ts[i]).ownBlock = some b → ¬ F b) : PT w' base v l ts := by
  obtain ⟨h1, h2, h3, h4, h5⟩ := h
  refine ⟨h1, ⟨h2.1, ?_⟩, h3, fun i hi hi' => (h4 i hi hi').only ho (hT i hi'), h5⟩
  rcases h2.2 with h | ⟨g, cap, cur, rfl, hb, hg, rest⟩
  · exact .inl h
  · refine .inr ⟨g, cap, cur, rfl, hb, ?_, rest⟩
    rw [ho.block g (Array.getElem?_eq_some_iff.1 hg).1 (hF g rfl)]
    exact hg
end

/-- A bag that holds rows of bytes and of pieces. -/
abbrev bagP (v u : Value) : Obj := .cells #[v, .slice none 0 0, .slice none 0 0, .slice none 0 0, .slice none 0 0, .slice none 0 0, .slice none 0 0, .slice none 0 0, .slice none 0 0, .slice none 0 0, .slice none 0 0, .slice none 0 0, .slice none 0 0, .slice none 0 0, .slice none 0 0, .slice none 0 0, u, .slice none 0 0, .slice none 0 0] 56
structure BagP (w : World) (base gb : Nat) (v u : Value) (rows prs : List (List Value)) : Prop where
  blk : w.heap[gb]? = some (bagP v u)
  own : Own Rep.val 58 w base nob v rows
  ownP : Own Rep.val 26 w base nob u prs
  hb : base ≤ gb
/-- What such a bag turns while it grows. -/
def BagF (gb : Nat) (v u : Value) : Blocks := fun b => b = gb ∨ some b = v.ownBlock ∨ some b = u.ownBlock
section
variable {w w' : World} {base gb : Nat} {v u : Value} {rows prs : List (List Value)}
theorem BagP.ne (h : BagP w base gb v u rows prs) : v.ownBlock ≠ some gb := h.own.ne_block h.blk (by decide)
theorem BagP.neP (h : BagP w base gb v u rows prs) : u.ownBlock ≠ some gb := h.ownP.ne_block h.blk (by decide)
theorem BagP.far (h : BagP w base gb v u rows prs) (hb : Below w.heap.size w w') : BagP w' base gb v u rows prs :=
  ⟨(hb.block _ (Array.getElem?_eq_some_iff.1 h.blk).1).trans h.blk, h.own.far hb, h.ownP.far hb, h.hb⟩
theorem BagP.start (w : World) (base : Nat) (hb : base ≤ w.heap.size) : BagP (w.alloc (bagP (.slice none 0 0) (.slice none 0 0))) base w.heap.size (.slice none 0 0) (.slice none 0 0) [] [] := ⟨heap_alloc_new _ _, Own.nil _ _ _ _, Own.nil _ _ _ _, hb⟩
theorem BagP.notB (h : BagP w base gb v u rows prs) {α : Type} {r : Rep α} {b2 : Nat} {x : Value} {l : List α} (ho : Own r 5 w b2 nob x l) {b : Nat} (hb : x.ownBlock = some b) : ¬ BagF gb v u b := by
  rintro (rfl | e | e)
  · exact ho.ne_block h.blk (by decide) hb
  · exact ho.ne_type h.own (by decide) hb e.symm
  · exact ho.ne_type h.ownP (by decide) hb e.symm
theorem BagP.notP (h : BagP w base gb v u rows prs) {α : Type} {r : Rep α} {b2 : Nat} {x : Value} {l : List α} (ho : Own r 81 w b2 nob x l) {b : Nat} (hb : x.ownBlock = some b) : ¬ BagF gb v u b := by
  rintro (rfl | e | e)
  · exact ho.ne_block h.blk (by decide) hb
  · exact ho.ne_type h.own (by decide) hb e.symm
  · exact ho.ne_type h.ownP (by decide) hb e.symm
theorem PT.bag {l : List Piece} {ts : List Value} {b2 : Nat} {x : Value} (hp : PT w b2 x l ts) (h : BagP w base gb v u rows prs) (ho : Only (BagF gb v u) w w') : PT w' b2 x l ts := by
  obtain ⟨L, hL⟩ := hp.raw
  exact hp.only ho (fun b hb => h.notP hL hb) fun i hi b hb => h.notB (hp.2.2.2.1 i (by have := hp.1; omega) hi) hb
end
set_option maxRecDepth 100000 in
set_option maxHeartbeats 2000000 in
theorem addBytesP_lt (base gb : Nat) (v u : Value) (rows prs : List (List Value)) (w : World) (h : BagP w base gb v u rows prs) (hr : rows.length < 400) (A : Option Addr) (n c : Nat) :
    Calls Tryd.prog 29 #[.pointer (some ⟨gb, 0, none⟩), .slice A n c] w fun e w' => e = .returned (.tuple #[]) ∧ ∃ v', BagP w' base gb v' u (rows ++ [[.slice A n c]]) prs ∧ Only (BagF gb v u) w w' ∧ ∀ b, v'.ownBlock = some b → v.ownBlock = some b ∨ w.heap.size ≤ b := by
  have hne := h.ne
  have hc0 : w.cell? ⟨gb, 0, none⟩ = some v := cell_of_row w gb 0 _ _ (0, 0) h.blk
  obtain ⟨A1, n1, c1, rfl, hn1, hnc1, hcm1⟩ := h.own.form
  have hn1' : n1 < 400 := by have := hn1.out; omega
  have hsz : gb < w.heap.size := (Array.getElem?_eq_some_iff.1 h.blk).1
  have hb0 := h.hb
  have H := Lib.hid h
  have HNE := Lib.hid hne
  clear h hne
  go_enter Tryd.func29, Tryd.ntmps29
  go_wp2_with (at_builtin; refine wpList_append_Own _ rfl (.tmp 14) (.tmp 16) 36 rfl Rep.val base 58 24 stRowsB nob (.slice A1 n1 c1) rows rfl (H.out.own.alloc _) _ _ _ [[_]] rfl (SliceAt.newOne Rep.val _ _ _ _ _ ⟨rfl, rfl, by simp [Value.oneCell']⟩ (by simp)) nob (fun _ h => h.elim) (fun _ h => h) (fun _ _ h => h) (by simp <;> omega) (by simp <;> omega) (by simp <;> omega) ?_; intro v3 w3 hown3 hg3 hat3; obtain ⟨A3, n3, c3, rfl, -, -, -⟩ := hown3.form; have hblk3 := (hg3.block gb (by simp <;> omega) (fun e => HNE.out e.symm)).trans ((Below.heap_alloc w _ gb hsz).trans H.out.blk); have hc3 : w3.cell? ⟨gb, 0, none⟩ = some (.slice A1 n1 c1) := cell_of_row w3 gb 0 _ _ (0, 0) hblk3; have hf3 : w3.frozen? ⟨gb, 0, none⟩ = false := (by simp [World.frozen?, hblk3]); have HOWN3 := Lib.hid hown3; have HG3 := Lib.hid hg3; have HAT3 := Lib.hid hat3; have HBLK3 := Lib.hid hblk3; clear hown3 hg3 hat3 hblk3)
  go_end0
  have hne3 : (Value.slice A3 n3 c3).ownBlock ≠ some gb := by
    rcases HAT3.out with e | e <;> rw [e]
    · exact HNE.out
    · simp; omega
  have honly : Only (fun b => b = gb ∨ some b = (Value.slice A1 n1 c1).ownBlock) w (w3.setCell ⟨gb, 0, none⟩ (.slice A3 n3 c3)) := ((((Only.refl _ w).alloc _).grown HG3.out fun b hb => .inl (.inr hb)).setCell (.inl (.inl rfl)) _)
  refine ⟨rfl, .slice A3 n3 c3, ⟨?_, ?_, H.out.ownP.only honly fun b hb hF => ?_, hb0⟩, honly.mono fun b hb => ?_, fun b hb => ?_⟩
  · simp [World.setCell, Array.getElem?_modify, HBLK3.out]
  · refine HOWN3.out.mono (setCell_grown gb w3 0 _) ?_ (fun _ h => h.elim)
    exact .inr hne3
  · rcases hF with rfl | e
    · exact H.out.neP hb
    · exact H.out.ownP.ne_type H.out.own (by decide) hb e.symm
  · rcases hb with hb | hb
    · exact .inl hb
    · exact .inr (.inl hb)
  · rcases HAT3.out with e | e
    · exact .inl (e.symm.trans hb)
    · rw [e] at hb
      simp at hb
      exact .inr (by omega)
set_option maxRecDepth 100000 in
set_option maxHeartbeats 2000000 in
theorem addBytesP_ge (base gb : Nat) (v u : Value) (rows prs : List (List Value)) (w : World) (h : BagP w base gb v u rows prs) (hr : 400 ≤ rows.length) (A : Option Addr) (n c : Nat) :
    Calls Tryd.prog 29 #[.pointer (some ⟨gb, 0, none⟩), .slice A n c] w fun e w' => e = .returned (.tuple #[]) ∧ w = w' := by
  have hc0 : w.cell? ⟨gb, 0, none⟩ = some v := cell_of_row w gb 0 _ _ (0, 0) h.blk
  obtain ⟨A1, n1, c1, rfl, hn1, hnc1, hcm1⟩ := h.own.form
  have hn1' : 400 ≤ n1 := by have := hn1.out; omega
  clear h
  go_enter Tryd.func29, Tryd.ntmps29
  go_wp2_with fail
  go_end0
  exact ⟨rfl, rfl⟩
end Go.Proofs.YtebbilkkacbfjaaDoor
