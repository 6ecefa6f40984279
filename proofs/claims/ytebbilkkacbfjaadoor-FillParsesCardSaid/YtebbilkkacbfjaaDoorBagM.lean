/- A bag of rows of marks: marks put into it, and the look at shared memory (printed by gen/bagk.py). Conditions: rows of the run's own, each in a block of its own; room. -/
import Derived.Test.YtebbilkkacbfjaaDoorBag
import Derived.Test.YtebbilkkacbfjaaDoorBagMarks
import Derived.Test.YtebbilkkacbfjaaDoorPieces
namespace Go.Proofs.YtebbilkkacbfjaaDoor
open Go.RowKit

/-- A bag that holds rows of marks alone. -/
abbrev bagM (v : Value) : Obj := .cells #[.slice none 0 0, .slice none 0 0, .slice none 0 0, .slice none 0 0, v, .slice none 0 0, .slice none 0 0, .slice none 0 0, .slice none 0 0, .slice none 0 0, .slice none 0 0, .slice none 0 0, .slice none 0 0, .slice none 0 0, .slice none 0 0, .slice none 0 0, .slice none 0 0, .slice none 0 0, .slice none 0 0] 56
/-- .. as it stands: which rows. -/
structure BagM (w : World) (base gb : Nat) (v : Value) (rows : List (List Value)) : Prop where
  blk : w.heap[gb]? = some (bagM v)
  own : Own Rep.val 22 w base nob v rows
  hb : base ≤ gb
theorem BagM.ne {w : World} {base gb : Nat} {v : Value} {rows : List (List Value)} (h : BagM w base gb v rows) : v.ownBlock ≠ some gb := h.own.ne_block h.blk (by decide)
theorem BagM.far {w w' : World} {base gb : Nat} {v : Value} {rows : List (List Value)} (h : BagM w base gb v rows) (hb : Below w.heap.size w w') : BagM w' base gb v rows :=
  ⟨(hb.block _ (Array.getElem?_eq_some_iff.1 h.blk).1).trans h.blk, h.own.far hb, h.hb⟩
theorem BagM.start (w : World) (base : Nat) (hb : base ≤ w.heap.size) : BagM (w.alloc (bagM (.slice none 0 0))) base w.heap.size (.slice none 0 0) [] := ⟨heap_alloc_new _ _, Own.nil _ _ _ _, hb⟩
set_option maxRecDepth 100000 in
set_option maxHeartbeats 2000000 in
theorem addMarks_at (base gb : Nat) (v : Value) (rows : List (List Value)) (w : World) (h : BagM w base gb v rows) (hr : rows.length < 400) (A : Option Addr) (n c : Nat) :
    Calls Tryd.prog 36 #[.pointer (some ⟨gb, 0, none⟩), .slice A n c] w fun e w' => e = .returned (.tuple #[]) ∧ ∃ v', BagM w' base gb v' (rows ++ [[.slice A n c]]) ∧ Only (fun b => b = gb ∨ some b = v.ownBlock) w w' ∧ ∀ b, v'.ownBlock = some b → v.ownBlock = some b ∨ w.heap.size ≤ b := by
  have hne := h.ne
  have hc0 : w.cell? ⟨gb, 4, none⟩ = some v := cell_of_row w gb 4 _ _ (0, 0) h.blk
  obtain ⟨A1, n1, c1, rfl, hn1, hnc1, hcm1⟩ := h.own.form
  have hn1' : n1 < 400 := by have := hn1.out; omega
  have hsz : gb < w.heap.size := (Array.getElem?_eq_some_iff.1 h.blk).1
  have hb0 := h.hb
  have H := Lib.hid h
  have HNE := Lib.hid hne
  clear h hne
  go_enter Tryd.func36, Tryd.ntmps36
  go_wp2_with (at_builtin; refine wpList_append_Own _ rfl (.tmp 14) (.tmp 16) 40 rfl Rep.val base 22 24 stRowsM nob (.slice A1 n1 c1) rows rfl (H.out.own.alloc _) _ _ _ [[_]] rfl (SliceAt.newOne Rep.val _ _ _ _ _ ⟨rfl, rfl, by simp [Value.oneCell']⟩ (by simp)) nob (fun _ h => h.elim) (fun _ h => h) (fun _ _ h => h) (by simp <;> omega) (by simp <;> omega) (by simp <;> omega) ?_; intro v3 w3 hown3 hg3 hat3; obtain ⟨A3, n3, c3, rfl, -, -, -⟩ := hown3.form; have hblk3 := (hg3.block gb (by simp <;> omega) (fun e => HNE.out e.symm)).trans ((Below.heap_alloc w _ gb hsz).trans H.out.blk); have hc3 : w3.cell? ⟨gb, 4, none⟩ = some (.slice A1 n1 c1) := cell_of_row w3 gb 4 _ _ (0, 0) hblk3; have hf3 : w3.frozen? ⟨gb, 4, none⟩ = false := (by simp [World.frozen?, hblk3]); have HOWN3 := Lib.hid hown3; have HG3 := Lib.hid hg3; have HAT3 := Lib.hid hat3; have HBLK3 := Lib.hid hblk3; clear hown3 hg3 hat3 hblk3)
  go_end0
  have hne3 : (Value.slice A3 n3 c3).ownBlock ≠ some gb := by
    rcases HAT3.out with e | e <;> rw [e]
    · exact HNE.out
    · simp; omega
  refine ⟨rfl, .slice A3 n3 c3, ⟨?_, ?_, hb0⟩, ?_, fun b hb => ?_⟩
  · simp [World.setCell, Array.getElem?_modify, HBLK3.out]
  · refine HOWN3.out.mono (setCell_grown gb w3 4 _) ?_ (fun _ h => h.elim)
    exact .inr hne3
  · exact ((((Only.refl _ w).alloc _).grown HG3.out fun b hb => .inl (.inr hb)).setCell (.inl (.inl rfl)) _)
  · rcases HAT3.out with e | e
    · exact .inl (e.symm.trans hb)
    · rw [e] at hb
      simp at hb
      exact .inr (by omega)
theorem addMarks_any (base gb : Nat) (v : Value) (rows : List (List Value)) (w : World) (h : BagM w base gb v rows) (hr : rows.length < 400) (A : Option Addr) (n c : Nat) :
    Calls Tryd.prog 36 #[.pointer (some ⟨gb, 0, none⟩), .slice A n c] w fun e w' => e = .returned (.tuple #[]) ∧ ∃ v', BagM w' base gb v' (rows ++ [[.slice A n c]]) ∧ Only (fun b => b = gb ∨ some b = v.ownBlock) w w' :=
  (addMarks_at base gb v rows w h hr A n c).mono fun _ _ ⟨he, v', h1, h2, _⟩ => ⟨he, v', h1, h2⟩
/-- Rows of marks, each in a block of its own: they share no memory. -/
theorem apart_marksO (base gb : Nat) (v : Value) (es : List Ent) (w : World) (h : BagM w base gb v (es.map fun x => [Ent.v x])) (h0 : 0 < es.length) (hN : es.length ≤ 65536) (hown : ∀ x ∈ es, ∃ l : List Mark, Own Rep.mark 34 w base nob (Ent.v x) l) (hk : ∀ x ∈ es, x.2.1 ≤ 1099511627776)
    (hd : es.Pairwise fun a b => ∀ q, (Ent.v a).ownBlock = some q → (Ent.v b).ownBlock ≠ some q) :
    Calls Tryd.prog 16 #[.pointer (some ⟨gb, 0, none⟩)] w fun e w' => e = .returned (.bool true) ∧ Only (fun b => ∃ x ∈ es, (Ent.v x).ownBlock = some b) w w' := by
  have hR := rows0_of hown hd
  have hr : ∀ b, RowB es.length (fun m => .slice (entA es m) (entN es m) (entC es m)) b → ∃ x ∈ es, (Ent.v x).ownBlock = some b := fun b ⟨m, hm, hb⟩ => ⟨es[m], List.getElem_mem hm, by simp only [ent_v es hm] at hb; exact hb⟩
  have hgb : ¬ RowB es.length (fun m => .slice (entA es m) (entN es m) (entC es m)) gb := fun hb => by
    obtain ⟨x, hx, hb⟩ := hr gb hb
    obtain ⟨l, hl⟩ := hown x hx
    exact hl.ne_block h.blk (by decide) hb
  obtain ⟨A, n, c, rfl, hn, hnc, hcm⟩ := h.own.form
  have en : n = es.length := by rw [hn.out]; simp
  subst en
  obtain ⟨x, hx⟩ : ∃ x, es[0]? = some x := ⟨_, List.getElem?_eq_getElem h0⟩
  obtain ⟨gB, c', he, -, -, -⟩ := h.own.cell1 (i := 0) (by simpa using h0) (x := Ent.v x) (by simp [hx])
  simp only [Value.slice.injEq] at he
  obtain ⟨rfl, -, rfl⟩ := he
  have hgB : ¬ RowB es.length (fun m => .slice (entA es m) (entN es m) (entC es m)) gB := fun hb => by
    obtain ⟨x, hx, hb⟩ := hr gB hb
    obtain ⟨l, hl⟩ := hown x hx
    exact h.own.ne_type hl (by decide) rfl hb
  have hnil : ∀ W, Only (RowB es.length (fun m => .slice (entA es m) (entN es m) (entC es m))) w W → W.heap[gb]? = some (bagM (.slice (some ⟨gB, 0, none⟩) es.length c)) := fun W ho => (ho.block gb (Array.getElem?_eq_some_iff.1 h.blk).1 hgb).trans h.blk
  have hbs : base ≤ w.heap.size := Nat.le_trans h.hb (Nat.le_of_lt (Array.getElem?_eq_some_iff.1 h.blk).1)
  refine (apart_all gb (fun i W => if i ≤ 4 then W = w else Only (RowB es.length (fun m => .slice (entA es m) (entN es m) (entC es m))) w W) w rfl
    (Lib.hid fun W (ho : W = w) => (apartBytes_nil gb W (cell_of_row W gb 0 _ _ (0, 0) (by rw [ho]; exact h.blk))).mono fun e w' h => ⟨h.1, show w' = w from h.2 ▸ ho⟩)
    (Lib.hid fun W (ho : W = w) => (apartInts_nil gb W (cell_of_row W gb 1 _ _ (0, 0) (by rw [ho]; exact h.blk))).mono fun e w' h => ⟨h.1, show w' = w from h.2 ▸ ho⟩)
    (Lib.hid fun W (ho : W = w) => (apartBools_nil gb W (cell_of_row W gb 2 _ _ (0, 0) (by rw [ho]; exact h.blk))).mono fun e w' h => ⟨h.1, show w' = w from h.2 ▸ ho⟩)
    (Lib.hid fun W (ho : W = w) => (apartTexts_nil gb W (cell_of_row W gb 3 _ _ (0, 0) (by rw [ho]; exact h.blk))).mono fun e w' h => ⟨h.1, show w' = w from h.2 ▸ ho⟩)
    (Lib.hid fun W (ho : W = w) => ?_)
    (Lib.hid fun W ho => (apartSpans_nil gb W (cell_of_row W gb 5 _ _ (0, 0) (hnil W ho))).mono fun _ _ h => ⟨h.1, h.2 ▸ ho⟩)
    (Lib.hid fun W ho => (apartRuns_nil gb W (cell_of_row W gb 6 _ _ (0, 0) (hnil W ho))).mono fun _ _ h => ⟨h.1, h.2 ▸ ho⟩)
    (Lib.hid fun W ho => (apartClasses_nil gb W (cell_of_row W gb 7 _ _ (0, 0) (hnil W ho))).mono fun _ _ h => ⟨h.1, h.2 ▸ ho⟩)
    (Lib.hid fun W ho => (apartNodes_nil gb W (cell_of_row W gb 8 _ _ (0, 0) (hnil W ho))).mono fun _ _ h => ⟨h.1, h.2 ▸ ho⟩)
    (Lib.hid fun W ho => (apartInstrs_nil gb W (cell_of_row W gb 9 _ _ (0, 0) (hnil W ho))).mono fun _ _ h => ⟨h.1, h.2 ▸ ho⟩)
    (Lib.hid fun W ho => (apartFaults_nil gb W (cell_of_row W gb 10 _ _ (0, 0) (hnil W ho))).mono fun _ _ h => ⟨h.1, h.2 ▸ ho⟩)
    (Lib.hid fun W ho => (apartNotes_nil gb W (cell_of_row W gb 11 _ _ (0, 0) (hnil W ho))).mono fun _ _ h => ⟨h.1, h.2 ▸ ho⟩)
    (Lib.hid fun W ho => (apartParts_nil gb W (cell_of_row W gb 12 _ _ (0, 0) (hnil W ho))).mono fun _ _ h => ⟨h.1, h.2 ▸ ho⟩)
    (Lib.hid fun W ho => (apartRows_nil gb W (cell_of_row W gb 13 _ _ (0, 0) (hnil W ho))).mono fun _ _ h => ⟨h.1, h.2 ▸ ho⟩)
    (Lib.hid fun W ho => (apartIntss_nil gb W (cell_of_row W gb 14 _ _ (0, 0) (hnil W ho))).mono fun _ _ h => ⟨h.1, h.2 ▸ ho⟩)
    (Lib.hid fun W ho => (apartSpanss_nil gb W (cell_of_row W gb 15 _ _ (0, 0) (hnil W ho))).mono fun _ _ h => ⟨h.1, h.2 ▸ ho⟩)
    (Lib.hid fun W ho => (apartPieces_nil gb W (cell_of_row W gb 16 _ _ (0, 0) (hnil W ho))).mono fun _ _ h => ⟨h.1, h.2 ▸ ho⟩)
    (Lib.hid fun W ho => (apartFiles_nil gb W (cell_of_row W gb 17 _ _ (0, 0) (hnil W ho))).mono fun _ _ h => ⟨h.1, h.2 ▸ ho⟩)
    (Lib.hid fun W ho => (apartCmds_nil gb W (cell_of_row W gb 18 _ _ (0, 0) (hnil W ho))).mono fun _ _ h => ⟨h.1, h.2 ▸ ho⟩)
    ).mono ?_
  · subst ho
    have hrow : ∀ m, m < es.length → W.cell? ⟨gB, m, none⟩ = some (.slice (entA es m) (entN es m) (entC es m)) := fun m hm => by
      obtain ⟨g', c', he, -, -, hq⟩ := h.own.cell1 (i := m) (by simpa using hm) (x := Ent.v es[m]) (by simp [hm])
      simp only [Value.slice.injEq, Option.some.injEq, Addr.mk.injEq] at he
      obtain ⟨⟨rfl, -⟩, -, -⟩ := he
      rw [ent_v es hm]
      exact hq
    exact apartMarks_any gb gB c es.length (entA es) (entN es) (entC es) W base (cell_of_row W gb 4 _ _ (0, 0) h.blk) hN hnc hcm hrow hR hbs hgb hgB fun m hm => by
      have := hk es[m] (List.getElem_mem hm)
      simpa [entN, List.getD_eq_getElem?_getD, hm] using this
  · rintro e w' ⟨rfl, ho⟩
    have ho : Only _ w w' := ho
    exact ⟨rfl, ho.mono hr⟩
end Go.Proofs.YtebbilkkacbfjaaDoor
