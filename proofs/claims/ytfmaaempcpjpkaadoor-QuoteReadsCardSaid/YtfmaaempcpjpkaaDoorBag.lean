/- A bag of rows: bytes put into it, and the look at shared memory. Conditions: rows of the run's own, each in a block of its own; room. -/
import Derived.Test.YtfmaaempcpjpkaaDoorProg
import Derived.Test.YtfmaaempcpjpkaaDoorBagNil
import Derived.Test.YtfmaaempcpjpkaaDoorBagBytes
import Derived.Test.YtfmaaempcpjpkaaDoorRws
namespace Go.Proofs.YtfmaaempcpjpkaaDoor
open Go.RowKit

/-- A bag that holds rows of bytes alone. -/
abbrev bagB (v : Value) : Obj := .cells #[v, .slice none 0 0, .slice none 0 0, .slice none 0 0, .slice none 0 0, .slice none 0 0, .slice none 0 0, .slice none 0 0, .slice none 0 0, .slice none 0 0, .slice none 0 0, .slice none 0 0, .slice none 0 0, .slice none 0 0, .slice none 0 0, .slice none 0 0, .slice none 0 0, .slice none 0 0, .slice none 0 0] 48
/-- .. as it stands: which rows. -/
structure BagB (w : World) (base gb : Nat) (v : Value) (rows : List (List Value)) : Prop where
  blk : w.heap[gb]? = some (bagB v)
  own : Own Rep.val 23 w base nob v rows
  hb : base ≤ gb
theorem BagB.ne {w : World} {base gb : Nat} {v : Value} {rows : List (List Value)} (h : BagB w base gb v rows) : v.ownBlock ≠ some gb := h.own.ne_block h.blk (by decide)
theorem BagB.far {w w' : World} {base gb : Nat} {v : Value} {rows : List (List Value)} (h : BagB w base gb v rows) (hb : Below w.heap.size w w') : BagB w' base gb v rows :=
  ⟨(hb.block _ (Array.getElem?_eq_some_iff.1 h.blk).1).trans h.blk, h.own.far hb, h.hb⟩
theorem BagB.start (w : World) (base : Nat) (hb : base ≤ w.heap.size) : BagB (w.alloc (bagB (.slice none 0 0))) base w.heap.size (.slice none 0 0) [] := ⟨heap_alloc_new _ _, Own.nil _ _ _ _, hb⟩
set_option maxRecDepth 100000 in
set_option maxHeartbeats 2000000 in
theorem addBytes_at (base gb : Nat) (v : Value) (rows : List (List Value)) (w : World) (h : BagB w base gb v rows) (hr : rows.length < 400) (A : Option Addr) (n c : Nat) :
    Calls Tryd.prog 13 #[.pointer (some ⟨gb, 0, none⟩), .slice A n c] w fun e w' => e = .returned (.tuple #[]) ∧ ∃ v', BagB w' base gb v' (rows ++ [[.slice A n c]]) ∧ Only (fun b => b = gb ∨ some b = v.ownBlock) w w' ∧ ∀ b, v'.ownBlock = some b → v.ownBlock = some b ∨ w.heap.size ≤ b := by
  have hne := h.ne
  have hc0 : w.cell? ⟨gb, 0, none⟩ = some v := cell_of_row w gb 0 _ _ (0, 0) h.blk
  obtain ⟨A1, n1, c1, rfl, hn1, hnc1, hcm1⟩ := h.own.form
  have hn1' : n1 < 400 := by have := hn1.out; omega
  have hsz : gb < w.heap.size := (Array.getElem?_eq_some_iff.1 h.blk).1
  have hb0 := h.hb
  have H := Lib.hid h
  have HNE := Lib.hid hne
  clear h hne
  go_enter Tryd.func13, Tryd.ntmps13
  go_wp2_with (at_builtin; refine wpList_append_Own _ rfl (.tmp 14) (.tmp 16) 28 rfl Rep.val base 23 24 stRowsB nob (.slice A1 n1 c1) rows rfl (H.out.own.alloc _) _ _ _ [[_]] rfl (SliceAt.newOne Rep.val _ _ _ _ _ ⟨rfl, rfl, by simp [Value.oneCell']⟩ (by simp)) nob (fun _ h => h.elim) (fun _ h => h) (fun _ _ h => h) (by simp <;> omega) (by simp <;> omega) (by simp <;> omega) ?_; intro v3 w3 hown3 hg3 hat3; obtain ⟨A3, n3, c3, rfl, -, -, -⟩ := hown3.form; have hblk3 := (hg3.block gb (by simp <;> omega) (fun e => HNE.out e.symm)).trans ((Below.heap_alloc w _ gb hsz).trans H.out.blk); have hc3 : w3.cell? ⟨gb, 0, none⟩ = some (.slice A1 n1 c1) := cell_of_row w3 gb 0 _ _ (0, 0) hblk3; have hf3 : w3.frozen? ⟨gb, 0, none⟩ = false := (by simp [World.frozen?, hblk3]); have HOWN3 := Lib.hid hown3; have HG3 := Lib.hid hg3; have HAT3 := Lib.hid hat3; have HBLK3 := Lib.hid hblk3; clear hown3 hg3 hat3 hblk3)
  go_end0
  have hne3 : (Value.slice A3 n3 c3).ownBlock ≠ some gb := by
    rcases HAT3.out with e | e <;> rw [e]
    · exact HNE.out
    · simp; omega
  refine ⟨rfl, .slice A3 n3 c3, ⟨?_, ?_, hb0⟩, ?_, fun b hb => ?_⟩
  · simp [World.setCell, Array.getElem?_modify, HBLK3.out]
  · refine HOWN3.out.mono (setCell_grown gb w3 0 _) ?_ (fun _ h => h.elim)
    exact .inr hne3
  · exact ((((Only.refl _ w).alloc _).grown HG3.out fun b hb => .inl (.inr hb)).setCell (.inl (.inl rfl)) _)
  · rcases HAT3.out with e | e
    · exact .inl (e.symm.trans hb)
    · rw [e] at hb
      simp at hb
      exact .inr (by omega)
theorem addBytes_any (base gb : Nat) (v : Value) (rows : List (List Value)) (w : World) (h : BagB w base gb v rows) (hr : rows.length < 400) (A : Option Addr) (n c : Nat) :
    Calls Tryd.prog 13 #[.pointer (some ⟨gb, 0, none⟩), .slice A n c] w fun e w' => e = .returned (.tuple #[]) ∧ ∃ v', BagB w' base gb v' (rows ++ [[.slice A n c]]) ∧ Only (fun b => b = gb ∨ some b = v.ownBlock) w w' :=
  (addBytes_at base gb v rows w h hr A n c).mono fun _ _ ⟨he, v', h1, h2, _⟩ => ⟨he, v', h1, h2⟩
set_option maxRecDepth 100000 in
set_option maxHeartbeats 4000000 in
/-- The look at shared memory, at each kind of rows. -/
theorem apart_all (gb : Nat) (J : Nat → World → Prop) (w : World) (hJ : J 0 w)
    (hBytes : Hid (∀ W, J 0 W → Calls Tryd.prog 28 #[.pointer (some ⟨gb, 0, none⟩)] W fun e w' => e = .returned (.bool true) ∧ J 1 w'))
    (hInts : Hid (∀ W, J 1 W → Calls Tryd.prog 29 #[.pointer (some ⟨gb, 0, none⟩)] W fun e w' => e = .returned (.bool true) ∧ J 2 w'))
    (hBools : Hid (∀ W, J 2 W → Calls Tryd.prog 30 #[.pointer (some ⟨gb, 0, none⟩)] W fun e w' => e = .returned (.bool true) ∧ J 3 w'))
    (hTexts : Hid (∀ W, J 3 W → Calls Tryd.prog 31 #[.pointer (some ⟨gb, 0, none⟩)] W fun e w' => e = .returned (.bool true) ∧ J 4 w'))
    (hMarks : Hid (∀ W, J 4 W → Calls Tryd.prog 32 #[.pointer (some ⟨gb, 0, none⟩)] W fun e w' => e = .returned (.bool true) ∧ J 5 w'))
    (hSpans : Hid (∀ W, J 5 W → Calls Tryd.prog 33 #[.pointer (some ⟨gb, 0, none⟩)] W fun e w' => e = .returned (.bool true) ∧ J 6 w'))
    (hRuns : Hid (∀ W, J 6 W → Calls Tryd.prog 34 #[.pointer (some ⟨gb, 0, none⟩)] W fun e w' => e = .returned (.bool true) ∧ J 7 w'))
    (hClasses : Hid (∀ W, J 7 W → Calls Tryd.prog 35 #[.pointer (some ⟨gb, 0, none⟩)] W fun e w' => e = .returned (.bool true) ∧ J 8 w'))
    (hNodes : Hid (∀ W, J 8 W → Calls Tryd.prog 36 #[.pointer (some ⟨gb, 0, none⟩)] W fun e w' => e = .returned (.bool true) ∧ J 9 w'))
    (hInstrs : Hid (∀ W, J 9 W → Calls Tryd.prog 37 #[.pointer (some ⟨gb, 0, none⟩)] W fun e w' => e = .returned (.bool true) ∧ J 10 w'))
    (hFaults : Hid (∀ W, J 10 W → Calls Tryd.prog 38 #[.pointer (some ⟨gb, 0, none⟩)] W fun e w' => e = .returned (.bool true) ∧ J 11 w'))
    (hNotes : Hid (∀ W, J 11 W → Calls Tryd.prog 39 #[.pointer (some ⟨gb, 0, none⟩)] W fun e w' => e = .returned (.bool true) ∧ J 12 w'))
    (hParts : Hid (∀ W, J 12 W → Calls Tryd.prog 40 #[.pointer (some ⟨gb, 0, none⟩)] W fun e w' => e = .returned (.bool true) ∧ J 13 w'))
    (hRows : Hid (∀ W, J 13 W → Calls Tryd.prog 41 #[.pointer (some ⟨gb, 0, none⟩)] W fun e w' => e = .returned (.bool true) ∧ J 14 w'))
    (hIntss : Hid (∀ W, J 14 W → Calls Tryd.prog 42 #[.pointer (some ⟨gb, 0, none⟩)] W fun e w' => e = .returned (.bool true) ∧ J 15 w'))
    (hSpanss : Hid (∀ W, J 15 W → Calls Tryd.prog 43 #[.pointer (some ⟨gb, 0, none⟩)] W fun e w' => e = .returned (.bool true) ∧ J 16 w'))
    (hPieces : Hid (∀ W, J 16 W → Calls Tryd.prog 44 #[.pointer (some ⟨gb, 0, none⟩)] W fun e w' => e = .returned (.bool true) ∧ J 17 w'))
    (hFiles : Hid (∀ W, J 17 W → Calls Tryd.prog 45 #[.pointer (some ⟨gb, 0, none⟩)] W fun e w' => e = .returned (.bool true) ∧ J 18 w'))
    (hCmds : Hid (∀ W, J 18 W → Calls Tryd.prog 46 #[.pointer (some ⟨gb, 0, none⟩)] W fun e w' => e = .returned (.bool true) ∧ J 19 w'))
    : Calls Tryd.prog 14 #[.pointer (some ⟨gb, 0, none⟩)] w fun e w' => e = .returned (.bool true) ∧ J 19 w' := by
  have HO0 := Lib.hid hJ
  clear hJ
  go_enter Tryd.func14, Tryd.ntmps14
  go_wp2_with fail
  refine (hBytes.out _ HO0.out).mono ?_
  rintro e w1 ⟨rfl, ho⟩
  have HO1 := Lib.hid ho
  clear ho
  go_wp2_with fail
  refine (hInts.out _ HO1.out).mono ?_
  rintro e w2 ⟨rfl, ho⟩
  have HO2 := Lib.hid ho
  clear ho
  go_wp2_with fail
  refine (hBools.out _ HO2.out).mono ?_
  rintro e w3 ⟨rfl, ho⟩
  have HO3 := Lib.hid ho
  clear ho
  go_wp2_with fail
  refine (hTexts.out _ HO3.out).mono ?_
  rintro e w4 ⟨rfl, ho⟩
  have HO4 := Lib.hid ho
  clear ho
  go_wp2_with fail
  refine (hMarks.out _ HO4.out).mono ?_
  rintro e w5 ⟨rfl, ho⟩
  have HO5 := Lib.hid ho
  clear ho
  go_wp2_with fail
  refine (hSpans.out _ HO5.out).mono ?_
  rintro e w6 ⟨rfl, ho⟩
  have HO6 := Lib.hid ho
  clear ho
  go_wp2_with fail
  refine (hRuns.out _ HO6.out).mono ?_
  rintro e w7 ⟨rfl, ho⟩
  have HO7 := Lib.hid ho
  clear ho
  go_wp2_with fail
  refine (hClasses.out _ HO7.out).mono ?_
  rintro e w8 ⟨rfl, ho⟩
  have HO8 := Lib.hid ho
  clear ho
  go_wp2_with fail
  refine (hNodes.out _ HO8.out).mono ?_
  rintro e w9 ⟨rfl, ho⟩
  have HO9 := Lib.hid ho
  clear ho
  go_wp2_with fail
  refine (hInstrs.out _ HO9.out).mono ?_
  rintro e w10 ⟨rfl, ho⟩
  have HO10 := Lib.hid ho
  clear ho
  go_wp2_with fail
  refine (hFaults.out _ HO10.out).mono ?_
  rintro e w11 ⟨rfl, ho⟩
  have HO11 := Lib.hid ho
  clear ho
  go_wp2_with fail
  refine (hNotes.out _ HO11.out).mono ?_
  rintro e w12 ⟨rfl, ho⟩
  have HO12 := Lib.hid ho
  clear ho
  go_wp2_with fail
  refine (hParts.out _ HO12.out).mono ?_
  rintro e w13 ⟨rfl, ho⟩
  have HO13 := Lib.hid ho
  clear ho
  go_wp2_with fail
  refine (hRows.out _ HO13.out).mono ?_
  rintro e w14 ⟨rfl, ho⟩
  have HO14 := Lib.hid ho
  clear ho
  go_wp2_with fail
  refine (hIntss.out _ HO14.out).mono ?_
  rintro e w15 ⟨rfl, ho⟩
  have HO15 := Lib.hid ho
  clear ho
  go_wp2_with fail
  refine (hSpanss.out _ HO15.out).mono ?_
  rintro e w16 ⟨rfl, ho⟩
  have HO16 := Lib.hid ho
  clear ho
  go_wp2_with fail
  refine (hPieces.out _ HO16.out).mono ?_
  rintro e w17 ⟨rfl, ho⟩
  have HO17 := Lib.hid ho
  clear ho
  go_wp2_with fail
  refine (hFiles.out _ HO17.out).mono ?_
  rintro e w18 ⟨rfl, ho⟩
  have HO18 := Lib.hid ho
  clear ho
  go_wp2_with fail
  refine (hCmds.out _ HO18.out).mono ?_
  rintro e w19 ⟨rfl, ho⟩
  have HO19 := Lib.hid ho
  clear ho
  go_wp2_with fail
  go_ret
  exact ⟨rfl, HO19.out⟩
/-- Rows of bytes, each in a block of its own: they share no memory. -/
theorem apart_bytesO (base gb : Nat) (v : Value) (es : List Ent) (w : World) (h : BagB w base gb v (es.map fun x => [Ent.v x])) (h0 : 0 < es.length) (hN : es.length ≤ 65536) (hown : ∀ x ∈ es, ∃ l : List UInt8, Own Rep.byte 5 w base nob (Ent.v x) l) (hk : ∀ x ∈ es, x.2.1 ≤ 1099511627776)
    (hd : es.Pairwise fun a b => ∀ q, (Ent.v a).ownBlock = some q → (Ent.v b).ownBlock ≠ some q) :
    Calls Tryd.prog 14 #[.pointer (some ⟨gb, 0, none⟩)] w fun e w' => e = .returned (.bool true) ∧ Only (fun b => ∃ x ∈ es, (Ent.v x).ownBlock = some b) w w' := by
  have hR := rows0_of hown hd
  have hr : ∀ b, RowB es.length (fun m => .slice (entA es m) (entN es m) (entC es m)) b → ∃ x ∈ es, (Ent.v x).ownBlock = some b := fun b ⟨m, hm, hb⟩ => ⟨es[m], List.getElem_mem hm, by simp only [ent_v es hm] at hb; exact hb⟩
  have hgb : ¬ RowB es.length (fun m => .slice (entA es m) (entN es m) (entC es m)) gb := fun hb => by
    obtain ⟨x, hx, hb⟩ := hr gb hb
    obtain ⟨l, hl⟩ := hown x hx
    exact hl.ne_block h.blk (by decide) hb
  obtain ⟨A, n, c, rfl, hn, hnc, hcm⟩ := h.own.form
  have en : n = es.length := by rw [hn.out]; simp
  subst en
  obtain ⟨x, hx⟩ : ∃ x, es[0]? = some x := ⟨_, List.getElem?_eq_getElem h0⟩
  obtain ⟨gB, c', he, -, -, -⟩ := h.own.cell1 (i := 0) (by simpa using h0) (x := Ent.v x) (by simp [hx])
  simp only [Value.slice.injEq] at he
  obtain ⟨rfl, -, rfl⟩ := he
  have hgB : ¬ RowB es.length (fun m => .slice (entA es m) (entN es m) (entC es m)) gB := fun hb => by
    obtain ⟨x, hx, hb⟩ := hr gB hb
    obtain ⟨l, hl⟩ := hown x hx
    exact h.own.ne_type hl (by decide) rfl hb
  have hnil : ∀ W, Only (RowB es.length (fun m => .slice (entA es m) (entN es m) (entC es m))) w W → W.heap[gb]? = some (bagB (.slice (some ⟨gB, 0, none⟩) es.length c)) := fun W ho => (ho.block gb (Array.getElem?_eq_some_iff.1 h.blk).1 hgb).trans h.blk
  have hbs : base ≤ w.heap.size := Nat.le_trans h.hb (Nat.le_of_lt (Array.getElem?_eq_some_iff.1 h.blk).1)
  refine (apart_all gb (fun i W => if i = 0 then W = w else Only (RowB es.length (fun m => .slice (entA es m) (entN es m) (entC es m))) w W) w rfl (Lib.hid fun W (ho : W = w) => ?_)
    (Lib.hid fun W ho => (apartInts_nil gb W (cell_of_row W gb 1 _ _ (0, 0) (hnil W ho))).mono fun _ _ h => ⟨h.1, h.2 ▸ ho⟩)
    (Lib.hid fun W ho => (apartBools_nil gb W (cell_of_row W gb 2 _ _ (0, 0) (hnil W ho))).mono fun _ _ h => ⟨h.1, h.2 ▸ ho⟩)
    (Lib.hid fun W ho => (apartTexts_nil gb W (cell_of_row W gb 3 _ _ (0, 0) (hnil W ho))).mono fun _ _ h => ⟨h.1, h.2 ▸ ho⟩)
    (Lib.hid fun W ho => (apartMarks_nil gb W (cell_of_row W gb 4 _ _ (0, 0) (hnil W ho))).mono fun _ _ h => ⟨h.1, h.2 ▸ ho⟩)
    (Lib.hid fun W ho => (apartSpans_nil gb W (cell_of_row W gb 5 _ _ (0, 0) (hnil W ho))).mono fun _ _ h => ⟨h.1, h.2 ▸ ho⟩)
    (Lib.hid fun W ho => (apartRuns_nil gb W (cell_of_row W gb 6 _ _ (0, 0) (hnil W ho))).mono fun _ _ h => ⟨h.1, h.2 ▸ ho⟩)
    (Lib.hid fun W ho => (apartClasses_nil gb W (cell_of_row W gb 7 _ _ (0, 0) (hnil W ho))).mono fun _ _ h => ⟨h.1, h.2 ▸ ho⟩)
    (Lib.hid fun W ho => (apartNodes_nil gb W (cell_of_row W gb 8 _ _ (0, 0) (hnil W ho))).mono fun _ _ h => ⟨h.1, h.2 ▸ ho⟩)
    (Lib.hid fun W ho => (apartInstrs_nil gb W (cell_of_row W gb 9 _ _ (0, 0) (hnil W ho))).mono fun _ _ h => ⟨h.1, h.2 ▸ ho⟩)
    (Lib.hid fun W ho => (apartFaults_nil gb W (cell_of_row W gb 10 _ _ (0, 0) (hnil W ho))).mono fun _ _ h => ⟨h.1, h.2 ▸ ho⟩)
    (Lib.hid fun W ho => (apartNotes_nil gb W (cell_of_row W gb 11 _ _ (0, 0) (hnil W ho))).mono fun _ _ h => ⟨h.1, h.2 ▸ ho⟩)
    (Lib.hid fun W ho => (apartParts_nil gb W (cell_of_row W gb 12 _ _ (0, 0) (hnil W ho))).mono fun _ _ h => ⟨h.1, h.2 ▸ ho⟩)
    (Lib.hid fun W ho => (apartRows_nil gb W (cell_of_row W gb 13 _ _ (0, 0) (hnil W ho))).mono fun _ _ h => ⟨h.1, h.2 ▸ ho⟩)
    (Lib.hid fun W ho => (apartIntss_nil gb W (cell_of_row W gb 14 _ _ (0, 0) (hnil W ho))).mono fun _ _ h => ⟨h.1, h.2 ▸ ho⟩)
    (Lib.hid fun W ho => (apartSpanss_nil gb W (cell_of_row W gb 15 _ _ (0, 0) (hnil W ho))).mono fun _ _ h => ⟨h.1, h.2 ▸ ho⟩)
    (Lib.hid fun W ho => (apartPieces_nil gb W (cell_of_row W gb 16 _ _ (0, 0) (hnil W ho))).mono fun _ _ h => ⟨h.1, h.2 ▸ ho⟩)
    (Lib.hid fun W ho => (apartFiles_nil gb W (cell_of_row W gb 17 _ _ (0, 0) (hnil W ho))).mono fun _ _ h => ⟨h.1, h.2 ▸ ho⟩)
    (Lib.hid fun W ho => (apartCmds_nil gb W (cell_of_row W gb 18 _ _ (0, 0) (hnil W ho))).mono fun _ _ h => ⟨h.1, h.2 ▸ ho⟩)
    ).mono ?_
  · subst ho
    have hrow : ∀ m, m < es.length → W.cell? ⟨gB, m, none⟩ = some (.slice (entA es m) (entN es m) (entC es m)) := fun m hm => by
      obtain ⟨g', c', he, -, -, hq⟩ := h.own.cell1 (i := m) (by simpa using hm) (x := Ent.v es[m]) (by simp [hm])
      simp only [Value.slice.injEq, Option.some.injEq, Addr.mk.injEq] at he
      obtain ⟨⟨rfl, -⟩, -, -⟩ := he
      rw [ent_v es hm]
      exact hq
    exact apartBytes_any gb gB c es.length (entA es) (entN es) (entC es) W base (cell_of_row W gb 0 _ _ (0, 0) h.blk) hN hnc hcm hrow hR hbs hgb hgB fun m hm => by
      have := hk es[m] (List.getElem_mem hm)
      simpa [entN, List.getD_eq_getElem?_getD, hm] using this
  · rintro e w' ⟨rfl, ho⟩
    have ho : Only _ w w' := ho
    exact ⟨rfl, ho.mono hr⟩
theorem apart_bytes (base gb : Nat) (v : Value) (es : List Ent) (w : World) (h : BagB w base gb v (es.map fun x => [Ent.v x])) (h0 : 0 < es.length) (hN : es.length ≤ 65536) (hown : ∀ x ∈ es, ∃ l : List UInt8, Own Rep.byte 5 w base nob (Ent.v x) l) (hk : ∀ x ∈ es, x.2.1 ≤ 1099511627776)
    (hd : es.Pairwise fun a b => ∀ q, (Ent.v a).ownBlock = some q → (Ent.v b).ownBlock ≠ some q) :
    Calls Tryd.prog 14 #[.pointer (some ⟨gb, 0, none⟩)] w fun e w' => e = .returned (.bool true) ∧ Below base w w' :=
  (apart_bytesO base gb v es w h h0 hN hown hk hd).mono fun _ _ ⟨he, ho⟩ => ⟨he, ho.below (Nat.le_trans h.hb (Nat.le_of_lt (Array.getElem?_eq_some_iff.1 h.blk).1)) fun b ⟨x, hx, hb⟩ => by
      obtain ⟨l, hl⟩ := hown x hx
      exact (hl.block_lt hb).1⟩
/-- An empty bag. -/
theorem apart_none (gb : Nat) (w : World) (h : w.heap[gb]? = some (bagB (.slice none 0 0))) : Calls Tryd.prog 14 #[.pointer (some ⟨gb, 0, none⟩)] w fun e w' => e = .returned (.bool true) ∧ w' = w := by
  have hk : ∀ {W : World}, W = w → W.heap[gb]? = some (bagB (.slice none 0 0)) := fun h' => h' ▸ h
  exact apart_all gb (fun _ W => W = w) w rfl
    (Lib.hid fun W ho => (apartBytes_nil gb W (cell_of_row W gb 0 _ _ (0, 0) (hk ho))).mono fun _ _ h => ⟨h.1, h.2 ▸ ho⟩)
    (Lib.hid fun W ho => (apartInts_nil gb W (cell_of_row W gb 1 _ _ (0, 0) (hk ho))).mono fun _ _ h => ⟨h.1, h.2 ▸ ho⟩)
    (Lib.hid fun W ho => (apartBools_nil gb W (cell_of_row W gb 2 _ _ (0, 0) (hk ho))).mono fun _ _ h => ⟨h.1, h.2 ▸ ho⟩)
    (Lib.hid fun W ho => (apartTexts_nil gb W (cell_of_row W gb 3 _ _ (0, 0) (hk ho))).mono fun _ _ h => ⟨h.1, h.2 ▸ ho⟩)
    (Lib.hid fun W ho => (apartMarks_nil gb W (cell_of_row W gb 4 _ _ (0, 0) (hk ho))).mono fun _ _ h => ⟨h.1, h.2 ▸ ho⟩)
    (Lib.hid fun W ho => (apartSpans_nil gb W (cell_of_row W gb 5 _ _ (0, 0) (hk ho))).mono fun _ _ h => ⟨h.1, h.2 ▸ ho⟩)
    (Lib.hid fun W ho => (apartRuns_nil gb W (cell_of_row W gb 6 _ _ (0, 0) (hk ho))).mono fun _ _ h => ⟨h.1, h.2 ▸ ho⟩)
    (Lib.hid fun W ho => (apartClasses_nil gb W (cell_of_row W gb 7 _ _ (0, 0) (hk ho))).mono fun _ _ h => ⟨h.1, h.2 ▸ ho⟩)
    (Lib.hid fun W ho => (apartNodes_nil gb W (cell_of_row W gb 8 _ _ (0, 0) (hk ho))).mono fun _ _ h => ⟨h.1, h.2 ▸ ho⟩)
    (Lib.hid fun W ho => (apartInstrs_nil gb W (cell_of_row W gb 9 _ _ (0, 0) (hk ho))).mono fun _ _ h => ⟨h.1, h.2 ▸ ho⟩)
    (Lib.hid fun W ho => (apartFaults_nil gb W (cell_of_row W gb 10 _ _ (0, 0) (hk ho))).mono fun _ _ h => ⟨h.1, h.2 ▸ ho⟩)
    (Lib.hid fun W ho => (apartNotes_nil gb W (cell_of_row W gb 11 _ _ (0, 0) (hk ho))).mono fun _ _ h => ⟨h.1, h.2 ▸ ho⟩)
    (Lib.hid fun W ho => (apartParts_nil gb W (cell_of_row W gb 12 _ _ (0, 0) (hk ho))).mono fun _ _ h => ⟨h.1, h.2 ▸ ho⟩)
    (Lib.hid fun W ho => (apartRows_nil gb W (cell_of_row W gb 13 _ _ (0, 0) (hk ho))).mono fun _ _ h => ⟨h.1, h.2 ▸ ho⟩)
    (Lib.hid fun W ho => (apartIntss_nil gb W (cell_of_row W gb 14 _ _ (0, 0) (hk ho))).mono fun _ _ h => ⟨h.1, h.2 ▸ ho⟩)
    (Lib.hid fun W ho => (apartSpanss_nil gb W (cell_of_row W gb 15 _ _ (0, 0) (hk ho))).mono fun _ _ h => ⟨h.1, h.2 ▸ ho⟩)
    (Lib.hid fun W ho => (apartPieces_nil gb W (cell_of_row W gb 16 _ _ (0, 0) (hk ho))).mono fun _ _ h => ⟨h.1, h.2 ▸ ho⟩)
    (Lib.hid fun W ho => (apartFiles_nil gb W (cell_of_row W gb 17 _ _ (0, 0) (hk ho))).mono fun _ _ h => ⟨h.1, h.2 ▸ ho⟩)
    (Lib.hid fun W ho => (apartCmds_nil gb W (cell_of_row W gb 18 _ _ (0, 0) (hk ho))).mono fun _ _ h => ⟨h.1, h.2 ▸ ho⟩)
/-- Rows of bytes stay, where a bag takes one. -/
theorem Rws.bag {w wr w' : World} {es : List (Ent × List UInt8)} {gb : Nat} {v : Value} {rows : List (List Value)} (h : Rws 5 w wr es) (hb : BagB wr w.heap.size gb v rows) (ho : Only (fun b => b = gb ∨ some b = v.ownBlock) wr w') : Rws 5 w w' es :=
  h.only ho (fun b hF => by
    rcases hF with rfl | hF
    · exact hb.hb
    · exact (hb.own.block_lt hF.symm).1) fun x hx b hv hF => by
      rcases hF with rfl | hF
      · exact (h.own x hx).ne_block hb.blk (by decide) hv
      · exact (h.own x hx).ne_type hb.own (by decide) hv hF.symm
end Go.Proofs.YtfmaaempcpjpkaaDoor
