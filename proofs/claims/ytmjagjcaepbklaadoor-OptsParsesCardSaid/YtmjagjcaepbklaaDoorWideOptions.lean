/- Options handed in with marks behind their lists: the walks of galleyref00's WideOptions and SpareOptions. Conditions: room; the table of powers of ten lies as it is laid. -/
import Derived.Test.YtmjagjcaepbklaaDoorWideParts
import Derived.Test.YtmjagjcaepbklaaDoorOptsParse
import Derived.Test.YtmjagjcaepbklaaDoorOptsPrint
namespace Go.Proofs.YtmjagjcaepbklaaDoor
open Go.RowKit

/-- What WideOptions leaves. -/
structure WOpt (w w' : World) (n m : Nat) (ps : List Opts.Prt) (fs : List ByteArray) (g1 g2 : Nat) : Prop where
  p : Own Rep.prt 38 w' w.heap.size nob (.slice (some ⟨g1, 0, none⟩) (n + 64) (n + 64)) (ps ++ marksPt n)
  f : Own Rep.str 9 w' w.heap.size nob (.slice (some ⟨g2, 0, none⟩) (m + 64) (m + 64)) (fs ++ marksT m)
  b : Below w.heap.size w w'
theorem wopt_result (tmps : Array Value) (w' : World) (G : Nat) (f : Opts.Fl) (v1 v2 : Value) (h : w'.heap[G]? = some (oObj f v1 v2)) (h2 : tmps.getD 2 undef = .pointer (some ⟨G, 0, none⟩)) :
    (results Tryd.f20 tmps).run Tryd.prog w' = .ok (.agg (oCells f v1 v2)) w' := by
  have c0 := cell_of_row w' G 0 _ _ (0, 0) h
  have c1 := cell_of_row w' G 1 _ _ (0, 0) h
  have c2 := cell_of_row w' G 2 _ _ (0, 0) h
  have c3 := cell_of_row w' G 3 _ _ (0, 0) h
  have c4 := cell_of_row w' G 4 _ _ (0, 0) h
  have c5 := cell_of_row w' G 5 _ _ (0, 0) h
  simp [oCells] at c0 c1 c2 c3 c4 c5
  simp only [Array.getD_eq_getD_getElem?] at h2
  simp [results, Tryd.results20, go_sem, oCells, *]
theorem oObj_cells {W : World} {G : Nat} {q e a i : Bool} {v u : Value} (h : W.heap[G]? = some (oObj ⟨q, e, a, i⟩ v u)) : W.cell? ⟨G, 0, none⟩ = some (.bool q) ∧ W.cell? ⟨G, 1, none⟩ = some (.bool e) ∧ W.cell? ⟨G, 2, none⟩ = some (.bool a) ∧ W.cell? ⟨G, 3, none⟩ = some (.bool i) ∧ W.cell? ⟨G, 4, none⟩ = some v ∧ W.cell? ⟨G, 5, none⟩ = some u :=
  ⟨cell_of_row W G 0 _ _ (0, 0) h, cell_of_row W G 1 _ _ (0, 0) h, cell_of_row W G 2 _ _ (0, 0) h, cell_of_row W G 3 _ _ (0, 0) h, cell_of_row W G 4 _ _ (0, 0) h, cell_of_row W G 5 _ _ (0, 0) h⟩
theorem oObj_free {W : World} {G k : Nat} {f : Opts.Fl} {v u : Value} (h : W.heap[G]? = some (oObj f v u)) : W.frozen? ⟨G, k, none⟩ = false := by simp [World.frozen?, h, oObj]
set_option maxRecDepth 100000 in
set_option maxHeartbeats 4000000 in
theorem wideOptions_any (q e a i : Bool) (A C : Option Addr) (n ca m cc : Nat) (ps : List Opts.Prt) (fs : List ByteArray) (w : World) (hn : Hid (n = ps.length)) (hm : Hid (m = fs.length)) (hp : Hid (SliceAt Rep.prt w (under w.heap.size) A ca ps)) (hf : Hid (SliceAt Rep.str w (under w.heap.size) C cc fs)) (hnb : n ≤ 2147483647) (hmb : m ≤ 2147483647) (hT : Hid (Pow w)) :
    Calls Tryd.prog 20 #[.agg #[.bool q, .bool e, .bool a, .bool i, .slice A n ca, .slice C m cc]] w fun r w' => ∃ g1 g2, r = .returned (.agg #[.bool q, .bool e, .bool a, .bool i, .slice (some ⟨g1, 0, none⟩) n (n + 64), .slice (some ⟨g2, 0, none⟩) m (m + 64)]) ∧ WOpt w w' n m ps fs g1 g2 := by
  obtain ⟨W0, hW0⟩ : ∃ W0, W0 = (w.alloc (oObj ⟨q, e, a, i⟩ (.slice A n ca) (.slice C m cc))).alloc (oObj none_ (.slice none 0 0) (.slice none 0 0)) := ⟨_, rfl⟩
  have hs1 : (w.alloc (oObj ⟨q, e, a, i⟩ (.slice A n ca) (.slice C m cc))).heap.size = w.heap.size + 1 := by simp
  have h1 : W0.heap[w.heap.size]? = some (oObj ⟨q, e, a, i⟩ (.slice A n ca) (.slice C m cc)) := by rw [hW0, heap_alloc_old _ _ (by rw [hs1]; omega)]; exact heap_alloc_new _ _
  have h2 : W0.heap[w.heap.size + 1]? = some (oObj none_ (.slice none 0 0) (.slice none 0 0)) := by rw [hW0, ← hs1]; exact heap_alloc_new _ _
  have hs0 : W0.heap.size = w.heap.size + 2 := by rw [hW0]; simp
  have hb0 : Below w.heap.size w W0 := by rw [hW0]; exact ((Below.refl _ _).alloc (Nat.le_refl _) _).alloc (by simp) _
  have H1 := Lib.hid h1
  have H2 := Lib.hid h2
  have HB0 := Lib.hid hb0
  have HW0 := Lib.hid hW0
  have HP := Lib.hid (hp.out.below hb0 (Nat.le_refl _))
  have HF := Lib.hid (hf.out.below hb0 (Nat.le_refl _))
  have HWP : Hid (∀ W, W = W0 → Calls Tryd.prog 54 #[.slice A n ca] W (WidePt W0 n ps)) := Lib.hid fun W hW => by
    subst hW
    exact wideParts_any A n ca ps W _ hn.out HP.out (fun b hb => Nat.lt_of_lt_of_le hb hb0.size) hnb (Lib.hid (hT.out.below hb0))
  obtain ⟨k0, k1, k2, k3, k4, k5⟩ := oObj_cells h1
  clear h1 h2 hb0 hW0 k0 k1 k2 k3 k4 k5
  go_enter Tryd.func20, Tryd.ntmps20
  go_wp2_with fail
  · refine (HWP.out _ HW0.out.symm).mono ?_
    clear HWP
    rintro r w2 ⟨g1, rfl, ho2, hb2⟩
    have HO2 := Lib.hid ho2
    have HB2 := Lib.hid hb2
    have h1 := (hb2.block w.heap.size (by omega)).trans H1.out
    have h2 := (hb2.block (w.heap.size + 1) (by omega)).trans H2.out
    have H1b := Lib.hid h1
    have H2b := Lib.hid h2
    have hz2 := hb2.size
    clear ho2 hb2
    have HX : Hid (W0.heap.size = w.heap.size + 2) := Lib.hid hs0
    obtain ⟨-, -, -, -, k4, k5⟩ := oObj_cells h1
    have f4 := oObj_free (k := 4) h1
    clear h1 h2
    obtain ⟨W2, hW2⟩ : ∃ W2, W2 = w2.setCell ⟨w.heap.size, 4, none⟩ (.slice (some ⟨g1, 0, none⟩) n (n + 64)) := ⟨_, rfl⟩
    have h1 : W2.heap[w.heap.size]? = some (oObj ⟨q, e, a, i⟩ (.slice (some ⟨g1, 0, none⟩) n (n + 64)) (.slice C m cc)) := by rw [hW2]; simp [World.setCell, Array.getElem?_modify, H1b.out, oObj, oCells]
    have h2 : W2.heap[w.heap.size + 1]? = some (oObj none_ (.slice none 0 0) (.slice none 0 0)) := by rw [hW2]; exact (Below.heap_setCell _ _ _ _ (by simp)).trans H2b.out
    have hz3 : W2.heap.size = w2.heap.size := by rw [hW2]; simp [World.setCell]
    have hg2 : w2.grownBy W2 (some w.heap.size) := by rw [hW2]; exact setCell_grown (w.heap.size) w2 4 _
    have hbw2 : Below w.heap.size w W2 := by
      rw [hW2]
      exact (HB0.out.trans (HB2.out.mono HB0.out.size)).setCell (Nat.le_refl _) _
    have hg1 : W0.heap.size ≤ g1 := (HO2.out.block_lt rfl).1
    have hne1 : g1 ≠ w.heap.size := by omega
    have hne1' : g1 ≠ w.heap.size + 1 := by omega
    have hown2 := HO2.out.mono hg2 (.inr (by simp only [Value.ownBlock, ne_eq, Option.some.injEq]; omega)) (fun _ h => h.elim)
    have H1 := Lib.hid h1
    have H2 := Lib.hid h2
    have HOWN2 := Lib.hid hown2
    have HBW2 := Lib.hid hbw2
    have HW2 := Lib.hid hW2
    have HWT : Hid (∀ W, W = W2 → Calls Tryd.prog 13 #[.slice C m cc] W (WideT W2 m fs)) := Lib.hid fun W hW => by
      subst hW
      exact wideTexts_any C m cc fs W _ hm.out (hf.out.below hbw2 (Nat.le_refl _)) (fun b hb => Nat.lt_of_lt_of_le hb hbw2.size) (by omega) (Lib.hid (hT.out.below hbw2))
    clear h1 h2 hown2 hbw2 hW2 hg2 HO2 H1b H2b
    go_wp2_with fail
    · refine (HWT.out _ HW2.out.symm).mono ?_
      clear HWT k4 k5 f4
      rintro r w4 ⟨g2, rfl, ho4, hb4⟩
      have h1 := (hb4.block w.heap.size (by omega)).trans H1.out
      have h2 := (hb4.block (w.heap.size + 1) (by omega)).trans H2.out
      have HO4 := Lib.hid ho4
      have HB4 := Lib.hid (HBW2.out.trans (hb4.mono HBW2.out.size))
      have HP4 := Lib.hid (HOWN2.out.far hb4)
      have hz4 := hb4.size
      have H1b := Lib.hid h1
      have H2b := Lib.hid h2
      clear ho4 hb4
      obtain ⟨k0, k1, k2, k3, k4, k5⟩ := oObj_cells h1
      have f5 := oObj_free (k := 5) h1
      clear h1 h2
      obtain ⟨W4, hW4⟩ : ∃ W4, W4 = w4.setCell ⟨w.heap.size, 5, none⟩ (.slice (some ⟨g2, 0, none⟩) m (m + 64)) := ⟨_, rfl⟩
      have h1 : W4.heap[w.heap.size]? = some (oObj ⟨q, e, a, i⟩ (.slice (some ⟨g1, 0, none⟩) n (n + 64)) (.slice (some ⟨g2, 0, none⟩) m (m + 64))) := by rw [hW4]; simp [World.setCell, Array.getElem?_modify, H1b.out, oObj, oCells]
      have h2 : W4.heap[w.heap.size + 1]? = some (oObj none_ (.slice none 0 0) (.slice none 0 0)) := by rw [hW4]; exact (Below.heap_setCell _ _ _ _ (by simp)).trans H2b.out
      have hz5 : W4.heap.size = w4.heap.size := by rw [hW4]; simp [World.setCell]
      have hg4 : w4.grownBy W4 (some w.heap.size) := by rw [hW4]; exact setCell_grown (w.heap.size) w4 5 _
      have hbw4 : Below w.heap.size w W4 := by
        rw [hW4]
        exact HB4.out.setCell (Nat.le_refl _) _
      have hg22 : W2.heap.size ≤ g2 := (HO4.out.block_lt rfl).1
      have hne2 : g2 ≠ w.heap.size := by omega
      have hne2' : g2 ≠ w.heap.size + 1 := by omega
      have hownP := HP4.out.mono hg4 (.inr (by simp only [Value.ownBlock, ne_eq, Option.some.injEq]; omega)) (fun _ h => h.elim)
      have hownF := HO4.out.mono hg4 (.inr (by simp only [Value.ownBlock, ne_eq, Option.some.injEq]; omega)) (fun _ h => h.elim)
      have H1 := Lib.hid h1
      have H2 := Lib.hid h2
      have HOWP := Lib.hid hownP
      have HOWF := Lib.hid hownF
      have HBW4 := Lib.hid hbw4
      have HW4 := Lib.hid hW4
      · clear h1 h2 hownP hownF hbw4 hg4 HO4 H1b H2b HP4
        rw [HW4.out] at H2
        go_wp2_with (refine wpList_store_opts rfl (.tmp 2) (.tmp 11) rfl (w.heap.size + 1) _ _ _ H2.out rfl ⟨q, e, a, i⟩ _ _ rfl rfl rfl ?_; intro w5 HH5 HG5)
        rw [← HW4.out] at HG5
        refine bodyPost_ret (v := .agg (oCells ⟨q, e, a, i⟩ (.slice (some ⟨g1, 0, none⟩) n (n + 64)) (.slice (some ⟨g2, 0, none⟩) m (m + 64)))) (wopt_result _ w5 (w.heap.size + 1) ⟨q, e, a, i⟩ _ _ HH5.out rfl) rfl ⟨g1, g2, rfl, ?_, ?_, ?_⟩
        · exact (HOWP.out.mono HG5.out (.inr (by simp only [Value.ownBlock, ne_eq, Option.some.injEq]; omega)) (fun _ h => h.elim)).base_le HB0.out.size
        · exact (HOWF.out.mono HG5.out (.inr (by simp only [Value.ownBlock, ne_eq, Option.some.injEq]; omega)) (fun _ h => h.elim)).base_le HBW2.out.size
        · exact HBW4.out.grown HG5.out HBW4.out.size fun b hb => by simp only [Option.some.injEq] at hb; omega
set_option maxRecDepth 100000 in
set_option maxHeartbeats 4000000 in
theorem spareOptions_any (q e a i : Bool) (n m : Nat) (ps : List Opts.Prt) (fs : List ByteArray) (g1 g2 base : Nat) (w : World) (hn : Hid (n = ps.length)) (hm : Hid (m = fs.length))
    (hp : Hid (Own Rep.prt 38 w base nob (.slice (some ⟨g1, 0, none⟩) (n + 64) (n + 64)) (ps ++ marksPt n))) (hf : Hid (Own Rep.str 9 w base nob (.slice (some ⟨g2, 0, none⟩) (m + 64) (m + 64)) (fs ++ marksT m))) (hnb : n ≤ 2147483647) (hmb : m ≤ 2147483647) (hT : Hid (Pow w)) :
    Calls Tryd.prog 22 #[.agg #[.bool q, .bool e, .bool a, .bool i, .slice (some ⟨g1, 0, none⟩) n (n + 64), .slice (some ⟨g2, 0, none⟩) m (m + 64)]] w fun r w' => r = .returned (.bool true) ∧ Below w.heap.size w w' := by
  have HC1 : Hid (∀ W, Below w.heap.size w W → Calls Tryd.prog 55 #[.slice (some ⟨g1, 0, none⟩) n (n + 64)] W fun r w' => r = .returned (.bool true) ∧ Below W.heap.size W w') := Lib.hid fun W hW => by
    obtain ⟨A, c, he, hs⟩ := (hp.out.far hW).slice
    simp only [Value.slice.injEq] at he
    obtain ⟨rfl, -, rfl⟩ := he
    exact spareParts_any g1 n ps W _ hn.out hs (fun b hb => by rcases hb with hb | hb; exact hb.2.1; exact hb.elim) hnb (Lib.hid (hT.out.below hW))
  have HC2 : Hid (∀ W, Below w.heap.size w W → Calls Tryd.prog 16 #[.slice (some ⟨g2, 0, none⟩) m (m + 64)] W fun r w' => r = .returned (.bool true) ∧ Below W.heap.size W w') := Lib.hid fun W hW =>
    spareTexts_any g2 m base fs W hm.out (hf.out.far hW) (by omega) (Lib.hid (hT.out.below hW))
  have hbb := fun o => (Below.refl w.heap.size w).alloc (Nat.le_refl _) o
  have HBB := Lib.hid hbb
  clear hp hf hn hm hT hbb
  go_enter Tryd.func22, Tryd.ntmps22
  go_wp2_with fail
  refine (HC1.out _ (HBB.out _)).mono ?_
  rintro r w2 ⟨rfl, hb2⟩
  have k5 : w2.cell? ⟨w.heap.size, 5, none⟩ = some (.slice (some ⟨g2, 0, none⟩) m (m + 64)) := by
    have hblk := (hb2.block w.heap.size (by simp)).trans (heap_alloc_new w (.cells #[.bool q, .bool e, .bool a, .bool i, .slice (some ⟨g1, 0, none⟩) n (n + 64), .slice (some ⟨g2, 0, none⟩) m (m + 64)] 25))
    exact cell_of_row w2 _ 5 _ _ (0, 0) hblk
  have HB2 := Lib.hid ((HBB.out _).trans (hb2.mono (HBB.out _).size))
  clear hb2
  go_wp2_with fail
  refine (HC2.out _ HB2.out).mono ?_
  rintro r w3 ⟨rfl, hb3⟩
  have HB3 := Lib.hid (HB2.out.trans (hb3.mono HB2.out.size))
  clear hb3
  go_wp2_with fail
  go_ret
  exact ⟨rfl, HB3.out⟩
end Go.Proofs.YtmjagjcaepbklaaDoor
