/- Texts that lead to the claim, one behind the other: A folder becomes durable: the walk. Condition: room. -/
import Derived.Test.YtncpeogkccjmcaaGreatDoorTK3
namespace Go.Proofs.YtncpeogkccjmcaaGreatDoor
open Go.RowKit Go.ChangeShapes Go.WideShapes Go.Deep

theorem run_makeMap_n {P : Program} {t k e : TypeId} (ht : P.underlying t = some (.map k e)) (w : World) (n : Nat) : (Instr.makeMap t (some (.int .i64 n))).run P w = .ok (.map (some w.heap.size)) (w.alloc (.map #[] 0)) := by
  simp [Instr.makeMap, run_underlying ht, Result.andThen, asInt, asIntOf]
theorem folder_ne {w : World} {b n d : Nat} {l : Disk.Fo} {loc : Nat → Nat} {cs : Array Value} {e : TypeId} {fr : Nat × Nat} (h : Fol w b n l loc) (hg : w.heap[d]? = some (.cells cs e fr)) : b ≠ d := by
  rintro rfl
  obtain ⟨D, ⟨es, clock, h1, _⟩, _⟩ := h
  rw [hg] at h1
  cases h1
theorem set1_1 {cs : Array Value} {x : Value} (h : 3 ≤ cs.size) : (cs.setIfInBounds 1 x)[1]? = some x := by
  rw [Array.getElem?_setIfInBounds_self, if_pos (by omega)]
theorem set1_2 {cs : Array Value} {x : Value} : (cs.setIfInBounds 1 x)[2]? = cs[2]? := Array.getElem?_setIfInBounds_ne (by omega)
set_option maxRecDepth 100000 in
set_option maxHeartbeats 1000000 in
theorem settled_any (d b n : Nat) (l : Disk.Fo) (loc : Nat → Nat) (cs : Array Value) (w : World) (h : Hid (Fol w b n l loc)) (hr : Hid (Disk.Rising l)) (hl : l.length ≤ 1099511627776)
    (hg : Hid (w.heap[d]? = some (.cells cs 40 (0, 0)))) (h0 : Hid (cs[0]? = some (.map (some b)))) (hsz : Hid (3 ≤ cs.size)) :
    Calls Tryz.prog 22 #[.pointer (some ⟨d, 0, none⟩)] w fun e w' => e = .returned (.tuple #[]) ∧ ∃ b2 n2, w.heap.size ≤ b2 ∧ Fol w' b2 n2 l loc ∧ w'.heap[d]? = some (.cells ((cs.setIfInBounds 1 (.map (some b2))).setIfInBounds 2 (.slice none 0 0)) 40 (0, 0)) ∧ Only (fun x => x = d) w w' := by
  have hd : w.cell? ⟨d, 0, none⟩ = some (.map (some b)) := (cell_of_row w d 0 cs _ (0, 0) hg.out).trans h0.out
  obtain ⟨x1, hx1⟩ : ∃ x1, cs[1]? = some x1 := ⟨_, Array.getElem?_eq_getElem (show 1 < cs.size from by have := hsz.out; omega)⟩
  obtain ⟨x2, hx2⟩ : ∃ x2, cs[2]? = some x2 := ⟨_, Array.getElem?_eq_getElem (show 2 < cs.size from by have := hsz.out; omega)⟩
  have c1 : w.cell? ⟨d, 1, none⟩ = some x1 := (cell_of_row w d 1 cs _ (0, 0) hg.out).trans hx1
  have c2 : w.cell? ⟨d, 2, none⟩ = some x2 := (cell_of_row w d 2 cs _ (0, 0) hg.out).trans hx2
  have hdl : d < w.heap.size := (Array.getElem?_eq_some_iff.1 hg.out).1
  have hne : d ≠ w.heap.size := by omega
  have f1 : w.frozen? ⟨d, 1, none⟩ = false := by simp [World.frozen?, hg.out]
  have f2 : w.frozen? ⟨d, 2, none⟩ = false := by simp [World.frozen?, hg.out]
  have hmm := fun w n => run_makeMap_n (P := Tryz.prog) Tryz.underlying34 w n
  have hlen := fun ty => h.out.lenRun Tryz.underlying34 ty
  go_enter Tryz.func22, Tryz.ntmps22
  have hgs : (w.setCell ⟨d, 1, none⟩ (.map (some w.heap.size))).heap.size = w.heap.size := by simp [World.setCell]
  have hFb : Hid (Fol ((w.setCell ⟨d, 1, none⟩ (.map (some w.heap.size))).alloc (.map #[] 0)) b n l loc) := Lib.hid (h.out.same (by
    have hb := h.out.lt
    have hbd : b ≠ d := folder_ne h.out hg.out
    rw [Below.heap_alloc _ _ b (by rw [hgs]; exact hb)]
    exact Below.heap_setCell _ _ _ b hbd))
  have hF2 : Hid (Fol ((w.setCell ⟨d, 1, none⟩ (.map (some w.heap.size))).alloc (.map #[] 0)) w.heap.size 0 [] loc) := Lib.hid (by
    have := Disk.Folder.made (w.setCell ⟨d, 1, none⟩ (.map (some w.heap.size))) Tryz.prog 9 loc
    rw [hgs] at this
    exact this)
  have hG : Hid (((w.setCell ⟨d, 1, none⟩ (.map (some w.heap.size))).alloc (.map #[] 0)).heap[d]? = some (.cells (cs.setIfInBounds 1 (.map (some w.heap.size))) 40 (0, 0))) := Lib.hid (by
    rw [Below.heap_alloc _ _ d (by rw [hgs]; exact hdl)]
    simp [World.setCell, Array.getElem?_modify, hg.out])
  have hO : Hid (Only (fun x => x = d) w ((w.setCell ⟨d, 1, none⟩ (.map (some w.heap.size))).alloc (.map #[] 0))) := Lib.hid (((Only.refl (fun x => x = d) w).setCell (p := ⟨d, 1, none⟩) (.inl rfl) _).alloc _)
  go_wp2_with (at_range; refine Disk.wpList_range_folder rfl (.tmp 16) 34 rfl 9 80 Tryz.underlying9 Tryz.underlying34 b n l loc rfl hFb.out ?_; intro w1 hg1 hgr1 hs1; have HG1 := Lib.hid hg1; have HR1 := Lib.hid hgr1; have HS1 := Lib.hid hs1; clear hg1 hgr1 hs1)
  obtain ⟨r0, hr0⟩ : ∃ r0, ((w.setCell ⟨d, 1, none⟩ (.map (some w.heap.size))).alloc (.map #[] 0)).heap.size = r0 := ⟨_, rfl⟩
  rw [hr0] at HG1
  have hz : Hid (((w.setCell ⟨d, 1, none⟩ (.map (some w.heap.size))).alloc (.map #[] 0)).heap.size = w.heap.size + 1) := Lib.hid (by simp [hgs])
  have hG1 : Hid (w1.heap[d]? = some (.cells (cs.setIfInBounds 1 (.map (some w.heap.size))) 40 (0, 0))) := Lib.hid ((HR1.out.block d (by rw [hz.out]; omega) (by simp)).trans hG.out)
  have hF1 : Hid (Fol w1 w.heap.size 0 [] loc) := Lib.hid (hF2.out.same (HR1.out.block _ (by rw [hz.out]; omega) (by simp)))
  have hO1 : Hid (Only (fun x => x = d) w w1) := Lib.hid (hO.out.grown HR1.out (by simp))
  go_frame
  rw [hr0]
  have hr1 : w.heap.size + 1 = r0 := hz.out.symm.trans hr0
  have HR0 := Lib.hid hr0
  clear hr0
  go_loopg [2, 3] l.length (fun j _ _ wr => ∃ (q : Nat) (seen : List Disk.Nm) (m : Disk.Fo) (k : Nat), j = q ∧ Hid (k ≤ seen.length) ∧ Hid (Disk.Part l m seen) ∧ Hid (Goi wr b r0 n l loc seen q) ∧ Hid (Fol wr w.heap.size k m loc) ∧ Hid (wr.heap[d]? = some (.cells (cs.setIfInBounds 1 (.map (some w.heap.size))) 40 (0, 0))) ∧ Hid (Only (fun x => x = d) w wr))
  case atStart => exact ⟨_, [], [], 0, rfl, Lib.hid (Nat.le_refl _), Lib.hid (.start l), HG1, hF1, hG1, hO1⟩
  case round =>
    obtain ⟨q, seen, m, k, hj, HK, HP, HG, HF, HD, HO⟩ := hrel
    have hrl := HG.out.lt
    have hrb := HG.out.ne
    have hk1 := HG.out.count
    have hm1 := HF.out.lt
    have hbm : b ≠ w.heap.size := Nat.ne_of_lt h.out.lt
    have hcd : wr.cell? ⟨d, 1, none⟩ = some (.map (some w.heap.size)) := (cell_of_row wr d 1 _ _ (0, 0) HD.out).trans (set1_1 hsz.out)
    have hcz : wr.cell? ⟨d, 2, none⟩ = some x2 := (cell_of_row wr d 2 _ _ (0, 0) HD.out).trans (set1_2.trans hx2)
    have hfz : wr.frozen? ⟨d, 2, none⟩ = false := by simp [World.frozen?, HD.out]
    go_wp2_with (first
      | (at_next; refine Disk.wpList_next_folder rfl (.tmp 17) rfl 9 Tryz.underlying9 b r0 n l loc seen q rfl HG.out (fun h0 ha => ?_) (fun s i w2 cnt2 hss hfi hns hg2 hlt hgr hsz2 hen => ?_); all_goals try (have HF2 : Hid (Fol w2 w.heap.size k m loc) := Lib.hid (HF.out.same (hgr.block _ HF.out.lt (by simp; omega))); have HD2 := Lib.hid ((hgr.block d (by have := HO.out.size; omega) (by simp; omega)).trans HD.out); have hcd2 : w2.cell? ⟨d, 1, none⟩ = some (.map (some w.heap.size)) := (cell_of_row w2 d 1 _ _ (0, 0) HD2.out).trans (set1_1 hsz.out); have HO2 := Lib.hid (HO.out.grown hgr (fun x hx => .inr (by simp at hx; omega))); have HG2 := Lib.hid hg2; have HFI := Lib.hid hfi; have HGR := Lib.hid hgr; clear hg2 hfi hgr))
      | (at_mapUpdate; refine Disk.wpList_put_folder rfl (.tmp 26) (.tmp 27) (.tmp 28) 34 rfl 9 80 Tryz.underlying9 Tryz.underlying34 w.heap.size k m HP.out.1 loc rfl HF2.out (by have := HK.out; simp only [maxLen]; omega) s hss i rfl rfl ?_; intro w3 hf3 hturn3))
    · go_end0
      obtain rfl := HP.out.end_ hr.out ha
      refine ⟨rfl, w.heap.size, k, Nat.le_refl _, HF.out.same (Below.heap_setCell _ _ _ _ (Ne.symm hne)), ?_, HO.out.setCell (.inl rfl) _⟩
      simp [World.setCell, Array.getElem?_modify, HD.out]
    · go_roundg cnt2
      case measure => omega
      case rel =>
        refine ⟨cnt2, _, _, k + 1, rfl, Lib.hid (by simp; exact HK.out), Lib.hid (HP.out.step HFI.out), Lib.hid (HG2.out.same ?_ ?_), Lib.hid hf3, Lib.hid ?_, Lib.hid (HO2.out.trans (only_turned hturn3) fun x hx => .inr (Nat.le_of_eq hx.symm))⟩
        · exact (only_turned hturn3).block b HG2.out.folder.lt hbm
        · exact (only_turned hturn3).block r0 HG2.out.lt (by omega)
        · exact ((only_turned hturn3).block d (Array.getElem?_eq_some_iff.1 HD2.out).1 hne).trans HD2.out
end Go.Proofs.YtncpeogkccjmcaaGreatDoor
