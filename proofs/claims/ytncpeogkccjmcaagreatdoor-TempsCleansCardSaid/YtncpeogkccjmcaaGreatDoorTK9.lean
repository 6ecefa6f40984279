/- Texts that lead to the claim, one behind the other: A change of the folder is done: the walk. Condition: room. -/
import Derived.Test.YtncpeogkccjmcaaGreatDoorTK4
import Derived.Test.YtncpeogkccjmcaaGreatDoorTK7
import Derived.Test.YtncpeogkccjmcaaGreatDoorTK8
import Derived.StillTailTactics
namespace Go.Proofs.YtncpeogkccjmcaaGreatDoor
open Go.RowKit Go.ChangeShapes Go.WideShapes Go.Deep

theorem isEmpty_of {l : List UInt8} (h : l ≠ []) : (⟨l.toArray⟩ : ByteArray).toList.isEmpty = false := by
  rw [ByteArray.toList_eq]
  cases l with
  | nil => exact absurd rfl h
  | cons => rfl
theorem isEmpty_ne {l : List UInt8} (h : l ≠ []) : (⟨l.toArray⟩ : ByteArray).toList ≠ [] := by
  rw [ByteArray.toList_eq]
  exact h
theorem goes_any (c : Disk.Chg) (b n : Nat) (l : Disk.Fo) (loc : Nat → Nat) (w : World) (h : Fol w b n l loc) (hr : Disk.Rising l) (hn : n < 4611686018427387904) (hs : c.src.length ≤ maxLen) (hd : c.dst.length ≤ maxLen) (hsd : c.src ≠ [] ∨ c.dst ≠ []) :
    Calls Tryz.prog 91 #[.agg #[sv c.src, sv c.dst, ptrTo loc c], .map (some b)] w fun e w' => e = .returned (.tuple #[]) ∧ (∃ n', n' ≤ n + 1 ∧ Fol w' b n' (Disk.behind l c) loc) ∧ Only (fun x => x = b) w w' := by
  obtain ⟨src, dst, i⟩ := c
  simp only at hs hd hsd ⊢
  unfold Disk.behind ptrTo
  rcases Decidable.em (src = []) with e1 | e1
  · subst e1
    have e2 : dst ≠ [] := by simpa using hsd
    simp only [if_true, if_neg e2]
    exact (goes_to ⟨dst.toArray⟩ i b n l loc w (Lib.hid h) (Lib.hid hr) hn hd (isEmpty_of e2)).mono fun e w' ⟨h1, h2, h3⟩ => ⟨h1, ⟨_, Nat.le_refl _, h2⟩, h3⟩
  · rcases Decidable.em (dst = []) with e2 | e2
    · subst e2
      simp only [if_true, if_neg e1]
      exact (goes_from ⟨src.toArray⟩ b n _ l loc w (Lib.hid h) (Lib.hid hr) rfl hs (isEmpty_of e1)).mono fun e w' ⟨h1, h2, h3⟩ => ⟨h1, ⟨_, Nat.le_succ _, h2⟩, h3⟩
    · simp only [if_neg e1, if_neg e2]
      exact (goes_both ⟨src.toArray⟩ ⟨dst.toArray⟩ i b n l loc w (Lib.hid h) (Lib.hid hr) hn hs (isEmpty_of e1) hd (isEmpty_of e2)).mono fun e w' ⟨h1, h2, h3⟩ => ⟨h1, ⟨_, Nat.le_refl _, h2⟩, h3⟩
theorem stChg : SliceType Tryz.prog 35 121 3 40 := SliceType.mk' (z := .agg #[.string ⟨#[]⟩, .string ⟨#[]⟩, .pointer none]) Tryz.underlying35 (by kernel_rfl) rfl (by omega)

section
variable {w w' : World} {F G : Blocks} {d : Nat} {s : Disk.St} {loc : Nat → Nat} {blk : Nat → Option Nat} {bn bo : Nat} {rowv : Value} {pA : Option Addr} {pC : Nat}
theorem changes_end {w1 w2 w3 : World} {c : Disk.Chg} {v3 : Value} (h : DiskB w F d s loc blk bn bo rowv pA pC) (hb1 : Below w.heap.size w w1) (hO2 : Only (fun x => x = bn) w1 w2) {k : Nat} (hF2 : ∃ n', n' ≤ k ∧ Fol w2 bn n' (Disk.behind s.now c) loc) (ob : Obj)
    (hg3 : (w2.alloc ob).drew.grownBy w3 rowv.ownBlock) (hat3 : v3.ownBlock = rowv.ownBlock ∨ v3.ownBlock = some (w2.alloc ob).drew.heap.size) (hown3 : Own (Rep.chg loc) 121 w3 0 nob v3 (s.row ++ [c]))
    (hd3 : w3.heap[d]? = some (.cells #[.map (some bn), .map (some bo), rowv, .bool true, .bool s.on, .int .i64 s.room, .slice pA s.plan.length pC, .int .i64 s.tries, .int .i64 s.done] 40 (0, 0))) :
    Ending.returned (.tuple #[]) = .returned (.tuple #[]) ∧ (∃ rowv', DiskB (w3.setCell ⟨d, 2, none⟩ v3) (grow F w (w3.setCell ⟨d, 2, none⟩ v3)) d (s.changes c) loc blk bn bo rowv' pA pC) ∧ Only F w (w3.setCell ⟨d, 2, none⟩ v3) := by
  obtain ⟨n', -, hF2⟩ := hF2
  have hO : Only (fun x => (x = bn ∨ some x = rowv.ownBlock) ∨ x = d) w (w3.setCell ⟨d, 2, none⟩ v3) := by
    refine Only.setCell (((Only.of_below hb1 _).trans (hO2.alloc ob) fun x hx => .inl (.inl (.inl hx))).drewN 1 |>.grown hg3 fun x hx => .inl (.inl (.inr hx))) (.inl (.inr rfl)) _
  have hne : v3.ownBlock ≠ some d := hown3.ne_block hd3 (by decide)
  have hs3 : (w3.setCell ⟨d, 2, none⟩ v3).heap.size = w3.heap.size := by simp [World.setCell]
  have ho3 : Only (fun x => x = d) w3 (w3.setCell ⟨d, 2, none⟩ v3) := Only.setCell (Only.refl (fun x => x = d) _) (.inl rfl) _
  obtain ⟨es, cl, hmap⟩ := folder_map h.now
  refine ⟨rfl, ⟨v3, h.changed c hO ?_ (hF2.same ?_) (hown3.only ho3 fun b hb e => hne (by rw [hb, e])) ?_⟩, hO.mono fun x hx => ?_⟩
  · simp [World.setCell, Array.getElem?_modify, hd3]
  · have h1 : bn < w2.heap.size := hF2.lt
    rw [Below.heap_setCell _ _ _ bn fun e => NoMap.one h.hd bn e _ _ hmap, hg3.block bn (by simp; omega) fun e => NoMap.own h.row bn e _ _ hmap]
    exact Below.heap_alloc w2 ob bn h1
  · rcases hat3 with e | e
    · exact .inl e
    · refine .inr ⟨_, e, ?_, ?_⟩
      · have := hb1.size; have := hO2.size; simp; omega
      · rw [hs3]; exact (hown3.block_lt e).2
  · rcases hx with (e | e) | e
    · exact e ▸ h.Fn
    · exact h.Fr x e.symm
    · exact e ▸ h.Fd
set_option maxRecDepth 100000 in
set_option maxHeartbeats 1000000 in
theorem changes_b (c : Disk.Chg) (H : Hid (DiskB w F d s loc blk bn bo rowv pA pC)) (hf : Hid (Disk.Fine s)) (hs : c.src.length ≤ maxLen) (hd : c.dst.length ≤ maxLen) (hsd : Hid (c.src ≠ [] ∨ c.dst ≠ [])) (hrow : s.row.length ≤ 1099511627776) :
    Calls Tryz.prog 88 #[.pointer (some ⟨d, 0, none⟩), .agg #[sv c.src, sv c.dst, ptrTo loc c]] w fun e w' => e = .returned (.tuple #[]) ∧ (∃ rowv', DiskB w' (grow F w w') d (s.changes c) loc blk bn bo rowv' pA pC) ∧ Only F w w' := by
  have hdl : d < w.heap.size := H.out.lt d H.out.Fd
  have hbl : bn < w.heap.size := H.out.lt bn H.out.Fn
  go_enter Tryz.func88, Tryz.ntmps88
  go_wp2_with fail
  obtain ⟨w1, hw1⟩ : ∃ W, W = w.alloc (.cells #[sv c.src, sv c.dst, ptrTo loc c] 121) := ⟨_, rfl⟩
  have hb1 : Hid (Below w.heap.size w w1) := Lib.hid (by rw [hw1]; exact Below.alloc (Below.refl _ _) (Nat.le_refl _) _)
  have hx1 : Hid (w1.heap[w.heap.size]? = some (.cells #[sv c.src, sv c.dst, ptrTo loc c] 121 (0, 0))) := Lib.hid (by rw [hw1]; exact heap_alloc_new w _)
  have H1 := Lib.hid (H.out.far hb1.out)
  rw [← hw1]
  have hz1 : Hid (w1.heap.size = w.heap.size + 1) := Lib.hid (by rw [hw1]; simp)
  clear hw1
  have c0 := H1.out.cell 0 _ rfl
  have b0 : w1.cell? ⟨w.heap.size, 0, none⟩ = some (sv c.src) := (cell_of_row w1 _ 0 _ _ (0, 0) hx1.out).trans rfl
  have b1 : w1.cell? ⟨w.heap.size, 1, none⟩ = some (sv c.dst) := (cell_of_row w1 _ 1 _ _ (0, 0) hx1.out).trans rfl
  have b2 : w1.cell? ⟨w.heap.size, 2, none⟩ = some (ptrTo loc c) := (cell_of_row w1 _ 2 _ _ (0, 0) hx1.out).trans rfl
  go_still_tail 5, (by kernel_rfl)
  go_wp2_with fail
  refine (goes_any c bn _ _ loc w1.drew (H1.out.now.same (w' := w1.drew) rfl) hf.out.good.nowR (by have := hf.out.nowL; omega) hs hd hsd.out).mono ?_
  rintro e w2 ⟨rfl, hF2, hO2⟩
  have HF2 := Lib.hid hF2
  have HO2 : Hid (Only (fun x => x = bn) w1 w2) := Lib.hid ⟨hO2.os, hO2.tape, hO2.output, hO2.size, hO2.block⟩
  clear hF2 hO2 c0 b0 b1 b2
  obtain ⟨es, cl, hmap⟩ := folder_map H1.out.now
  have hd2 : Hid (w2.heap[d]? = some (.cells #[.map (some bn), .map (some bo), rowv, .bool true, .bool s.on, .int .i64 s.room, .slice pA s.plan.length pC, .int .i64 s.tries, .int .i64 s.done] 40 (0, 0))) :=
    Lib.hid ((HO2.out.block d (Array.getElem?_eq_some_iff.1 H1.out.hd).1 fun e => Other.map hmap _ d e _ _ H1.out.hd).trans H1.out.hd)
  have hx2 : Hid (w2.heap[w.heap.size]? = some (.cells #[sv c.src, sv c.dst, ptrTo loc c] 121 (0, 0))) :=
    Lib.hid ((HO2.out.block _ (Array.getElem?_eq_some_iff.1 hx1.out).1 fun e => Other.map hmap _ _ e _ _ hx1.out).trans hx1.out)
  have HR2 := Lib.hid (H1.out.row_o HO2.out (.map hmap _))
  obtain ⟨rA, rn, rc, rfl, hrn, hrc, hrm⟩ := HR2.out.form
  have c2 : w2.cell? ⟨d, 2, none⟩ = some (.slice rA rn rc) := (cell_of_row w2 _ 2 _ _ (0, 0) hd2.out).trans rfl
  have b0 : w2.cell? ⟨w.heap.size, 0, none⟩ = some (sv c.src) := (cell_of_row w2 _ 0 _ _ (0, 0) hx2.out).trans rfl
  have b1 : w2.cell? ⟨w.heap.size, 1, none⟩ = some (sv c.dst) := (cell_of_row w2 _ 1 _ _ (0, 0) hx2.out).trans rfl
  have b2 : w2.cell? ⟨w.heap.size, 2, none⟩ = some (ptrTo loc c) := (cell_of_row w2 _ 2 _ _ (0, 0) hx2.out).trans rfl
  have hdne : d ≠ w.heap.size := by omega
  have hs2 : Hid (w.heap.size + 1 ≤ w2.heap.size) := Lib.hid (by have := HO2.out.size; have := hz1.out; omega)
  have hs2' := hs2.out
  have k2 : ∀ ob, (w2.alloc ob).cell? ⟨d, 2, none⟩ = some (.slice rA rn rc) := fun ob => (World.cell?_of_block (a := ⟨d, 2, none⟩) (Below.heap_alloc w2 ob d (by omega))).trans c2
  have kb : ∀ ob i, (w2.alloc ob).cell? ⟨w.heap.size, i, none⟩ = w2.cell? ⟨w.heap.size, i, none⟩ := fun ob i => World.cell?_of_block (a := ⟨w.heap.size, i, none⟩) (Below.heap_alloc w2 ob _ (show w.heap.size < w2.heap.size by omega))
  have hdn2 : d ≠ w2.heap.size := by omega
  have hwn2 : w.heap.size ≠ w2.heap.size := by omega
  go_wp2_with fail
  go_region_law ((refine step_append_Own rfl (.tmp 14) (.tmp 16) 35 rfl (Rep.chg loc) 0 121 40 stChg nob (.slice rA rn rc) s.row (by simp [Act.eval]) (HR2.out.far (((Below.refl _ _).alloc (Nat.le_refl _) _).drew)) _ (some ⟨_, 0, none⟩) 1 [c] (by simp [Act.eval]) ((SliceAt.new1 (Rep.chg loc) _ _ _ _ nob ⟨rfl, hs, hd⟩ (fun _ h => h.elim)).drewN 1) nob (fun _ h => h.elim) (fun _ h => h) (fun _ _ h => h) (by simp <;> omega) (by simp <;> omega) (Nat.zero_le _) ?_; intro v3 w3 hown3 hg3 hat3; obtain ⟨A3, n3, c3, rfl, -, -, -⟩ := hown3.form; have HOWN3 := Lib.hid hown3; have hd3 : Hid (w3.heap[d]? = _) := Lib.hid ((hg3.block d (by simp <;> omega) (fun e => HR2.out.ne_block hd2.out (by decide) e.symm)).trans ((Below.block (((Below.refl w2.heap.size w2).alloc (Nat.le_refl _) _).drew) d (by omega)).trans hd2.out)); have c3 := cell_of_row w3 d 2 _ _ (0, 0) hd3.out; have f3 : w3.frozen? ⟨d, 2, none⟩ = false := (by simp [World.frozen?, hd3.out]); have HG3 := Lib.hid hg3; have HAT3 := Lib.hid hat3; simp only [List.getElem?_toArray, List.getElem?_cons_succ, List.getElem?_cons_zero] at c3; clear hown3 hg3 hat3))
  all_goals
    go_end0
    exact changes_end H.out hb1.out HO2.out HF2.out _ HG3.out HAT3.out HOWN3.out hd3.out
end
end Go.Proofs.YtncpeogkccjmcaaGreatDoor
