/- Texts that lead to the claim, one behind the other: What an output holds is handed on: the walks of (outs.Out).handOn, its deferred closure. Condition: the counts are below 2^40. -/
import Derived.Test.YtfommpbblpnljaaIM31
import Derived.StillTailTactics
import Derived.Test.YtfommpbblpnljaaIM32
namespace Go.Proofs.Ytfommpbblpnljaa
open Go.RowKit Go.ChangeShapes Go.WideShapes Go.Deep

theorem boxed_far' {W : World} {b g i : Nat} {ty : TypeId} {v u : Value} (h : Boxed W b ty v) (hne : b ≠ g) : Boxed (W.setCell ⟨g, i, none⟩ u) b ty v := (Below.heap_setCell _ _ _ _ hne).trans h
theorem eSink : ∀ args w, (callFunc 31 args).run Try.prog w = .ok (.enter 31 args) w := enters_of Try.func31 (by kernel_rfl) rfl
section
variable {w w' : World} {F X G : Blocks} {d : Nat} {s : Disk.St} {t : Disk.Nm} {o dB tB : Nat} {ou : Disk.Ou} {A : Option Addr} {c : Nat} {cnt : Int}
set_option maxRecDepth 100000 in
set_option maxHeartbeats 2000000 in
/-- The deferred closure: nothing is held any more. -/
theorem handOn_def (b0 b1 g n c : Nat) (sk : Value) (er cnt : Int) (m : Nat) (u : FrameMode) (h0 : Boxed w b0 33 (.pointer (some ⟨o, 0, none⟩))) (h1 : Boxed w b1 3 (.int .i64 m))
    (ho : w.heap[o]? = some (.cells #[.int .i64 64, sk, .slice (some ⟨g, 0, none⟩) n c, .int .i64 er, .int .i64 cnt] 106 (0, 0))) (_ : n ≤ c) :
    CallsD Try.prog 71 #[.pointer (some ⟨b0, 0, none⟩), .pointer (some ⟨b1, 0, none⟩)] u w fun e u' w' => u' = u ∧ e = .returned (.tuple #[]) ∧ (∃ cnt', w'.heap[o]? = some (.cells #[.int .i64 64, sk, .slice (some ⟨g, 0, none⟩) 0 c, .int .i64 er, .int .i64 cnt'] 106 (0, 0))) ∧ Only (fun b => b = o) w w' := by
  have c0 := h0.cell
  have c1 := h1.cell
  have k2 : w.cell? ⟨o, 2, none⟩ = some (.slice (some ⟨g, 0, none⟩) n c) := (cell_of_row w o 2 _ _ (0, 0) ho).trans rfl
  have k3 : w.cell? ⟨o, 3, none⟩ = some (.int .i64 er) := (cell_of_row w o 3 _ _ (0, 0) ho).trans rfl
  have k4 : w.cell? ⟨o, 4, none⟩ = some (.int .i64 cnt) := (cell_of_row w o 4 _ _ (0, 0) ho).trans rfl
  have kf : ∀ i, w.frozen? ⟨o, i, none⟩ = false := fun i => by simp [World.frozen?, ho]
  go_enter_d Try.func71, Try.ntmps71
  have HO := Lib.hid ho
  have h0o : b0 ≠ o := ne_cells h0 ho (by decide)
  have h1o : b1 ≠ o := ne_cells h1 ho (by decide)
  obtain ⟨W, hW⟩ : ∃ W, W = (w.setCell ⟨o, 2, none⟩ (.slice (some ⟨g, 0, none⟩) 0 c)).drew := ⟨_, rfl⟩
  have hWo : W.heap[o]? = some (.cells #[.int .i64 64, sk, .slice (some ⟨g, 0, none⟩) 0 c, .int .i64 er, .int .i64 cnt] 106 (0, 0)) := by rw [hW]; simp [World.setCell, World.drew, Array.getElem?_modify, ho]
  have hWO : Only (fun b => b = o) w W := by rw [hW]; exact (Only.setCell (Only.refl (fun b => b = o) w) (.inl rfl) _).drewN 1
  have hW0 : Boxed W b0 33 (.pointer (some ⟨o, 0, none⟩)) := (hWO.block b0 h0.lt h0o).trans h0
  have hW1 : Boxed W b1 3 (.int .i64 m) := (hWO.block b1 h1.lt h1o).trans h1
  have HWO := Lib.hid hWO
  have HWOO := Lib.hid hWo
  clear ho h0 h1 h0o h1o hWO
  by_cases her : er = 0
  · subst her
    go_wp2_with fail
    go_still_tail 8, (by kernel_rfl)
    go_wp2_with fail
    rw [← hW]
    have d0 := hW0.cell
    have d1 := hW1.cell
    have d4 : W.cell? ⟨o, 4, none⟩ = some (.int .i64 cnt) := (cell_of_row W o 4 _ _ (0, 0) hWo).trans rfl
    have df : ∀ i, W.frozen? ⟨o, i, none⟩ = false := fun i => by simp [World.frozen?, hWo]
    clear c0 c1 k2 k3 k4 kf hW hWo hW0 hW1
    go_still_tail 8, (by kernel_rfl)
    go_wp2_with fail
    go_end0
    refine ⟨rfl, ⟨wrap64 (cnt + m), ?_⟩, (HWO.out.setCell (.inl rfl) _).drewN 1⟩
    have := HWOO.out
    simp [World.setCell, World.drew, Array.getElem?_modify, this]
  · have hb : (er == 0) = false := beq_eq_false_iff_ne.2 her
    go_wp2_with fail
    go_still_tail 8, (by kernel_rfl)
    go_wp2_with fail
    rw [← hW]
    go_end0
    exact ⟨rfl, ⟨cnt, HWOO.out⟩, HWO.out⟩
set_option linter.unusedSimpArgs false in
set_option maxRecDepth 100000 in
set_option maxHeartbeats 4000000 in
theorem handOn_some (H : Hid (OutB w F X G d s t o dB tB ou A c cnt)) (hf : Hid (Disk.Fine s)) {k : Nat} (hk : Hid (Disk.Small k s)) (hkb : k ≤ 1099511627776) (ht : t.length ≤ maxLen) (hne : Hid (ou.held ≠ [])) (hlen : ou.held.length ≤ 1099511627776) :
    Calls Try.prog 65 #[.pointer (some ⟨o, 0, none⟩)] w (OutCall w G d t o dB tB (s.handOn t ou)) := by
  obtain ⟨m, hm⟩ : ∃ m, m = ou.held.length := ⟨_, rfl⟩
  have hmf : ∀ (fn : Fn) (first cap : Array Value) (w : World), (Instr.makeFunc fn first cap).run Try.prog w = .ok (.func fn first cap) w := fun _ _ _ _ => rfl
  have k2 : w.cell? ⟨o, 2, none⟩ = some (.slice A m c) := by rw [hm]; exact (cell_of_row w o 2 _ _ (0, 0) H.out.out).trans rfl
  have hm0 : (m == 0) = false := by
    rw [beq_eq_false_iff_ne, hm]
    intro e
    exact hne.out (List.eq_nil_of_length_eq_zero e)
  have hm1 : 1 ≤ m := by have : m ≠ 0 := by simpa using hm0
                         omega
  have hmc : m ≤ c := by
    obtain ⟨A', c', he, hs⟩ := H.out.held.slice
    simp only [Value.slice.injEq] at he
    obtain ⟨rfl, -, rfl⟩ := he
    rw [hm]; exact hs.len
  have HM := Lib.hid hm
  rw [← hm] at hlen
  clear hm
  have hol : o < w.heap.size := (H.out.ub o H.out.Xo).1
  go_enter_defers Try.func65, Try.ntmps65
  go_wp2_with fail
  obtain ⟨W, hW⟩ : ∃ W, W = (w.alloc (.cells #[.pointer (some ⟨o, 0, none⟩)] 33)).alloc (.cells #[.int .i64 (m : Nat)] 3) := ⟨_, rfl⟩
  have hbW : Below w.heap.size w W := by rw [hW]; exact Below.alloc (Below.alloc (Below.refl _ _) (Nat.le_refl _) _) (by simp) _
  have b0 : Boxed W w.heap.size 33 (.pointer (some ⟨o, 0, none⟩)) := by rw [hW]; exact (Boxed.new w _ _).alloc _
  have b1 : Boxed W (w.heap.size + 1) 3 (.int .i64 (m : Nat)) := by
    rw [hW]
    have := Boxed.new (w.alloc (.cells #[.pointer (some ⟨o, 0, none⟩)] 33)) 3 (.int .i64 (m : Nat))
    rwa [World.size_alloc] at this
  rw [← hW]
  have HW := Lib.hid (H.out.far hbW)
  have HBW := Lib.hid hbW
  have HB0 := Lib.hid b0
  have HB1 := Lib.hid b1
  have HSZ : Hid (W.heap.size = w.heap.size + 2) := Lib.hid (by rw [hW]; simp)
  -- what the loads read, in whatever world
  have HL : Hid (∀ w1 : World, (∀ b, b = o ∨ b = w.heap.size → w1.heap[b]? = W.heap[b]?) → w1.cell? ⟨w.heap.size, 0, none⟩ = some (.pointer (some ⟨o, 0, none⟩)) ∧ w1.cell? ⟨o, 1, none⟩ = some (sinkV dB tB) ∧ w1.cell? ⟨o, 2, none⟩ = some (.slice A m c) ∧ w1.cell? ⟨o, 3, none⟩ = some (.int .i64 ou.err) ∧ ∀ i, w1.frozen? ⟨o, i, none⟩ = false) := Lib.hid fun w1 hw1 => by
    have h1 : w1.heap[o]? = _ := (hw1 o (.inl rfl)).trans HW.out.out
    have h2 : Boxed w1 w.heap.size 33 (.pointer (some ⟨o, 0, none⟩)) := (hw1 _ (.inr rfl)).trans b0
    refine ⟨h2.cell, (cell_of_row w1 o 1 _ _ (0, 0) h1).trans rfl, ?_, (cell_of_row w1 o 3 _ _ (0, 0) h1).trans rfl, fun i => by simp [World.frozen?, h1]⟩
    rw [HM.out]; exact (cell_of_row w1 o 2 _ _ (0, 0) h1).trans rfl
  clear hW hbW b0 b1 k2 hmf hm0 hol
  have HCL : Hid (∀ u, Below W.heap.size W u → Calls Try.prog 45 #[.slice A m c] u fun e w' => ∃ A' c', e = .returned (.slice A' m c') ∧ m ≤ c' ∧ c' ≤ 9223372036854775807 ∧ SliceAt Rep.byte w' (btw W.heap.size w'.heap.size) A' c' ou.held ∧ Below W.heap.size W w') := Lib.hid fun u hu => by
    obtain ⟨A1, c1, he, hs⟩ := HW.out.held.slice
    simp only [Value.slice.injEq] at he
    obtain ⟨rfl, -, rfl⟩ := he
    have hSl : ∀ b, (fun b => (0 ≤ b ∧ b < W.heap.size ∧ (Value.slice A ou.held.length c).ownBlock = some b) ∨ nob b) b → b < W.heap.size := fun b hb => hb.elim (fun h => h.2.1) fun h => h.elim
    refine (cloneBytes A m c ou.held u _ HM (Lib.hid (hs.keep (fun _ h => h) (Same.of_below hu fun b hb => ?_))) (Lib.hid fun b hb => ?_) hlen).mono ?_
    · rcases hb with hb | hb
      · exact hb.2.1
      · exact hb.elim
    · rcases hb with hb | hb
      · exact Nat.lt_of_lt_of_le hb.2.1 hu.size
      · exact hb.elim
    · rintro e w' ⟨A', c', rfl, h1, h2, h3, h4⟩
      obtain ⟨A2, c2, he2, hs2⟩ := h3.slice
      simp only [Value.slice.injEq] at he2
      obtain ⟨rfl, -, rfl⟩ := he2
      refine ⟨A', c', rfl, h1, h2, hs2.up fun b hb => ?_, hu.trans (h4.mono hu.size)⟩
      rcases hb with hb | hb
      · exact ⟨Nat.le_trans hu.size hb.1, hb.2.1⟩
      · exact hb.elim
  have HSK : Hid (∀ u A' c', Below W.heap.size W u → SliceAt Rep.byte u (btw W.heap.size u.heap.size) A' c' ou.held → Calls Try.prog 31 (#[.slice A' m c'] ++ #[.pointer (some ⟨dB, 0, none⟩), .pointer (some ⟨tB, 0, none⟩)]) u fun e w' => DiskCall u F d (s.append t ou.held) e w') := Lib.hid fun u A' c' hu hs =>
    sink_any (Lib.hid (HW.out.far hu)) hf hk hkb ht A' m c' ou.held _ HM (Lib.hid hs) (Lib.hid fun b hb => ⟨hb.2, fun h => by
      obtain ⟨loc, blk, bn, bo, rowv, pA, pC, hB⟩ := HW.out.disk
      have := hB.lt b h
      have := hb.1
      omega⟩) hlen
  obtain ⟨r, hr⟩ : ∃ r, r = s.append t ou.held := ⟨_, rfl⟩
  rw [← hr] at HSK
  obtain ⟨q, hq⟩ : ∃ q, q = r.2 := ⟨_, rfl⟩
  have HR := Lib.hid hr
  have HQ := Lib.hid hq
  clear hr hq
  obtain ⟨k0, k1, k2, k3, kf⟩ := HL.out W fun _ _ => rfl
  unfold sinkV at k1
  have HLT : Hid (∀ b, b = o ∨ b = w.heap.size → b < W.heap.size ∧ ¬ F b) := Lib.hid fun b hb => by
    rcases hb with rfl | rfl
    · exact HW.out.ub _ HW.out.Xo
    · refine ⟨by rw [HSZ.out]; omega, fun h => ?_⟩
      have := H.out.lt _ (H.out.gf _ h); omega
  have HBX : Hid (∀ w2 w3, Below W.heap.size W w2 → DiskCall w2 F d r (.returned (.int .i64 q)) w3 → (∃ F', OutB w3 F' X (grow G w w3) d r.1 t o dB tB ou A c cnt) ∧ Boxed w3 w.heap.size 33 (.pointer (some ⟨o, 0, none⟩)) ∧ Boxed w3 (w.heap.size + 1) 3 (.int .i64 (m : Nat)) ∧ Only G w w3) := Lib.hid fun w2 w3 h1 h2 => by
    have h3 := H.out.far (HBW.out.trans (h1.mono HBW.out.size))
    obtain ⟨-, h4, h5⟩ := h3.call h2
    have hso : ∀ b, b < W.heap.size → ¬ F b → w3.heap[b]? = W.heap[b]? := fun b hb hf => (h2.2.2.block b (Nat.lt_of_lt_of_le hb h1.size) hf).trans (h1.block b hb)
    have hnf : ∀ b, w.heap.size ≤ b → ¬ F b := fun b hb h => by have := H.out.lt _ (H.out.gf _ h); omega
    refine ⟨⟨_, h4.up (G' := grow G w w3) (fun b hb => grow_grow (Nat.le_trans HBW.out.size h1.size) h2.2.2.size b hb) (grow_lt H.out.lt (Nat.le_trans HBW.out.size (Nat.le_trans h1.size h2.2.2.size)))⟩, (hso _ (by rw [HSZ.out]; omega) (hnf _ (Nat.le_refl _))).trans HB0.out, (hso _ (by rw [HSZ.out]; omega) (hnf _ (by omega))).trans HB1.out, ?_⟩
    exact (Only.of_below (HBW.out.trans (h1.mono HBW.out.size)) G).trans (h2.2.2.mono H.out.gf) fun x hx => .inl hx
  clear HB0 HB1
  go_cut [] from 12 (fun wc => ∃ F', Hid (OutB wc F' X (grow G w wc) d r.1 t o dB tB ⟨ou.held, q⟩ A c cnt) ∧ Hid (Boxed wc w.heap.size 33 (.pointer (some ⟨o, 0, none⟩))) ∧ Hid (Boxed wc (w.heap.size + 1) 3 (.int .i64 (m : Nat))) ∧ Hid (Only G w wc))
  case first =>
    have HK0 := Lib.hid (And.intro k0 (And.intro k1 k2))
    refine wp_region_noPanic ?_
    refine wp_region_held_drew (S := fun u => u.cell? ⟨w.heap.size, 0, none⟩ = some (.pointer (some ⟨o, 0, none⟩)) ∧ u.cell? ⟨o, 1, none⟩ = some (.func (.func 31) #[] #[.pointer (some ⟨dB, 0, none⟩), .pointer (some ⟨tB, 0, none⟩)]) ∧ u.cell? ⟨o, 2, none⟩ = some (.slice A m c)) (by kernel_rfl) HK0.out (fun hHeld => ?_)
    refine wpAnyH_take (i := 0) (v := ?_) rfl (by kernel_rfl) (by kernel_rfl) (by kernel_rfl) (fun _ _ _ h => h) (Or.inl ⟨by rfl, ?_⟩) (by assumption) ?_
    rotate_left 1
    · (intro w hSw; (try dsimp only at hSw); go_simp <;> (try with_reducible rfl))
    try simp only [Act.put, List.setIfInBounds_toArray, List.set_cons_zero, List.set_cons_succ]
    refine wpAnyH_take (i := 1) (v := ?_) rfl (by kernel_rfl) (by kernel_rfl) (by kernel_rfl) (fun _ _ _ h => h) (Or.inl ⟨by rfl, ?_⟩) (by assumption) ?_
    rotate_left 1
    · (intro w hSw; (try dsimp only at hSw); go_simp <;> (try with_reducible rfl))
    try simp only [Act.put, List.setIfInBounds_toArray, List.set_cons_zero, List.set_cons_succ]
    refine wpAnyH_take (i := 2) (v := ?_) rfl (by kernel_rfl) (by kernel_rfl) (by kernel_rfl) (fun _ _ _ h => h) (Or.inl ⟨by rfl, ?_⟩) (by assumption) ?_
    rotate_left 1
    · (intro w hSw; (try dsimp only at hSw); go_simp <;> (try with_reducible rfl))
    try simp only [Act.put, List.setIfInBounds_toArray, List.set_cons_zero, List.set_cons_succ]
    refine wpAnyH_take (i := 3) (v := ?_) rfl (by kernel_rfl) (by kernel_rfl) (by kernel_rfl) (fun _ _ _ h => h) (Or.inl ⟨by rfl, ?_⟩) (by assumption) ?_
    rotate_left 1
    · (intro w hSw; (try dsimp only at hSw); go_simp <;> (try with_reducible rfl))
    try simp only [Act.put, List.setIfInBounds_toArray, List.set_cons_zero, List.set_cons_succ]
    refine wpAnyH_take (i := 4) (v := ?_) rfl (by kernel_rfl) (by kernel_rfl) (by kernel_rfl) (fun _ _ _ h => h) (Or.inl ⟨by rfl, ?_⟩) (by assumption) ?_
    rotate_left 1
    · (intro w hSw; (try dsimp only at hSw); go_simp <;> (try with_reducible rfl))
    try simp only [Act.put, List.setIfInBounds_toArray, List.set_cons_zero, List.set_cons_succ]
    refine wpAnyH_take (i := 5) (v := ?_) rfl (by kernel_rfl) (by kernel_rfl) (by kernel_rfl) (fun _ _ _ h => h) (Or.inl ⟨by rfl, ?_⟩) (by assumption) ?_
    rotate_left 1
    · (intro w hSw; (try dsimp only at hSw); go_simp <;> (try with_reducible rfl))
    try simp only [Act.put, List.setIfInBounds_toArray, List.set_cons_zero, List.set_cons_succ]
    refine wpAnyH_take (i := 6) (v := ?_) rfl (by kernel_rfl) (by kernel_rfl) (by kernel_rfl) (fun _ _ _ h => h) (Or.inl ⟨by rfl, ?_⟩) (by assumption) ?_
    rotate_left 1
    · (intro w hSw; (try dsimp only at hSw); go_simp <;> (try with_reducible rfl))
    try simp only [Act.put, List.setIfInBounds_toArray, List.set_cons_zero, List.set_cons_succ]
    refine wpAnyH_take (i := 7) (v := ?_) rfl (by kernel_rfl) (by kernel_rfl) (by kernel_rfl) (fun _ _ _ h => h) (Or.inl ⟨by rfl, ?_⟩) (by assumption) ?_
    rotate_left 1
    · (intro w hSw; (try dsimp only at hSw); go_simp <;> (try with_reducible rfl))
    try simp only [Act.put, List.setIfInBounds_toArray, List.set_cons_zero, List.set_cons_succ]
    refine wpAnyH_take (i := 8) (v := ?_) rfl (by kernel_rfl) (by kernel_rfl) (by kernel_rfl) (fun _ _ _ h => h) (Or.inl ⟨by rfl, ?_⟩) (by assumption) ?_
    rotate_left 1
    · (intro w hSw; (try dsimp only at hSw); go_simp <;> (try with_reducible rfl))
    try simp only [Act.put, List.setIfInBounds_toArray, List.set_cons_zero, List.set_cons_succ]
    refine wpAnyH_ready (rs := [9]) (by kernel_rfl) (by simp) ?_
    refine AllReadyH.cons rfl (fun K hK => ?_) AllReadyH.nil
    go_simp
    refine (HCL.out W.drew ⟨rfl, rfl, rfl, Nat.le_refl _, fun _ _ => rfl⟩).mono ?_
    rintro e w2 ⟨A', c', rfl, hc1, hc2, hs2, hb2⟩
    have HS2 := Lib.hid hs2
    have HB2 := Lib.hid hb2
    clear hs2 hb2
    obtain ⟨l0, l1, l2, l3, lf⟩ := HL.out w2 (fun b hb => HB2.out.block b (HLT.out b hb).1)
    unfold sinkV at l1
    have HX2 := Lib.hid (And.intro l0 (And.intro l1 l2))
    go_wp2_with fail
    refine hK.out _ _ HX2.out (fun hHeld => ?_)
    clear hK K
    try simp only [Act.put, List.setIfInBounds_toArray, List.set_cons_zero, List.set_cons_succ]
    refine wpAnyH_ready (rs := [10]) (by kernel_rfl) (by simp) ?_
    refine AllReadyH.cons rfl (fun K hK => ?_) AllReadyH.nil
    go_simp
    refine (HSK.out w2 A' c' HB2.out HS2.out).mono ?_
    rintro e w3 hdc
    obtain rfl : e = .returned (.int .i64 q) := hdc.1.trans (by rw [HQ.out])
    have HDC := Lib.hid hdc
    clear hdc
    obtain ⟨m0, m1, m2, m3, mf⟩ := HL.out w3 (fun b hb => (HDC.out.2.2.block b (Nat.lt_of_lt_of_le (HLT.out b hb).1 HB2.out.size) (HLT.out b hb).2).trans (HB2.out.block b (HLT.out b hb).1))
    unfold sinkV at m1
    have HX3 := Lib.hid (And.intro m0 (And.intro m1 m2))
    go_wp2_with fail
    refine hK.out _ _ HX3.out (fun hHeld => ?_)
    clear hK K
    try simp only [Act.put, List.setIfInBounds_toArray, List.set_cons_zero, List.set_cons_succ]
    refine wpAnyH_take (i := 11) (v := ?_) rfl (by kernel_rfl) (by kernel_rfl) (by kernel_rfl) (fun _ _ _ h => h) (Or.inl ⟨by rfl, ?_⟩) (by assumption) ?_
    rotate_left 1
    · (intro w hSw; (try dsimp only at hSw); go_simp <;> (try with_reducible rfl))
    try simp only [Act.put, List.setIfInBounds_toArray, List.set_cons_zero, List.set_cons_succ]
    refine wpAnyH_take (i := 12) (v := ?_) rfl (by kernel_rfl) (by kernel_rfl) (by kernel_rfl) (fun _ _ _ h => h) (Or.inl ⟨by rfl, ?_⟩) (by assumption) ?_
    rotate_left 1
    · (intro w hSw; (try dsimp only at hSw); go_simp <;> (try with_reducible rfl))
    try simp only [Act.put, List.setIfInBounds_toArray, List.set_cons_zero, List.set_cons_succ]
    refine wpAnyH_ready (rs := [13]) (by kernel_rfl) (by simp) ?_
    refine AllReadyH.cons rfl (fun K hK => ?_) AllReadyH.nil
    obtain ⟨⟨F4, h4⟩, b4, b5, o4⟩ := HBX.out w2 w3 HB2.out HDC.out
    have hbo : w.heap.size ≠ o := ne_cells b4 h4.out (by decide)
    have hbo1 : w.heap.size + 1 ≠ o := ne_cells b5 h4.out (by decide)
    have h5 := h4.setErr q
    have hg5 : OutB (w3.setCell ⟨o, 3, none⟩ (.int .i64 q)) F4 X (grow G w (w3.setCell ⟨o, 3, none⟩ (.int .i64 q))) d r.1 t o dB tB ⟨ou.held, q⟩ A c cnt := h5.up (fun b hb => by rcases hb with (hb | hb) | hb; exact .inl hb; exact .inr ⟨hb.1, by simpa [World.setCell] using hb.2⟩; exact absurd hb.2 (by simp [World.setCell]; exact hb.1)) (fun b hb => by simpa [World.setCell] using h4.lt b (by rcases hb with hb | hb; exact .inl hb; exact .inr ⟨hb.1, by simpa [World.setCell] using hb.2⟩))
    have b6 := boxed_far' b4 hbo (i := 3) (u := .int .i64 q)
    have b7 := boxed_far' b5 hbo1 (i := 3) (u := .int .i64 q)
    have o6 : Only G w (w3.setCell ⟨o, 3, none⟩ (.int .i64 q)) := o4.setCell (.inl (H.out.gx _ H.out.Xo)) _
    have HX4 := Lib.hid (And.intro b6.cell (And.intro ((cell_of_row _ o 1 _ _ (0, 0) hg5.out).trans rfl : (w3.setCell ⟨o, 3, none⟩ (.int .i64 q)).cell? ⟨o, 1, none⟩ = some (sinkV dB tB)) (by rw [HM.out]; exact ((cell_of_row _ o 2 _ _ (0, 0) hg5.out).trans rfl : (w3.setCell ⟨o, 3, none⟩ (.int .i64 q)).cell? ⟨o, 2, none⟩ = some (.slice A ou.held.length c)) : (w3.setCell ⟨o, 3, none⟩ (.int .i64 q)).cell? ⟨o, 2, none⟩ = some (.slice A m c))))
    unfold sinkV at HX4
    have HG5 := Lib.hid hg5
    have B6 := Lib.hid b6
    have B7 := Lib.hid b7
    have O6 := Lib.hid o6
    clear h4 b4 b5 o4 h5 hg5 b6 b7 o6
    go_simp
    refine hK.out _ _ HX4.out (fun hHeld => ?_)
    clear hK K
    try simp only [Act.put, List.setIfInBounds_toArray, List.set_cons_zero, List.set_cons_succ]
    refine wpAnyH_done (by kernel_rfl) ?_ _
    refine NoPanic.normal ?_
    go_wp2_with fail
    go_meet
    case rel => exact ⟨F4, HG5, B6, B7, O6⟩
  case rest =>
    obtain ⟨F4, H4, B0, B1, O4⟩ := hcut
    have c0 := B0.out.cell
    have c3 : wc.cell? ⟨o, 3, none⟩ = some (.int .i64 q) := (cell_of_row wc o 3 _ _ (0, 0) H4.out.out).trans rfl
    clear k0 k1 k2 k3 kf HCL HSK HBX HL
    go_wp2_with fail
    refine leaves_cons (f := 71) (args := #[.pointer (some ⟨w.heap.size, 0, none⟩), .pointer (some ⟨w.heap.size + 1, 0, none⟩)]) (by simp) (by simp [go_sem]) ?_
    obtain ⟨g, rfl, hmc2⟩ := own_some H4.out.held hne.out
    refine (handOn_def w.heap.size (w.heap.size + 1) g ou.held.length c (sinkV dB tB) q cnt m .returning B0.out B1.out H4.out.out hmc2).mono ?_
    rintro e u' w5 ⟨rfl, rfl, ⟨cnt', h5⟩, h6⟩
    refine ⟨_, results_tmp rfl _ _ _, ?_⟩
    have hne2 : ∀ b, (Value.slice (some ⟨g, 0, none⟩) ou.held.length c).ownBlock = some b → ¬ b = o := fun b hb e => by
      obtain ⟨cur, hc⟩ := H4.out.held.content hb
      rw [e, H4.out.out] at hc
      injection hc with hc
      injection hc with _ e2
      exact absurd e2 (by decide)
    have h7 := H4.out.turn (ou' := ⟨[], q⟩) h6 h5 (own_zero (H4.out.held.only h6 hne2)) rfl
    have hho : s.handOn t ou = (r.1, ⟨[], q⟩, q) := by unfold Disk.St.handOn; rw [if_neg hne.out, ← HR.out, ← HQ.out]
    rw [hho]
    exact ⟨rfl, ⟨F4, X, _, c, cnt', h7.up (fun b hb => grow_grow O4.out.size h6.size b hb) (grow_lt H.out.lt (Nat.le_trans O4.out.size h6.size))⟩, O4.out.trans h6 fun x hx => by subst hx; exact .inl (H.out.gx _ H.out.Xo)⟩
end
end Go.Proofs.Ytfommpbblpnljaa
