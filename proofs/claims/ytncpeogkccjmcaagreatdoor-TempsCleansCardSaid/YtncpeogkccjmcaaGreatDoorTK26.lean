/- Texts that lead to the claim, one behind the other: The files of the document's disk: the walk of galleyref03.(Disk).Files. No conditions. | Writing calls of the document's disk: the walk of (Disk).Make. Conditions: the counts are below 2^31; what is planned is IO, full or down. | Writing calls of the document's disk: the walk of (Disk).Append. Conditions: the counts are below 2^31, the sum of the bytes below 2^60; what is planned is IO, full or down. -/
import Derived.Test.YtncpeogkccjmcaaGreatDoorTK24
import Derived.Test.YtncpeogkccjmcaaGreatDoorTK16
import Derived.Deep.RegionHeld3
import Derived.Deep.Cut
import Derived.Test.YtncpeogkccjmcaaGreatDoorTK21
namespace Go.Proofs.YtncpeogkccjmcaaGreatDoor
open Go.RowKit Go.ChangeShapes Go.WideShapes Go.Deep

section
variable {w : World} {F : Blocks} {d : Nat} {s : Disk.St}
theorem own_fileV_one {w : World} {k : Disk.Nm} {nd : Disk.Nd} {v : Value} (hk : k.length ≤ maxLen) (hs : nd.syn ≤ 16777216) (hv : v.oneCell' = true) : SliceAt Rep.fileV (w.alloc (.cells #[.string (baR k), v, .int .i64 nd.syn, .bool nd.bad] 78)) (fun b => b = w.heap.size ∨ nob b) (some ⟨w.heap.size, 0, none⟩) 1 [((k, nd), v)] :=
  SliceAt.new1 Rep.fileV w 78 #[.string (baR k), v, .int .i64 nd.syn, .bool nd.bad] ((k, nd), v) nob ⟨rfl, hk, hs, hv⟩ (fun _ h => h.elim)
set_option maxRecDepth 100000 in
set_option maxHeartbeats 4000000 in
theorem refFiles_any (HA : Hid (RefFA w F d s)) (hf : Hid (Disk.Fine s)) :
    Calls Tryz.prog 60 #[.pointer (some ⟨d, 0, none⟩)] w (FilesPost w s.files) := by
  obtain ⟨av, nv, ov, rv, pv, vs, hR⟩ := HA.out
  obtain ⟨NA, NC, rfl, hsn⟩ := hR.now
  have hnc := hsn.len
  have hcm := hsn.max
  have HRX := Lib.hid hR
  have HSN := Lib.hid hsn
  have hnl := hf.out.nowL
  obtain ⟨nn, hnn⟩ : ∃ x, x = s.now.length := ⟨_, rfl⟩
  obtain ⟨on, hon⟩ : ∃ x, x = s.on := ⟨_, rfl⟩
  rw [← hnn] at hnl hnc
  have HNN := Lib.hid hnn
  have HON := Lib.hid hon
  obtain ⟨FL, hFL⟩ : ∃ FL, FL = s.now.map fun p => (p.1, (s.all[p.2]?).getD ⟨[], 0, false⟩) := ⟨_, rfl⟩
  have HFL : Hid (s.files = if on then FL else []) := Lib.hid (by rw [hFL, hon]; rfl)
  have HFLL : Hid (FL.length = nn) := Lib.hid (by rw [hFL, List.length_map, hnn])
  have HFE := Lib.hid hFL
  clear hR hsn hnn hon hFL
  go_enter Tryz.func60, Tryz.ntmps60
  go_wp2_with fail
  go_loopg [3, 4] nn (fun q s3 s4 wr => ∃ (j : Nat) (A3 : Option Addr) (n3 c3 : Nat) (tv : List TF), q = nn - j ∧ j ≤ nn ∧ s4 = .int .i64 j ∧ s3 = .slice A3 n3 c3 ∧ n3 ≤ c3 ∧ c3 ≤ 9223372036854775807 ∧ Hid (n3 = tv.length) ∧ Hid (0 < j → on = true) ∧ Hid (tv.map (·.1) = FL.take j) ∧ Hid (Own Rep.fileV 78 wr w.heap.size nob (.slice A3 n3 c3) tv) ∧ Hid (RowsB wr w.heap.size tv) ∧ Hid (Below w.heap.size w wr))
  case atStart => exact ⟨0, none, 0, 0, [], rfl, by omega, rfl, rfl, Nat.le_refl _, by omega, Lib.hid rfl, Lib.hid (by simp), Lib.hid rfl, Lib.hid (Own.nil _ _ _ _), Lib.hid ⟨by simp, List.Pairwise.nil⟩, Lib.hid (Below.refl _ _)⟩
  case round =>
    obtain ⟨j, A3, n3, c3, tv, rfl, hj, rfl, rfl, hnc3, hcm3, HN3, HJ, HTV, HV, HRB, HB⟩ := hrel
    have HRY := Lib.hid (HRX.out.far HB.out)
    have k1 := HRY.out.cell 1 _ rfl
    have k3 : wr.cell? ⟨d, 3, none⟩ = some (.slice NA nn NC) := by have h := HRY.out.cell 3 _ rfl; rw [← HNN.out] at h; exact h
    rw [← HON.out] at k1
    have HTL : Hid (tv.length = j) := Lib.hid (by
      have := congrArg List.length HTV.out
      rw [List.length_map, List.length_take, HFLL.out] at this
      omega)
    have HSY : Hid (SliceAt Rep.ent wr (EntIn w F) NA NC s.now) := Lib.hid (HSN.out.keep (fun _ h => h) (Same.of_below HB.out fun b h => h.lt))
    have hend : (j = nn ∨ on = false) → n3 = s.files.length ∧ FilesOwn wr w.heap.size (.slice A3 n3 c3) s.files := fun h => by
      have e : tv.map (·.1) = s.files := by
        rw [HFL.out, HTV.out]
        by_cases ho : on = true
        · rcases h with h | h
          · rw [if_pos ho, List.take_of_length_le (by rw [h, HFLL.out]; exact Nat.le_refl _)]
          · rw [ho] at h; cases h
        · rw [if_neg ho]
          have : j = 0 := by
            rcases Nat.eq_zero_or_pos j with h0 | h0
            · exact h0
            · exact absurd (HJ.out h0) ho
          subst this
          simp
      exact ⟨by rw [HN3.out, ← e, List.length_map], tv, e, HV.out, HRB.out⟩
    have HE := Lib.hid hend
    clear hend
    by_cases hjn : j < nn
    · cases on
      · go_wp2_with fail
        go_ret
        exact ⟨A3, n3, c3, rfl, Lib.hid (HE.out (.inr trivial)).1, hnc3, hcm3, (HE.out (.inr trivial)).2, HB.out⟩
      · have hjl : j < s.now.length := by rw [← HNN.out]; exact hjn
        obtain ⟨g2, o2, rfl, hg2, k0, kid, hk1, -⟩ := HSY.out.ent hjl
        obtain ⟨x, hx⟩ : ∃ x : ByteArray, x = baR (s.now[j]).1 := ⟨_, rfl⟩
        rw [show (⟨(s.now[j]).1.toArray⟩ : ByteArray) = x from hx.symm] at k0
        obtain ⟨i, hi⟩ : ∃ i, i = (s.now[j]).2 := ⟨_, rfl⟩
        rw [← hi] at kid
        have hil : i < s.all.length := by rw [hi]; exact hf.out.nowI _ (List.mem_map.2 ⟨_, List.getElem_mem hjl, rfl⟩)
        have hiv : i < vs.length := by rw [HRY.out.len]; exact hil
        obtain ⟨g, n, c, hav, hn, hFg, hgd, n0, n1, n2, -, -, -⟩ := HRY.out.node hiv
        subst hav
        have c2 := HRY.out.cell 2 _ rfl
        have hall : s.all[i]? = some (vs[i]).1 := by
          have := HRY.out.is_
          rw [← this, List.getElem?_map, List.getElem?_eq_getElem hiv]; rfl
        have hmem2 : ((vs[i]).2, (vs[i]).1.bytes) ∈ vs.map fun x => (x.2, x.1.bytes) := List.mem_map.2 ⟨vs[i], List.getElem_mem hiv, rfl⟩
        have hown := HRY.out.rows.own _ hmem2
        obtain ⟨BA, bn, BC, hbv, hbl, hbc, hbm⟩ := hown.form
        simp only at hbv
        rw [hbv] at n0 hown
        obtain ⟨nd, hnd⟩ : ∃ nd, nd = (vs[i]).1 := ⟨_, rfl⟩
        have hbl2 : bn = nd.bytes.length := by rw [hnd]; exact hbl.out
        have hmm := List.mem_of_getElem? hall
        rw [← hnd] at hmm
        have hbnb : bn ≤ 16777216 := by rw [hbl2]; exact hf.out.big nd hmm
        have hsyb : nd.syn ≤ 16777216 := Nat.le_trans (hf.out.good.sync nd hmm) (hf.out.big nd hmm)
        rw [← hnd] at n1 n2 hown hall
        obtain ⟨BA2, BC2, he2, hsb⟩ := hown.slice
        simp only [Value.slice.injEq] at he2
        obtain ⟨rfl, -, rfl⟩ := he2
        have HBL := Lib.hid hbl2
        have HCP : Hid (∀ W, Below wr.heap.size wr W → Calls Tryz.prog 26 #[.slice BA bn BC] W fun e w' => ∃ v, e = .returned v ∧ Own Rep.byte 5 w' W.heap.size nob v nd.bytes ∧ Below W.heap.size W w') := Lib.hid fun W hb =>
          copied_any BA bn BC nd.bytes W _ HBL (Lib.hid (hsb.keep (fun _ h => h) (Same.of_below hb fun b h => h.elim (fun h => h.2.1) fun h => h.elim))) (by omega)
        have HLAST : Hid (FL.take (j + 1) = FL.take j ++ [((s.now[j]).1, nd)]) := Lib.hid (by
          have hjf : j < FL.length := by rw [HFLL.out]; exact hjn
          rw [List.take_succ_eq_append_getElem hjf]
          congr 1
          simp only [HFE.out, List.getElem_map, ← hi, hall, Option.getD_some])
        have HXE := Lib.hid hx
        have hinl : (i : Int) < (n : Int) := by rw [hn.out]; omega
        have hjni : (j : Int) < (nn : Int) := by omega
        have hglt : g < wr.heap.size := World.block_lt_of_cell? wr _ n0
        have HDT := Lib.hid HRY.out.hd
        have hg2lt : g2 < wr.heap.size := hg2.lt |> fun h => Nat.lt_of_lt_of_le h HB.out.size
        obtain ⟨-, ecs, efr, hec0⟩ := hg2
        have HEC : Hid (wr.heap[g2]? = some (.cells ecs 116 efr)) := Lib.hid ((HB.out.block g2 (Array.getElem?_eq_some_iff.1 hec0).1).trans hec0)
        have HKL := Lib.hid hk1
        clear hx hall hmem2 hown hbv hbl hbm hsb hnd hbl2 hmm hec0 hgd hFg hn hil hiv hi
        go_upto_region 5 with fail
        go_cut [5] from 21 to 34 (fun v wc => v = .pointer (some ⟨wr.heap.size, 0, none⟩) ∧ Hid (∃ m, wc = (wr.alloc (.cells #[.slice BA bn BC, .int .i64 nd.syn, .bool nd.bad] 95)).drewN m))
        case first =>
          have HS5 : Hid (∀ u, Below wr.heap.size wr u → u.cell? ⟨d, 2, none⟩ = some (.slice (some ⟨g, 0, none⟩) n c) ∧ u.cell? ⟨d, 3, none⟩ = some (.slice (some ⟨g2, o2, none⟩) nn NC) ∧ u.cell? ⟨g2, o2 + j * 2 + 1, none⟩ = some (.int .i64 i) ∧ u.cell? ⟨g, i * 3, none⟩ = some (.slice BA bn BC) ∧ u.cell? ⟨g, i * 3 + 1, none⟩ = some (.int .i64 nd.syn) ∧ u.cell? ⟨g, i * 3 + 2, none⟩ = some (.bool nd.bad)) := Lib.hid fun u hu => ⟨(hu.cell (p := ⟨d, 2, none⟩) (World.block_lt_of_cell? wr _ c2)).trans c2, (hu.cell (p := ⟨d, 3, none⟩) (World.block_lt_of_cell? wr _ k3)).trans k3, (hu.cell (p := ⟨g2, o2 + j * 2 + 1, none⟩) (World.block_lt_of_cell? wr _ kid)).trans kid, (hu.cell (p := ⟨g, i * 3, none⟩) hglt).trans n0, (hu.cell (p := ⟨g, i * 3 + 1, none⟩) hglt).trans n1, (hu.cell (p := ⟨g, i * 3 + 2, none⟩) hglt).trans n2⟩
          have HD5 : Hid (Below wr.heap.size wr wr.drew) := Lib.hid ((Below.refl _ _).drew)
          have HA5 : Hid (∀ ob, Below wr.heap.size wr (wr.drew.alloc ob)) := Lib.hid fun ob => HD5.out.alloc (Nat.le_refl _) ob
          clear c2 k3 kid n0 n1 n2
          refine wp_region_held_drew (S := fun u => u.cell? ⟨d, 2, none⟩ = some (.slice (some ⟨g, 0, none⟩) n c) ∧ u.cell? ⟨d, 3, none⟩ = some (.slice (some ⟨g2, o2, none⟩) nn NC) ∧ u.cell? ⟨g2, o2 + j * 2 + 1, none⟩ = some (.int .i64 i) ∧ u.cell? ⟨g, i * 3, none⟩ = some (.slice BA bn BC) ∧ u.cell? ⟨g, i * 3 + 1, none⟩ = some (.int .i64 nd.syn) ∧ u.cell? ⟨g, i * 3 + 2, none⟩ = some (.bool nd.bad)) (by kernel_rfl) (HS5.out _ HD5.out) (fun hHeld => ?_)
          refine wpAnyH_take (i := 0) (v := ?_) rfl (by kernel_rfl) (by kernel_rfl) (by kernel_rfl) (fun _ _ _ h => h) (Or.inl ⟨by rfl, ?_⟩) (by assumption) ?_
          rotate_left 1
          · (intro w hSw; (try dsimp only at hSw); (try simp only [List.getElem_toArray, List.getElem_cons_succ, List.getElem_cons_zero]); go_simp <;> (try with_reducible rfl))
          try simp only [Act.put, List.getElem_toArray, List.getElem_cons_succ, List.getElem_cons_zero, List.setIfInBounds_toArray, List.set_cons_zero, List.set_cons_succ]
          refine wpAnyH_take (i := 1) (v := ?_) rfl (by kernel_rfl) (by kernel_rfl) (by kernel_rfl) (fun _ _ _ h => h) (Or.inl ⟨by rfl, ?_⟩) (by assumption) ?_
          rotate_left 1
          · (intro w hSw; (try dsimp only at hSw); (try simp only [List.getElem_toArray, List.getElem_cons_succ, List.getElem_cons_zero]); go_simp <;> (try with_reducible rfl))
          try simp only [Act.put, List.getElem_toArray, List.getElem_cons_succ, List.getElem_cons_zero, List.setIfInBounds_toArray, List.set_cons_zero, List.set_cons_succ]
          refine wpAnyH_take (i := 2) (v := ?_) rfl (by kernel_rfl) (by kernel_rfl) (by kernel_rfl) (fun _ _ _ h => h) (Or.inl ⟨by rfl, ?_⟩) (by assumption) ?_
          rotate_left 1
          · (intro w hSw; (try dsimp only at hSw); (try simp only [List.getElem_toArray, List.getElem_cons_succ, List.getElem_cons_zero]); go_simp <;> (try with_reducible rfl))
          try simp only [Act.put, List.getElem_toArray, List.getElem_cons_succ, List.getElem_cons_zero, List.setIfInBounds_toArray, List.set_cons_zero, List.set_cons_succ]
          refine wpAnyH_take (i := 3) (v := ?_) rfl (by kernel_rfl) (by kernel_rfl) (by kernel_rfl) (fun _ _ _ h => h) (Or.inl ⟨by rfl, ?_⟩) (by assumption) ?_
          rotate_left 1
          · (intro w hSw; (try dsimp only at hSw); (try simp only [List.getElem_toArray, List.getElem_cons_succ, List.getElem_cons_zero]); go_simp <;> (try with_reducible rfl))
          try simp only [Act.put, List.getElem_toArray, List.getElem_cons_succ, List.getElem_cons_zero, List.setIfInBounds_toArray, List.set_cons_zero, List.set_cons_succ]
          refine wpAnyH_take (i := 4) (v := ?_) rfl (by kernel_rfl) (by kernel_rfl) (by kernel_rfl) (fun _ _ _ h => h) (Or.inl ⟨by rfl, ?_⟩) (by assumption) ?_
          rotate_left 1
          · (intro w hSw; (try dsimp only at hSw); (try simp only [List.getElem_toArray, List.getElem_cons_succ, List.getElem_cons_zero]); go_simp <;> (try with_reducible rfl))
          try simp only [Act.put, List.getElem_toArray, List.getElem_cons_succ, List.getElem_cons_zero, List.setIfInBounds_toArray, List.set_cons_zero, List.set_cons_succ]
          refine wpAnyH_take (i := 5) (v := ?_) rfl (by kernel_rfl) (by kernel_rfl) (by kernel_rfl) (fun _ _ _ h => h) (Or.inl ⟨by rfl, ?_⟩) (by assumption) ?_
          rotate_left 1
          · (intro w hSw; (try dsimp only at hSw); (try simp only [List.getElem_toArray, List.getElem_cons_succ, List.getElem_cons_zero]); go_simp <;> (try with_reducible rfl))
          try simp only [Act.put, List.getElem_toArray, List.getElem_cons_succ, List.getElem_cons_zero, List.setIfInBounds_toArray, List.set_cons_zero, List.set_cons_succ]
          refine wpAnyH_take (i := 6) (v := ?_) rfl (by kernel_rfl) (by kernel_rfl) (by kernel_rfl) (fun _ _ _ h => h) (Or.inl ⟨by rfl, ?_⟩) (by assumption) ?_
          rotate_left 1
          · (intro w hSw; (try dsimp only at hSw); (try simp only [List.getElem_toArray, List.getElem_cons_succ, List.getElem_cons_zero]); go_simp <;> (try with_reducible rfl))
          try simp only [Act.put, List.getElem_toArray, List.getElem_cons_succ, List.getElem_cons_zero, List.setIfInBounds_toArray, List.set_cons_zero, List.set_cons_succ]
          refine wpAnyH_take (i := 7) (v := ?_) rfl (by kernel_rfl) (by kernel_rfl) (by kernel_rfl) (fun _ _ _ h => h) (Or.inl ⟨by rfl, ?_⟩) (by assumption) ?_
          rotate_left 1
          · (intro w hSw; (try dsimp only at hSw); (try simp only [List.getElem_toArray, List.getElem_cons_succ, List.getElem_cons_zero]); go_simp <;> (try with_reducible rfl))
          try simp only [Act.put, List.getElem_toArray, List.getElem_cons_succ, List.getElem_cons_zero, List.setIfInBounds_toArray, List.set_cons_zero, List.set_cons_succ]
          refine wpAnyH_take (i := 8) (v := ?_) rfl (by kernel_rfl) (by kernel_rfl) (by kernel_rfl) (fun _ _ _ h => h) (Or.inl ⟨by rfl, ?_⟩) (by assumption) ?_
          rotate_left 1
          · (intro w hSw; (try dsimp only at hSw); (try simp only [List.getElem_toArray, List.getElem_cons_succ, List.getElem_cons_zero]); go_simp <;> (try with_reducible rfl))
          try simp only [Act.put, List.getElem_toArray, List.getElem_cons_succ, List.getElem_cons_zero, List.setIfInBounds_toArray, List.set_cons_zero, List.set_cons_succ]
          refine wpAnyH_take (i := 9) (v := ?_) rfl (by kernel_rfl) (by kernel_rfl) (by kernel_rfl) (fun _ _ _ h => h) (Or.inl ⟨by rfl, ?_⟩) (by assumption) ?_
          rotate_left 1
          · (intro w hSw; (try dsimp only at hSw); (try simp only [List.getElem_toArray, List.getElem_cons_succ, List.getElem_cons_zero]); go_simp <;> (try with_reducible rfl))
          try simp only [Act.put, List.getElem_toArray, List.getElem_cons_succ, List.getElem_cons_zero, List.setIfInBounds_toArray, List.set_cons_zero, List.set_cons_succ]
          refine wpAnyH_take (i := 10) (v := ?_) rfl (by kernel_rfl) (by kernel_rfl) (by kernel_rfl) (fun _ _ _ h => h) (Or.inl ⟨by rfl, ?_⟩) (by assumption) ?_
          rotate_left 1
          · (intro w hSw; (try dsimp only at hSw); (try simp only [List.getElem_toArray, List.getElem_cons_succ, List.getElem_cons_zero]); go_simp <;> (try with_reducible rfl))
          try simp only [Act.put, List.getElem_toArray, List.getElem_cons_succ, List.getElem_cons_zero, List.setIfInBounds_toArray, List.set_cons_zero, List.set_cons_succ]
          refine wpAnyH_take (i := 11) (v := ?_) rfl (by kernel_rfl) (by kernel_rfl) (by kernel_rfl) (fun _ _ _ h => h) (Or.inl ⟨by rfl, ?_⟩) (by assumption) ?_
          rotate_left 1
          · (intro w hSw; (try dsimp only at hSw); (try simp only [List.getElem_toArray, List.getElem_cons_succ, List.getElem_cons_zero]); go_simp <;> (try with_reducible rfl))
          try simp only [Act.put, List.getElem_toArray, List.getElem_cons_succ, List.getElem_cons_zero, List.setIfInBounds_toArray, List.set_cons_zero, List.set_cons_succ]
          refine wpAnyH_take (i := 12) (v := ?_) rfl (by kernel_rfl) (by kernel_rfl) (by kernel_rfl) (fun _ _ _ h => h) (Or.inl ⟨by rfl, ?_⟩) (by assumption) ?_
          rotate_left 1
          · (intro w hSw; (try dsimp only at hSw); (try simp only [List.getElem_toArray, List.getElem_cons_succ, List.getElem_cons_zero]); go_simp <;> (try with_reducible rfl))
          try simp only [Act.put, List.getElem_toArray, List.getElem_cons_succ, List.getElem_cons_zero, List.setIfInBounds_toArray, List.set_cons_zero, List.set_cons_succ]
          refine wpAnyH_take (i := 13) (v := ?_) rfl (by kernel_rfl) (by kernel_rfl) (by kernel_rfl) (fun _ _ _ h => h) (Or.inl ⟨by rfl, ?_⟩) (by assumption) ?_
          rotate_left 1
          · (intro w hSw; (try dsimp only at hSw); (try simp only [List.getElem_toArray, List.getElem_cons_succ, List.getElem_cons_zero]); go_simp <;> (try with_reducible rfl))
          try simp only [Act.put, List.getElem_toArray, List.getElem_cons_succ, List.getElem_cons_zero, List.setIfInBounds_toArray, List.set_cons_zero, List.set_cons_succ]
          refine wpAnyH_ready (rs := [14]) (by kernel_rfl) (by simp) ?_
          refine AllReadyH.cons rfl (fun K hK => ?_) AllReadyH.nil
          go_simp
          refine hK.out _ _ (HS5.out _ (HA5.out _)) (fun hHeld => ?_)
          clear hK K
          try simp only [Act.put, List.getElem_toArray, List.getElem_cons_succ, List.getElem_cons_zero, List.setIfInBounds_toArray, List.set_cons_zero, List.set_cons_succ]
          refine wpAnyH_ready (rs := [15]) (by kernel_rfl) (by simp) ?_
          refine AllReadyH.cons rfl (fun K hK => ?_) AllReadyH.nil
          go_simp
          refine hK.out _ _ (HS5.out _ (HA5.out _)) (fun hHeld => ?_)
          clear hK K
          try simp only [Act.put, List.getElem_toArray, List.getElem_cons_succ, List.getElem_cons_zero, List.setIfInBounds_toArray, List.set_cons_zero, List.set_cons_succ]
          refine wpAnyH_done (by kernel_rfl) ?_ _
          go_wp2_with fail
          go_meet
          case rel => exact ⟨rfl, Lib.hid ⟨1, rfl⟩⟩
        case rest =>
        obtain ⟨rfl, HWC⟩ := hcut
        obtain ⟨m9, hm9⟩ := HWC.out
        have hb1c : Below wr.heap.size wr wc := by rw [hm9]; exact (Below.alloc (Below.refl _ _) (Nat.le_refl _) _).trans (below_dr _ _)
        have hbox : wc.heap[wr.heap.size]? = some (.cells #[.slice BA bn BC, .int .i64 nd.syn, .bool nd.bad] 95 (0, 0)) := by rw [hm9]; exact heap_alloc_new _ _
        have HB1 := Lib.hid hb1c
        have HBOX := Lib.hid hbox
        have HLT := Lib.hid (Array.getElem?_eq_some_iff.1 hbox).1
        have HSK : Hid (∀ u : World, (∀ b, b = d ∨ b = g2 ∨ b = wr.heap.size → u.heap[b]? = wc.heap[b]?) → u.cell? ⟨d, 3, none⟩ = some (.slice (some ⟨g2, o2, none⟩) nn NC) ∧ u.cell? ⟨g2, o2 + j * 2, none⟩ = some (.string x) ∧ u.cell? ⟨wr.heap.size, 0, none⟩ = some (.slice BA bn BC) ∧ u.cell? ⟨wr.heap.size, 1, none⟩ = some (.int .i64 nd.syn) ∧ u.cell? ⟨wr.heap.size, 2, none⟩ = some (.bool nd.bad)) := Lib.hid fun u hu => by
          have e1 := (hu d (.inl rfl)).trans (HB1.out.block d (Array.getElem?_eq_some_iff.1 HDT.out).1)
          have e2 := (hu g2 (.inr (.inl rfl))).trans (HB1.out.block g2 hg2lt)
          have e3 := (hu _ (.inr (.inr rfl))).trans HBOX.out
          refine ⟨?_, ?_, (cell_of_row _ _ 0 _ _ (0, 0) e3).trans rfl, (cell_of_row _ _ 1 _ _ (0, 0) e3).trans rfl, (cell_of_row _ _ 2 _ _ (0, 0) e3).trans rfl⟩
          · rw [← k3]; simp [World.cell?, e1]
          · rw [← k0]; simp [World.cell?, e2]
        have HBW : Hid (∀ u, Below wc.heap.size wc u → u.cell? ⟨d, 3, none⟩ = some (.slice (some ⟨g2, o2, none⟩) nn NC) ∧ u.cell? ⟨g2, o2 + j * 2, none⟩ = some (.string x) ∧ u.cell? ⟨wr.heap.size, 0, none⟩ = some (.slice BA bn BC) ∧ u.cell? ⟨wr.heap.size, 1, none⟩ = some (.int .i64 nd.syn) ∧ u.cell? ⟨wr.heap.size, 2, none⟩ = some (.bool nd.bad)) := Lib.hid fun u hu => HSK.out u fun b hb => hu.block b (by
          have := HB1.out.size
          rcases hb with rfl | rfl | rfl
          · have := (Array.getElem?_eq_some_iff.1 HDT.out).1; omega
          · omega
          · exact HLT.out)
        have HD : Hid (Below wc.heap.size wc wc.drew) := Lib.hid ((Below.refl _ _).drew)
        clear hm9 hb1c hbox k0 k1 k3 kid n0 n1 n2 c2
        go_upto_region 6 with fail
        refine wp_region_held_drew (S := fun u => u.cell? ⟨d, 3, none⟩ = some (.slice (some ⟨g2, o2, none⟩) nn NC) ∧ u.cell? ⟨g2, o2 + j * 2, none⟩ = some (.string x) ∧ u.cell? ⟨wr.heap.size, 0, none⟩ = some (.slice BA bn BC) ∧ u.cell? ⟨wr.heap.size, 1, none⟩ = some (.int .i64 nd.syn) ∧ u.cell? ⟨wr.heap.size, 2, none⟩ = some (.bool nd.bad)) (by kernel_rfl) (HBW.out _ HD.out) (fun hHeld => ?_)
        refine wpAnyH_take (i := 0) (v := ?_) rfl (by kernel_rfl) (by kernel_rfl) (by kernel_rfl) (fun _ _ _ h => h) (Or.inl ⟨by rfl, ?_⟩) (by assumption) ?_
        rotate_left 1
        · (intro w hSw; (try dsimp only at hSw); (try simp only [List.getElem_toArray, List.getElem_cons_succ, List.getElem_cons_zero]); go_simp <;> (try with_reducible rfl))
        try simp only [Act.put, List.getElem_toArray, List.getElem_cons_succ, List.getElem_cons_zero, List.setIfInBounds_toArray, List.set_cons_zero, List.set_cons_succ]
        refine wpAnyH_take (i := 1) (v := ?_) rfl (by kernel_rfl) (by kernel_rfl) (by kernel_rfl) (fun _ _ _ h => h) (Or.inl ⟨by rfl, ?_⟩) (by assumption) ?_
        rotate_left 1
        · (intro w hSw; (try dsimp only at hSw); (try simp only [List.getElem_toArray, List.getElem_cons_succ, List.getElem_cons_zero]); go_simp <;> (try with_reducible rfl))
        try simp only [Act.put, List.getElem_toArray, List.getElem_cons_succ, List.getElem_cons_zero, List.setIfInBounds_toArray, List.set_cons_zero, List.set_cons_succ]
        refine wpAnyH_take (i := 2) (v := ?_) rfl (by kernel_rfl) (by kernel_rfl) (by kernel_rfl) (fun _ _ _ h => h) (Or.inl ⟨by rfl, ?_⟩) (by assumption) ?_
        rotate_left 1
        · (intro w hSw; (try dsimp only at hSw); (try simp only [List.getElem_toArray, List.getElem_cons_succ, List.getElem_cons_zero]); go_simp <;> (try with_reducible rfl))
        try simp only [Act.put, List.getElem_toArray, List.getElem_cons_succ, List.getElem_cons_zero, List.setIfInBounds_toArray, List.set_cons_zero, List.set_cons_succ]
        refine wpAnyH_take (i := 3) (v := ?_) rfl (by kernel_rfl) (by kernel_rfl) (by kernel_rfl) (fun _ _ _ h => h) (Or.inl ⟨by rfl, ?_⟩) (by assumption) ?_
        rotate_left 1
        · (intro w hSw; (try dsimp only at hSw); (try simp only [List.getElem_toArray, List.getElem_cons_succ, List.getElem_cons_zero]); go_simp <;> (try with_reducible rfl))
        try simp only [Act.put, List.getElem_toArray, List.getElem_cons_succ, List.getElem_cons_zero, List.setIfInBounds_toArray, List.set_cons_zero, List.set_cons_succ]
        refine wpAnyH_take (i := 4) (v := ?_) rfl (by kernel_rfl) (by kernel_rfl) (by kernel_rfl) (fun _ _ _ h => h) (Or.inl ⟨by rfl, ?_⟩) (by assumption) ?_
        rotate_left 1
        · (intro w hSw; (try dsimp only at hSw); (try simp only [List.getElem_toArray, List.getElem_cons_succ, List.getElem_cons_zero]); go_simp <;> (try with_reducible rfl))
        try simp only [Act.put, List.getElem_toArray, List.getElem_cons_succ, List.getElem_cons_zero, List.setIfInBounds_toArray, List.set_cons_zero, List.set_cons_succ]
        refine wpAnyH_take (i := 5) (v := ?_) rfl (by kernel_rfl) (by kernel_rfl) (by kernel_rfl) (fun _ _ _ h => h) (Or.inl ⟨by rfl, ?_⟩) (by assumption) ?_
        rotate_left 1
        · (intro w hSw; (try dsimp only at hSw); (try simp only [List.getElem_toArray, List.getElem_cons_succ, List.getElem_cons_zero]); go_simp <;> (try with_reducible rfl))
        try simp only [Act.put, List.getElem_toArray, List.getElem_cons_succ, List.getElem_cons_zero, List.setIfInBounds_toArray, List.set_cons_zero, List.set_cons_succ]
        refine wpAnyH_take (i := 6) (v := ?_) rfl (by kernel_rfl) (by kernel_rfl) (by kernel_rfl) (fun _ _ _ h => h) (Or.inl ⟨by rfl, ?_⟩) (by assumption) ?_
        rotate_left 1
        · (intro w hSw; (try dsimp only at hSw); (try simp only [List.getElem_toArray, List.getElem_cons_succ, List.getElem_cons_zero]); go_simp <;> (try with_reducible rfl))
        try simp only [Act.put, List.getElem_toArray, List.getElem_cons_succ, List.getElem_cons_zero, List.setIfInBounds_toArray, List.set_cons_zero, List.set_cons_succ]
        refine wpAnyH_take (i := 7) (v := ?_) rfl (by kernel_rfl) (by kernel_rfl) (by kernel_rfl) (fun _ _ _ h => h) (Or.inl ⟨by rfl, ?_⟩) (by assumption) ?_
        rotate_left 1
        · (intro w hSw; (try dsimp only at hSw); (try simp only [List.getElem_toArray, List.getElem_cons_succ, List.getElem_cons_zero]); go_simp <;> (try with_reducible rfl))
        try simp only [Act.put, List.getElem_toArray, List.getElem_cons_succ, List.getElem_cons_zero, List.setIfInBounds_toArray, List.set_cons_zero, List.set_cons_succ]
        refine wpAnyH_take (i := 8) (v := ?_) rfl (by kernel_rfl) (by kernel_rfl) (by kernel_rfl) (fun _ _ _ h => h) (Or.inl ⟨by rfl, ?_⟩) (by assumption) ?_
        rotate_left 1
        · (intro w hSw; (try dsimp only at hSw); (try simp only [List.getElem_toArray, List.getElem_cons_succ, List.getElem_cons_zero]); go_simp <;> (try with_reducible rfl))
        try simp only [Act.put, List.getElem_toArray, List.getElem_cons_succ, List.getElem_cons_zero, List.setIfInBounds_toArray, List.set_cons_zero, List.set_cons_succ]
        refine wpAnyH_take (i := 9) (v := ?_) rfl (by kernel_rfl) (by kernel_rfl) (by kernel_rfl) (fun _ _ _ h => h) (Or.inl ⟨by rfl, ?_⟩) (by assumption) ?_
        rotate_left 1
        · (intro w hSw; (try dsimp only at hSw); (try simp only [List.getElem_toArray, List.getElem_cons_succ, List.getElem_cons_zero]); go_simp <;> (try with_reducible rfl))
        try simp only [Act.put, List.getElem_toArray, List.getElem_cons_succ, List.getElem_cons_zero, List.setIfInBounds_toArray, List.set_cons_zero, List.set_cons_succ]
        refine wpAnyH_take (i := 10) (v := ?_) rfl (by kernel_rfl) (by kernel_rfl) (by kernel_rfl) (fun _ _ _ h => h) (Or.inl ⟨by rfl, ?_⟩) (by assumption) ?_
        rotate_left 1
        · (intro w hSw; (try dsimp only at hSw); (try simp only [List.getElem_toArray, List.getElem_cons_succ, List.getElem_cons_zero]); go_simp <;> (try with_reducible rfl))
        try simp only [Act.put, List.getElem_toArray, List.getElem_cons_succ, List.getElem_cons_zero, List.setIfInBounds_toArray, List.set_cons_zero, List.set_cons_succ]
        refine wpAnyH_take (i := 12) (v := ?_) rfl (by kernel_rfl) (by kernel_rfl) (by kernel_rfl) (fun _ _ _ h => h) (Or.inl ⟨by rfl, ?_⟩) (by assumption) ?_
        rotate_left 1
        · (intro w hSw; (try dsimp only at hSw); (try simp only [List.getElem_toArray, List.getElem_cons_succ, List.getElem_cons_zero]); go_simp <;> (try with_reducible rfl))
        try simp only [Act.put, List.getElem_toArray, List.getElem_cons_succ, List.getElem_cons_zero, List.setIfInBounds_toArray, List.set_cons_zero, List.set_cons_succ]
        refine wpAnyH_take (i := 13) (v := ?_) rfl (by kernel_rfl) (by kernel_rfl) (by kernel_rfl) (fun _ _ _ h => h) (Or.inl ⟨by rfl, ?_⟩) (by assumption) ?_
        rotate_left 1
        · (intro w hSw; (try dsimp only at hSw); (try simp only [List.getElem_toArray, List.getElem_cons_succ, List.getElem_cons_zero]); go_simp <;> (try with_reducible rfl))
        try simp only [Act.put, List.getElem_toArray, List.getElem_cons_succ, List.getElem_cons_zero, List.setIfInBounds_toArray, List.set_cons_zero, List.set_cons_succ]
        refine wpAnyH_take (i := 14) (v := ?_) rfl (by kernel_rfl) (by kernel_rfl) (by kernel_rfl) (fun _ _ _ h => h) (Or.inl ⟨by rfl, ?_⟩) (by assumption) ?_
        rotate_left 1
        · (intro w hSw; (try dsimp only at hSw); (try simp only [List.getElem_toArray, List.getElem_cons_succ, List.getElem_cons_zero]); go_simp <;> (try with_reducible rfl))
        try simp only [Act.put, List.getElem_toArray, List.getElem_cons_succ, List.getElem_cons_zero, List.setIfInBounds_toArray, List.set_cons_zero, List.set_cons_succ]
        refine wpAnyH_take (i := 15) (v := ?_) rfl (by kernel_rfl) (by kernel_rfl) (by kernel_rfl) (fun _ _ _ h => h) (Or.inl ⟨by rfl, ?_⟩) (by assumption) ?_
        rotate_left 1
        · (intro w hSw; (try dsimp only at hSw); (try simp only [List.getElem_toArray, List.getElem_cons_succ, List.getElem_cons_zero]); go_simp <;> (try with_reducible rfl))
        try simp only [Act.put, List.getElem_toArray, List.getElem_cons_succ, List.getElem_cons_zero, List.setIfInBounds_toArray, List.set_cons_zero, List.set_cons_succ]
        refine wpAnyH_ready (rs := [11]) (by kernel_rfl) (by simp) ?_
        refine AllReadyH.cons rfl (fun K hK => ?_) AllReadyH.nil
        go_simp
        refine (HCP.out _ (HB1.out.drew)).mono ?_
        rintro e w10 ⟨v, rfl, hown, hb10⟩
        obtain ⟨A', m, c', rfl, hm, -, -⟩ := hown.form
        have HOWN := Lib.hid hown
        have HB10 : Hid (Below wc.heap.size wc w10) := Lib.hid ⟨hb10.os, hb10.tape, hb10.output, hb10.size, hb10.block⟩
        clear hown hb10
        go_wp2_with fail
        refine hK.out _ _ (HBW.out _ HB10.out) (fun hHeld => ?_)
        clear hK K
        try simp only [Act.put, List.getElem_toArray, List.getElem_cons_succ, List.getElem_cons_zero, List.setIfInBounds_toArray, List.set_cons_zero, List.set_cons_succ]
        refine wpAnyH_take (i := 16) (v := ?_) rfl (by kernel_rfl) (by kernel_rfl) (by kernel_rfl) (fun _ _ _ h => h) (Or.inl ⟨by rfl, ?_⟩) (by assumption) ?_
        rotate_left 1
        · (intro w hSw; (try dsimp only at hSw); (try simp only [List.getElem_toArray, List.getElem_cons_succ, List.getElem_cons_zero]); go_simp <;> (try with_reducible rfl))
        try simp only [Act.put, List.getElem_toArray, List.getElem_cons_succ, List.getElem_cons_zero, List.setIfInBounds_toArray, List.set_cons_zero, List.set_cons_succ]
        refine wpAnyH_ready (rs := [17]) (by kernel_rfl) (by simp) ?_
        refine AllReadyH.cons rfl (fun K hK => ?_) AllReadyH.nil
        have HBA : Hid (Below wc.heap.size wc (w10.alloc (.cells #[.string x, .slice A' m c', .int .i64 nd.syn, .bool nd.bad] 78))) := Lib.hid (HB10.out.alloc HB10.out.size _)
        go_simp
        refine hK.out _ _ (HBW.out _ HBA.out) (fun hHeld => ?_)
        clear hK K
        try simp only [Act.put, List.getElem_toArray, List.getElem_cons_succ, List.getElem_cons_zero, List.setIfInBounds_toArray, List.set_cons_zero, List.set_cons_succ]
        refine wpAnyH_ready (rs := [18]) (by kernel_rfl) (by simp) ?_
        refine AllReadyH.cons rfl (fun K hK => ?_) AllReadyH.nil
        have HVA := Lib.hid (((HV.out.far HB1.out).far HB10.out).alloc (.cells #[.string x, .slice A' m c', .int .i64 nd.syn, .bool nd.bad] 78))
        have HONE : Hid (SliceAt Rep.fileV (w10.alloc (.cells #[.string x, .slice A' m c', .int .i64 nd.syn, .bool nd.bad] 78)) (fun b => b = w10.heap.size ∨ nob b) (some ⟨w10.heap.size, 0, none⟩) 1 [(((s.now[j]).1, nd), .slice A' m c')]) := Lib.hid (by rw [HXE.out]; exact own_fileV_one HKL.out hsyb rfl)
        refine step_append_Own rfl (.tmp 35) (.tmp 52) 22 rfl Rep.fileV w.heap.size 78 56 stFile nob (.slice A3 n3 c3) tv (by simp [Act.eval]) HVA.out _ (some ⟨w10.heap.size, 0, none⟩) 1 [(((s.now[j]).1, nd), .slice A' m c')] (by simp [Act.eval]) HONE.out nob (fun _ h => h.elim) (fun _ h => h) (fun _ _ h => h) (by have := HTL.out; simp <;> omega) (by have := HTL.out; simp <;> omega) (by have := HB.out.size; have := HB1.out.size; have := HB10.out.size; simp <;> omega) ?_
        intro v3 w3 hown3 hg3 hat3
        have hs3 : ∀ b, b = d ∨ b = g2 ∨ b = wr.heap.size → w3.heap[b]? = wc.heap[b]? := fun b hb => by
          have hlt : b < wc.heap.size ∧ ∃ cs t f, wc.heap[b]? = some (.cells cs t f) ∧ t ≠ 78 := by
            have := HB1.out.size
            rcases hb with rfl | rfl | rfl
            · exact ⟨by have := (Array.getElem?_eq_some_iff.1 HDT.out).1; omega, _, _, _, (HB1.out.block b (Array.getElem?_eq_some_iff.1 HDT.out).1).trans HDT.out, by decide⟩
            · exact ⟨by omega, _, _, _, (HB1.out.block b hg2lt).trans HEC.out, by decide⟩
            · exact ⟨HLT.out, _, _, _, HBOX.out, by decide⟩
          obtain ⟨hl, cs, t, f, hc, hne⟩ := hlt
          have hcA : (w10.alloc (.cells #[.string x, .slice A' m c', .int .i64 nd.syn, .bool nd.bad] 78)).heap[b]? = some (.cells cs t f) := (HBA.out.block b hl).trans hc
          refine (hg3.block b (Nat.lt_of_lt_of_le hl HBA.out.size) fun e => ?_).trans (hcA.trans hc.symm)
          obtain ⟨cur, hcur⟩ := HVA.out.content e.symm
          rw [hcA] at hcur
          injection hcur with hcur
          injection hcur with _ e2
          exact hne e2
        have HS3 := Lib.hid (HSK.out w3 hs3)
        obtain ⟨A5, n5, c5, vv, hv5, hnc5, hcm5, HN5, HOWN5, HRB5, HB5⟩ := files_step (HV.out.far HB1.out) (HRB.out.far HB1.out) (HB.out.trans (HB1.out.mono HB.out.size)) HOWN.out HB10.out _ hg3 hown3
        subst hv5
        clear hown3 hg3 hat3 hs3
        refine hK.out _ _ HS3.out (fun hHeld => ?_)
        clear hK K
        try simp only [Act.put, List.getElem_toArray, List.getElem_cons_succ, List.getElem_cons_zero, List.setIfInBounds_toArray, List.set_cons_zero, List.set_cons_succ]
        refine wpAnyH_take (i := 19) (v := ?_) rfl (by kernel_rfl) (by kernel_rfl) (by kernel_rfl) (fun _ _ _ h => h) (Or.inl ⟨by rfl, ?_⟩) (by assumption) ?_
        rotate_left 1
        · (intro w hSw; (try dsimp only at hSw); (try simp only [List.getElem_toArray, List.getElem_cons_succ, List.getElem_cons_zero]); go_simp <;> (try with_reducible rfl))
        try simp only [Act.put, List.getElem_toArray, List.getElem_cons_succ, List.getElem_cons_zero, List.setIfInBounds_toArray, List.set_cons_zero, List.set_cons_succ]
        refine wpAnyH_done (by kernel_rfl) ?_ _
        go_wp2_with fail
        go_roundg (nn - (j + 1))
        case measure => omega
        case rel => exact ⟨j + 1, A5, n5, c5, _, by omega, by omega, by go_num, rfl, hnc5, hcm5, HN5, Lib.hid fun _ => trivial, Lib.hid (by rw [List.map_append, HTV.out, HLAST.out]; rfl), HOWN5, HRB5, HB5⟩
    · have hjn2 : j = nn := by omega
      go_wp2_with fail
      go_ret
      exact ⟨A3, n3, c3, rfl, Lib.hid (HE.out (.inl hjn2)).1, hnc3, hcm3, (HE.out (.inl hjn2)).2, HB.out⟩
end
end Go.Proofs.YtncpeogkccjmcaaGreatDoor
namespace Go.Proofs.YtncpeogkccjmcaaGreatDoor
open Go.RowKit Go.ChangeShapes Go.WideShapes Go.Deep

/-- A new file, without a name. -/
def mkS (s : Disk.St) : Disk.St := { s with all := s.all ++ [⟨[], 0, false⟩] }
def makeF (nm : Disk.Nm) (s : Disk.St) : Disk.St × Int := if Disk.find s.now nm = none ∧ 64 ≤ s.now.length then (s, 22) else ((Disk.St.changes (mkS s) ⟨[], nm, s.all.length⟩).more, 0)
section
variable {w wa w3 : World} {F : Blocks} {d : Nat} {s : Disk.St} {av nv ov rv pv v3 : Value} {vs : List TN}
theorem RefF.made (h : RefF w F d s av nv ov rv pv vs) (hb : Below w.heap.size w wa) (hg : wa.grownBy w3 av.ownBlock) (hat : v3.ownBlock = av.ownBlock ∨ v3.ownBlock = some wa.heap.size) (h3 : Own Rep.nodeV 95 w3 0 nob v3 (vs ++ [(⟨[], 0, false⟩, .slice none 0 0)])) :
    RefF (w3.setCell ⟨d, 2, none⟩ v3) (grow F w (w3.setCell ⟨d, 2, none⟩ v3)) d (mkS s) v3 nv ov rv pv (vs ++ [(⟨[], 0, false⟩, .slice none 0 0)]) ∧ w3.cell? ⟨d, 2, none⟩ = some av ∧ w3.frozen? ⟨d, 2, none⟩ = false ∧ Only F w (w3.setCell ⟨d, 2, none⟩ v3) := by
  rw [grow_set]
  have h' := h.far hb
  have ho : Only (fun b => av.ownBlock = some b) wa w3 := Only.of_grown hg _ fun b hb => hb.symm
  have hty : ∀ {b : Nat}, av.ownBlock = some b → ∃ cur, wa.heap[b]? = some (.cells cur 95 (0, 0)) := fun hb => h'.all.content hb
  have hsz : w.heap.size ≤ w3.heap.size := Nat.le_trans hb.size ho.size
  have hG3 : ∀ b, grow F w w3 b → b < w3.heap.size := grow_lt h.lt hsz
  have hd3 : w3.heap[d]? = _ := (ho.block d (h'.lt d h'.Fd) fun e => h'.all.ne_block h'.hd (by decide) e).trans h'.hd
  have ho2 : Only (fun b => b = d) w3 (w3.setCell ⟨d, 2, none⟩ v3) := (Only.refl (fun b => b = d) w3).setCell (p := ⟨d, 2, none⟩) (.inl rfl) v3
  have hrow : Own Rep.rchg 129 w3 0 nob rv s.row := h'.row.only ho fun b hb e => by obtain ⟨cur, hc⟩ := hty e; exact h'.row.ne_block hc (by decide) hb
  have hrows0 : RowsV w3 0 (vs.map fun x => (x.2, x.1.bytes)) := h'.rows.only ho fun x hx b hb e => by obtain ⟨cur, hc⟩ := hty e; exact h'.rows.ne hc (by decide) x hx hb
  have hrows : RowsV w3 0 ((vs ++ [((⟨[], 0, false⟩ : Disk.Nd), Value.slice none 0 0)]).map fun x => (x.2, x.1.bytes)) := by
    rw [List.map_append]
    exact hrows0.snoc (x := (.slice none 0 0, [])) (B2 := w3.heap.size) (Own.nil _ _ _ _) (Nat.zero_le _) fun y hy b hb => (hrows0.lt y hy b hb).2
  have hplan : Own Rep.fault 123 w3 0 nob pv s.plan := h'.plan.only ho fun b hb e => by obtain ⟨cur, hc⟩ := hty e; exact h'.plan.ne_block hc (by decide) hb
  have hnow : EntF w3 (grow F w w3) nv s.now := h'.now.same (fun _ h => .inl h) fun b hb => ho.block b hb.lt fun e => by obtain ⟨cur, hc⟩ := hty e; exact hb.ne hc (by decide) rfl
  have hold : EntF w3 (grow F w w3) ov s.old := h'.old.same (fun _ h => .inl h) fun b hb => ho.block b hb.lt fun e => by obtain ⟨cur, hc⟩ := hty e; exact hb.ne hc (by decide) rfl
  refine ⟨?_, (cell_of_row w3 d 2 _ _ (0, 0) hd3).trans rfl, by simp [World.frozen?, hd3], ?_⟩
  · refine ⟨?_, h3.only ho2 fun b hb e => ?_, by rw [List.map_append, h'.is_]; rfl, hrows.only ho2 fun x hx b hb e => ?_, hnow.same (fun _ h => h) fun b hb => ho2.block b hb.lt (hb.ne hd3 (by decide)), hold.same (fun _ h => h) fun b hb => ho2.block b hb.lt (hb.ne hd3 (by decide)), hrow.only ho2 fun b hb e => ?_, hplan.only ho2 fun b hb e => ?_, .inl h.Fd, fun b hb => ?_, fun x hx b hb => ?_, fun b hb => .inl (h.Fr b hb), fun b hb => .inl (h.Fp b hb), fun b hb => Nat.lt_of_lt_of_le (hG3 b hb) ho2.size⟩
    · simp only [World.setCell, Array.getElem?_modify, if_true, hd3, Option.map_some]
      rfl
    · subst e; exact h3.ne_block hd3 (by decide) hb
    · subst e; exact hrows.ne hd3 (by decide) x hx hb
    · subst e; exact hrow.ne_block hd3 (by decide) hb
    · subst e; exact hplan.ne_block hd3 (by decide) hb
    · rcases hat with e | e
      · rw [e] at hb; exact .inl (h.Fa b hb)
      · have := (h3.block_lt hb).2
        rw [e] at hb
        simp only [Option.some.injEq] at hb
        subst hb
        exact .inr ⟨hb.size, this⟩
    · rcases List.mem_append.1 hx with hx | hx
      · exact .inl (h.Fb x hx b hb)
      · rw [List.mem_singleton.1 hx] at hb; cases hb
  · exact ((Only.of_below hb F).trans ho fun b hb => .inl (h.Fa b hb)).setCell (p := ⟨d, 2, none⟩) (.inl h.Fd) _
end
section
variable {w0 w w1 w2 : World} {F G : Blocks} {d : Nat} {s t : Disk.St}
set_option maxRecDepth 100000 in
set_option maxHeartbeats 4000000 in
theorem refMake_any (nm : ByteArray) (HA : Hid (RefFA w F d s)) (hnm : Hid (nm.size ≤ maxLen)) (ht : 0 ≤ s.tries ∧ s.tries ≤ 4611686018427387904) (hdn : 0 ≤ s.done ∧ s.done ≤ 4611686018427387904) (hnl : s.now.length ≤ 2147483647) (hrl : s.row.length ≤ 1099511627776) (hal : s.all.length ≤ 1099511627776) :
    Calls Tryz.prog 45 #[.pointer (some ⟨d, 0, none⟩), .string nm] w (RefCall w F d (s.make nm.data.toList)) := by
  have HLT := Lib.hid HA.out.lt
  obtain ⟨W, hW⟩ : ∃ W, W = w.alloc (.cells #[.string nm] 9) := ⟨_, rfl⟩
  obtain ⟨wb, hwb⟩ : ∃ b, b = w.heap.size := ⟨_, rfl⟩
  have hbW : Below w.heap.size w W := by rw [hW]; exact Below.alloc (Below.refl _ _) (Nat.le_refl _) _
  have HAW : Hid (RefFA W F d s) := Lib.hid (HA.out.far hbW)
  have hrow : SliceAt Rep.str W (fun b => b = w.heap.size ∨ nob b) (some ⟨wb, 0, none⟩) 1 [nm] := by rw [hW, hwb]; exact str_one w nm 9 hnm.out
  have hsz : W.heap.size = w.heap.size + 1 := by rw [hW]; simp
  have HTRY := Lib.hid (refTry_any (w := W) [nm] ⟨#[]⟩ (some ⟨wb, 0, none⟩) 1 1 _ HAW (Lib.hid rfl) (Lib.hid hrow) (Lib.hid fun b hb => hb.elim (fun h => by rw [h, hsz]; omega) fun h => h.elim) ht)
  have hkp := tryS_kept s [nm.data.toList] []
  have K0 : Hid (∀ w1 t, Rk W w1 F d t → Rk w w1 F d t) := Lib.hid fun w1 t h => by rw [hW] at h; exact h.alloc HLT.out
  go_enter Tryz.func45, Tryz.ntmps45
  go_wp2_with fail
  rw [← hwb, ← hW]
  clear hW hbW hrow hsz hwb
  refine HTRY.out.mono ?_
  rintro e w1 ⟨rfl, h1, h2⟩
  have K1 : Hid (Rk w w1 F d (s.tryS [nm.data.toList] []).1) := Lib.hid (K0.out _ _ ⟨h1, h2⟩)
  rw [show s.tryS (List.map (fun x : ByteArray => x.data.toList) [nm]) (⟨#[]⟩ : ByteArray).data.toList = s.tryS [nm.data.toList] [] from rfl]
  obtain ⟨r, hr⟩ : ∃ r, s.tryS [nm.data.toList] [] = r := ⟨_, rfl⟩
  have HRR := Lib.hid hr
  rw [hr] at K1 hkp ⊢
  obtain ⟨t, ev⟩ := r
  simp only at K1 hkp ⊢
  obtain ⟨k1, k2, k3, k4, k5⟩ := hkp
  clear h1 h2 hr HTRY K0
  have HC : Hid (s.make nm.data.toList = if ev ≠ 0 then (t, ev) else makeF nm.data.toList t) := Lib.hid (by
    have h := call_try s [nm.data.toList] [] (makeF nm.data.toList)
    rw [HRR.out] at h
    exact h)
  by_cases hev : ev = 0
  case neg =>
    have hb0 : (ev != 0) = true := bne_iff_ne.2 hev
    have HC2 := Lib.hid (HC.out.trans (if_pos hev))
    clear hev
    go_wp2_with fail
    go_ret
    rw [HC2.out]
    exact K1.out.done rfl
  subst hev
  have HC2 := Lib.hid (HC.out.trans (if_neg (by simp)))
  have hne : nm.data.toList ≠ [] := by
    have h := HRR.out
    unfold Disk.St.tryS at h
    split at h
    · rename_i h3; exact absurd (Prod.mk.inj h).2 h3
    · rename_i h3
      exact Disk.isName_ne (Disk.looked_name (s := s) (names := [nm.data.toList]) (by simpa using h3) nm.data.toList (by simp))
  obtain ⟨av, nv, ov, rv, pv, vs, hR⟩ := K1.out.at_
  obtain ⟨NA, NC, rfl, hsn⟩ := hR.now
  obtain ⟨nn, hnn⟩ : ∃ x, x = t.now.length := ⟨_, rfl⟩
  have HNN := Lib.hid hnn
  have c3 := hR.cell 3 _ rfl
  rw [← hnn] at c3
  have HSN := Lib.hid hsn
  have HRX := Lib.hid hR
  obtain ⟨fi, hfi⟩ : ∃ x, x = findI t.now nm.data.toList := ⟨_, rfl⟩
  have HFI : Hid (Disk.find t.now nm.data.toList = none ↔ fi < 0) := Lib.hid (by
    rw [hfi]; unfold findI
    cases hq : Disk.find t.now nm.data.toList with
    | none => simp
    | some i => simp)
  have HFD : Hid (Calls Tryz.prog 93 #[.slice NA nn NC, .string nm] w1 fun e w' => e = .returned (.int .i64 fi) ∧ w' = w1) := Lib.hid (by
    refine (refFind_any (w := w1) t.now nm NA nn NC _ HNN HSN).mono ?_
    rintro e w' ⟨rfl, rfl⟩
    exact ⟨by rw [hfi], rfl⟩)
  have hrow9 := hR.all.form
  clear hR hsn hnn hfi
  go_upto_region 4 with fail
  go_cut [27] from 13 to 27 (fun v wc => ∃ q, v = .bool q ∧ Hid (q = decide (fi < 0 ∧ 64 ≤ nn)) ∧ Hid (∃ m, wc = w1.drewN m))
  case first =>
    by_cases hz : fi < 0
    · have hz1 : decide (fi < 0) = true := decide_eq_true hz
      go_wp2_with fail
      refine HFD.out.mono ?_
      rintro e w9 ⟨rfl, rfl⟩
      go_wp2_with fail
      go_meet
      case rel => exact ⟨_, rfl, Lib.hid (by simp only [hz, true_and]; exact decide_eq_decide.2 (by omega)), Lib.hid ⟨0, rfl⟩⟩
    · have hz1 : decide (fi < 0) = false := decide_eq_false hz
      go_wp2_with fail
      refine HFD.out.mono ?_
      rintro e w9 ⟨rfl, rfl⟩
      go_wp2_with fail
      go_meet
      case rel => exact ⟨_, rfl, Lib.hid (decide_eq_false fun h => by have := h.1; omega).symm, Lib.hid ⟨0, rfl⟩⟩
  case rest =>
    obtain ⟨q, rfl, HQ, HB⟩ := hcut
    clear c3 HFD hrow9
    obtain ⟨m9, hm9⟩ := HB.out
    have hb1c : Below w1.heap.size w1 wc := by rw [hm9]; exact below_dr _ _
    have hgc : grow F w w1 = grow F w wc := by rw [hm9]; rfl
    have Kc := Lib.hid (K1.out.far HLT.out hb1c)
    have hRc : RefF wc (grow F w wc) d t av (.slice NA nn NC) ov rv pv vs := by rw [← hgc, HNN.out]; exact HRX.out.far hb1c
    have HRc := Lib.hid hRc
    clear hm9 hgc HB
    have hAP : makeF nm.data.toList t = if fi < 0 ∧ 64 ≤ nn then (t, 22) else ((Disk.St.changes (mkS t) ⟨[], nm.data.toList, t.all.length⟩).more, 0) := by
      unfold makeF
      by_cases h : fi < 0 ∧ 64 ≤ nn
      · rw [if_pos h, if_pos ⟨HFI.out.2 h.1, by rw [← HNN.out]; exact h.2⟩]
      · rw [if_neg h, if_neg fun h2 => h ⟨HFI.out.1 h2.1, by rw [HNN.out]; exact h2.2⟩]
    have HAP := Lib.hid hAP
    clear hAP
    cases q
    · have HC3 := Lib.hid (HC2.out.trans (HAP.out.trans (if_neg (of_decide_eq_false HQ.out.symm))))
      obtain ⟨aA, an, aC, rfl, hanl, hac, hacm⟩ := hRc.all.form
      have c2 := hRc.cell 2 _ rfl
      have hal2 : an ≤ 1099511627776 := by rw [hanl.out, hRc.len, k3]; exact hal
      have han3 : Hid (t.all.length = an) := Lib.hid (by rw [hanl.out, hRc.len])
      have hglt : d < wc.heap.size := hRc.lt d hRc.Fd
      have c2a : ∀ ob, (wc.alloc ob).cell? ⟨d, 2, none⟩ = some (.slice aA an aC) := fun ob => ((Below.alloc (Below.refl wc.heap.size wc) (Nat.le_refl _) ob).cell (p := ⟨d, 2, none⟩) hglt).trans c2
      clear hRc hb1c
      go_upto_region 7 with (at_builtin; refine wpList_append_Own _ rfl (.tmp 32) (.tmp 34) 88 rfl Rep.nodeV 0 95 40 stNode nob (.slice aA an aC) vs rfl (HRc.out.all.alloc _) _ (some ⟨_, 0, none⟩) 1 [(⟨[], 0, false⟩, .slice none 0 0)] rfl (SliceAt.new1 Rep.nodeV _ _ _ ((⟨[], 0, false⟩ : Disk.Nd), Value.slice none 0 0) nob ⟨rfl, by simp, rfl⟩ (fun _ h => h.elim)) nob (fun _ h => h.elim) (fun _ h => h) (fun _ _ h => h) (by have := hanl.out; simp <;> omega) (by have := hanl.out; simp <;> omega) (Nat.zero_le _) ?_; intro v3 w3 hown3 hg3 hat3; obtain ⟨tA, tn, tc, rfl, htl, -, -⟩ := hown3.form; obtain ⟨hm3, s1, s2, ho3⟩ := HRc.out.made (Below.alloc (Below.refl _ _) (Nat.le_refl _) _) hg3 hat3 hown3; have HM3 := Lib.hid hm3; have HO3 := Lib.hid ho3; have HTL := Lib.hid htl.out; clear hown3 hg3 hat3 hm3 ho3 htl)
      have htn : tn = an + 1 := by have := HTL.out; rw [List.length_append] at this; have h2 := hanl.out; simp only [List.length_cons, List.length_nil] at this; omega
      subst htn
      obtain ⟨w4, hw4⟩ : ∃ W, W = w3.setCell ⟨d, 2, none⟩ (.slice tA (an + 1 : Nat) tc) := ⟨_, rfl⟩
      rw [← hw4] at HM3 HO3
      rw [← hw4]
      clear hw4 s1 s2 c2 c2a
      have K3 := Lib.hid (Kc.out.next HLT.out (t := mkS t) (HM3.out.at_.up (fun b hb => hb) HM3.out.lt) HO3.out)
      have c2 := HM3.out.cell 2 _ rfl
      have HCH := Lib.hid (refChanges_any (w := w4) ⟨#[]⟩ nm an (Lib.hid K3.out.at_) (Lib.hid (Nat.zero_le _)) hnm (by omega) (Lib.hid (.inr hne)) (by show t.now.length ≤ _; rw [k4]; exact hnl) (by show t.row.length ≤ _; rw [k1]; exact hrl))
      go_wp2_with fail
      refine HCH.out.mono ?_
      rintro e w5 ⟨rfl, h1, h2⟩
      have K5 := Lib.hid (K3.out.next HLT.out h1 h2)
      obtain ⟨t2, ht2⟩ : ∃ x, x = (mkS t).changes (chgOf ⟨#[]⟩ nm an) := ⟨_, rfl⟩
      rw [← ht2] at K5
      have HT2 : Hid ((mkS t).changes ⟨[], nm.data.toList, t.all.length⟩ = t2) := Lib.hid (by rw [ht2, han3.out]; rfl)
      have hdt : t2.done = s.done := by rw [ht2]; exact k2
      clear h1 h2 HCH c2 ht2
      obtain ⟨av, nv, ov, rv, pv, vs, hR⟩ := K5.out.at_
      have c8 := hR.cell 8 _ rfl
      have f8 := hR.frozen 8
      rw [← hdt] at hdn
      obtain ⟨dn, hdn2⟩ : ∃ x, x = t2.done := ⟨_, rfl⟩
      rw [← hdn2] at c8 hdn
      obtain ⟨hd1, hd2⟩ := hdn
      have K6 := Lib.hid (K5.out.set HLT.out (hR.setN (t := t2.more) (k := 8) (u := .int .i64 (dn + 1)) (by rw [hdn2]; rfl) rfl rfl rfl rfl rfl))
      clear hR hdt hdn2
      go_wp2_with fail
      go_ret
      rw [HC3.out, HT2.out]
      exact K6.out.done rfl
    · have HC3 := Lib.hid (HC2.out.trans (HAP.out.trans (if_pos (of_decide_eq_true HQ.out.symm))))
      clear hRc hb1c
      go_wp2_with fail
      go_ret
      rw [HC3.out]
      exact Kc.out.done rfl
end
end Go.Proofs.YtncpeogkccjmcaaGreatDoor
namespace Go.Proofs.YtncpeogkccjmcaaGreatDoor
open Go.RowKit Go.ChangeShapes Go.WideShapes Go.Deep

def appF (bs : List UInt8) (nm : Disk.Nm) (s : Disk.St) : Disk.St × Int := if 0 < bs.length ∧ s.room - (s.size s.now : Int) < (bs.length : Int) then (s, 22) else ((s.setNd ((Disk.find s.now nm).getD 0) fun d => { d with bytes := d.bytes ++ bs }).more, 0)
section
variable {w0 w w1 w2 : World} {F G : Blocks} {d : Nat} {s t : Disk.St}
set_option maxRecDepth 100000 in
set_option maxHeartbeats 4000000 in
theorem refAppend_any (nm : ByteArray) (B : Option Addr) (bk cb : Nat) (bs : List UInt8) (S : Blocks) (hbk : Hid (bk = bs.length)) (hB0 : Hid (SliceAt Rep.byte w S B cb bs)) (hS : Hid (∀ b, S b → b < w.heap.size ∧ ¬ F b)) (hbb : bk ≤ 1099511627776) (HA : Hid (RefFA w F d s)) (hnm : Hid (nm.size ≤ maxLen)) (ht : 0 ≤ s.tries ∧ s.tries ≤ 4611686018427387904) (hdn : 0 ≤ s.done ∧ s.done ≤ 4611686018427387904) (hnl : s.now.length ≤ 2147483647) (hrl : s.row.length ≤ 1099511627776) (hids : ∀ i ∈ Disk.ids s.now, i < s.all.length) (hbig : ∀ d ∈ s.all, d.bytes.length ≤ 16777216) (hsum : s.size s.now ≤ 1152921504606846976) :
    Calls Tryz.prog 46 #[.pointer (some ⟨d, 0, none⟩), .string nm, .slice B bk cb] w (RefCall w F d (s.append nm.data.toList bs)) := by
  have HLT := Lib.hid HA.out.lt
  obtain ⟨W, hW⟩ : ∃ W, W = w.alloc (.cells #[.string nm] 9) := ⟨_, rfl⟩
  obtain ⟨wb, hwb⟩ : ∃ b, b = w.heap.size := ⟨_, rfl⟩
  have hbW : Below w.heap.size w W := by rw [hW]; exact Below.alloc (Below.refl _ _) (Nat.le_refl _) _
  have HAW : Hid (RefFA W F d s) := Lib.hid (HA.out.far hbW)
  have hrow : SliceAt Rep.str W (fun b => b = w.heap.size ∨ nob b) (some ⟨wb, 0, none⟩) 1 [nm] := by rw [hW, hwb]; exact str_one w nm 9 hnm.out
  have hsz : W.heap.size = w.heap.size + 1 := by rw [hW]; simp
  have HTRY := Lib.hid (refTry_any (w := W) [nm] nm (some ⟨wb, 0, none⟩) 1 1 _ HAW (Lib.hid rfl) (Lib.hid hrow) (Lib.hid fun b hb => hb.elim (fun h => by rw [h, hsz]; omega) fun h => h.elim) ht)
  have hkp := tryS_kept s [nm.data.toList] nm.data.toList
  have K0 : Hid (∀ w1 t, Rk W w1 F d t → Rk w w1 F d t) := Lib.hid fun w1 t h => by rw [hW] at h; exact h.alloc HLT.out
  go_enter Tryz.func46, Tryz.ntmps46
  go_wp2_with fail
  rw [← hwb, ← hW]
  clear hW hbW hrow hsz hwb
  refine HTRY.out.mono ?_
  rintro e w1 ⟨rfl, h1, h2⟩
  have K1 : Hid (Rk w w1 F d (s.tryS [nm.data.toList] nm.data.toList).1) := Lib.hid (K0.out _ _ ⟨h1, h2⟩)
  rw [show s.tryS (List.map (fun x : ByteArray => x.data.toList) [nm]) nm.data.toList = s.tryS [nm.data.toList] nm.data.toList from rfl]
  obtain ⟨r, hr⟩ : ∃ r, s.tryS [nm.data.toList] nm.data.toList = r := ⟨_, rfl⟩
  have HRR := Lib.hid hr
  rw [hr] at K1 hkp ⊢
  obtain ⟨t, ev⟩ := r
  simp only at K1 hkp ⊢
  obtain ⟨k1, k2, k3, k4, k5⟩ := hkp
  clear h1 h2 hr HTRY K0
  have HC : Hid (s.append nm.data.toList bs = if ev ≠ 0 then (t, ev) else appF bs nm.data.toList t) := Lib.hid (by
    have h := call_try s [nm.data.toList] nm.data.toList (appF bs nm.data.toList)
    rw [HRR.out] at h
    exact h)
  by_cases hev : ev = 0
  case neg =>
    have hb0 : (ev != 0) = true := bne_iff_ne.2 hev
    have HC2 := Lib.hid (HC.out.trans (if_pos hev))
    clear hev
    go_wp2_with fail
    go_ret
    rw [HC2.out]
    exact K1.out.done rfl
  subst hev
  have HC2 := Lib.hid (HC.out.trans (if_neg (by simp)))
  have hfound : nm.data.toList ≠ [] ∧ ∃ i, Disk.find t.now nm.data.toList = some i := by
    have h := HRR.out
    unfold Disk.St.tryS at h
    split at h
    · rename_i h3; exact absurd (Prod.mk.inj h).2 h3
    · rename_i h3
      split at h
      · rename_i h4; exact absurd (Prod.mk.inj h).2 h4
      · rename_i h4
        have hn := Disk.isName_ne (Disk.looked_name (s := s) (names := [nm.data.toList]) (by simpa using h3) nm.data.toList (by simp))
        rw [k4]
        exact ⟨hn, Disk.looked_file hn (by simpa using h4)⟩
  obtain ⟨hne, i, hi⟩ := hfound
  have hil : i < t.all.length := by rw [k3]; exact hids i (List.mem_map.2 ⟨(nm.data.toList, i), Disk.mem_of_find (by rw [← k4]; exact hi), rfl⟩)
  have HFI : Hid (findI t.now nm.data.toList = i) := Lib.hid (by unfold findI; rw [hi])
  obtain ⟨av, nv, ov, rv, pv, vs, hR⟩ := K1.out.at_
  have hiv : i < vs.length := by rw [hR.len]; exact hil
  obtain ⟨g, n, c, rfl, hn, hFg, hgd, n0, n1, n2, nf, hsyn, -⟩ := hR.node hiv
  obtain ⟨NA, NC, rfl, hsn⟩ := hR.now
  obtain ⟨nn, hnn⟩ : ∃ x, x = t.now.length := ⟨_, rfl⟩
  have c2 := hR.cell 2 _ rfl
  have c3 := hR.cell 3 _ rfl
  rw [← hnn] at c3
  have HFD : Hid (∀ m, Calls Tryz.prog 93 #[.slice NA nn NC, .string nm] (w1.drewN m) fun e w' => e = .returned (.int .i64 (i : Nat)) ∧ ∃ q, w' = w1.drewN q) := Lib.hid fun m => by
    refine (refFind_any (w := w1.drewN m) t.now nm NA nn NC _ (Lib.hid hnn) (Lib.hid (hsn.drewN m))).mono ?_
    rintro e w' ⟨rfl, rfl⟩
    exact ⟨by rw [HFI.out], m, rfl⟩
  have hmem : (vs[i]).1 ∈ t.all := by rw [← hR.is_]; exact List.mem_map.2 ⟨vs[i], List.getElem_mem hiv, rfl⟩
  obtain ⟨bn, hbn⟩ : ∃ x, x = (vs[i]).1.bytes.length := ⟨_, rfl⟩
  have hbnb : bn ≤ 1099511627776 := by rw [hbn]; have := hbig (vs[i]).1 (by rw [← k3]; exact hmem); omega
  have hform := hR.rows.own ((vs[i]).2, (vs[i]).1.bytes) (List.mem_map.2 ⟨vs[i], List.getElem_mem hiv, rfl⟩)
  obtain ⟨BA, bn2, BC, hbv, hbl, hbc, hbm⟩ := hform.form
  simp only at hbv
  have hb2 : bn2 = bn := by rw [hbl.out, hbn]
  rw [hbv, hb2] at n0
  have hbc2 : bn ≤ BC := by rw [← hb2]; exact hbc
  have HRX := Lib.hid hR
  have hinl : i < n := by rw [hn.out]; exact hiv
  have hini : (i : Int) < (n : Int) := by omega
  have HFD2 : Hid ((Disk.find t.now nm.data.toList).getD 0 = i) := Lib.hid (by rw [hi]; rfl)
  have hmem2 : ((vs[i]).2, (vs[i]).1.bytes) ∈ vs.map fun x => (x.2, x.1.bytes) := List.mem_map.2 ⟨vs[i], List.getElem_mem hiv, rfl⟩
  have HOWN : Hid (Own Rep.byte 5 w1 0 nob (.slice BA bn BC) (vs[i]).1.bytes) := Lib.hid (by have := hR.rows.own _ hmem2; rw [hbv, hb2] at this; exact this)
  have HBV : Hid ((vs[i]).2 = .slice BA bn BC) := Lib.hid (by rw [hbv, hb2])
  have HBN := Lib.hid hbn
  have HNN := Lib.hid hnn
  have HSN := Lib.hid hsn
  have HFI2 := Lib.hid HFI.out
  have HKO := Lib.hid K1.out.only
  have hBw : Hid (SliceAt Rep.byte w1 S B cb bs) := Lib.hid (hB0.out.keep (S' := S) (fun _ h => h) fun b hb => HKO.out.block b (hS.out b hb).1 (hS.out b hb).2)
  have hbc9 : bk ≤ cb := by rw [hbk.out]; exact hBw.out.len
  have hbm9 := hBw.out.max
  have c0 := hR.cell 0 _ rfl
  obtain ⟨room, hroom⟩ : ∃ x, x = t.room := ⟨_, rfl⟩
  rw [← hroom] at c0
  have HROOM := Lib.hid hroom
  obtain ⟨sz, hsz⟩ : ∃ x, x = t.size t.now := ⟨_, rfl⟩
  have HSZ := Lib.hid hsz
  have hsz1 : sz ≤ 1152921504606846976 := by rw [hsz, show t.size t.now = s.size s.now by unfold Disk.St.size; rw [k3, k4]]; exact hsum
  have HSUM : Hid (∀ m, Calls Tryz.prog 95 #[.pointer (some ⟨d, 0, none⟩)] (w1.drewN m) fun e w' => e = .returned (.int .i64 (sz : Nat)) ∧ ∃ q, w' = w1.drewN q) := Lib.hid fun m => by
    refine (refSum_any (w := w1.drewN m) (F := grow F w w1) (d := d) (s := t) (Lib.hid (K1.out.at_.far (below_dr _ _))) (by rw [k3, k4]; exact hids) (Lib.hid (by omega))).mono ?_
    rintro e w' ⟨rfl, q, rfl⟩
    exact ⟨by rw [hsz], m + q, by rw [World.drewN_drewN]⟩
  have NF := Lib.hid nf
  have HGD := Lib.hid hgd
  have HFG := Lib.hid hFg
  clear hR hne hi hil hn hgd n1 n2 nf hsyn hsn hnn hmem hbn hform hbv hbl hbc hb2 hFg HFI hroom hsz hmem2 hbm
  go_upto_region 4 with fail
  go_cut [31] from 17 to 31 (fun v wc => ∃ q, v = .bool q ∧ Hid (q = decide (0 < bk ∧ room - sz < bk)) ∧ Hid (∃ m, wc = w1.drewN m))
  case first =>
    by_cases hz : bk = 0
    · subst hz
      have hz1 : decide ((0 : Int) < ((0 : Nat) : Int)) = false := rfl
      go_quiet (fail)
      go_wp2_with fail
      go_meet
      case rel => exact ⟨false, rfl, Lib.hid (by simp), Lib.hid ⟨_, rfl⟩⟩
    · have hz1 : decide ((0 : Int) < (bk : Int)) = true := decide_eq_true (by omega)
      have hz2 : 0 < bk := by omega
      go_quiet ((go_at_call 95; exact HSUM.out _))
      go_wp2_with fail
      go_meet
      case rel => exact ⟨_, rfl, Lib.hid (by simp only [hz2, true_and]; exact decide_eq_decide.2 (by omega)), Lib.hid ⟨_, rfl⟩⟩
  case rest =>
    obtain ⟨q, rfl, HQ, HB⟩ := hcut
    clear c0 c2 c3 n0 HFD HSUM
    obtain ⟨m9, hm9⟩ := HB.out
    have hb1c : Below w1.heap.size w1 wc := by rw [hm9]; exact below_dr _ _
    have hgc : grow F w w1 = grow F w wc := by rw [hm9]; rfl
    have Kc := Lib.hid (K1.out.far HLT.out hb1c)
    have hRc : RefF wc (grow F w wc) d t (.slice (some ⟨g, 0, none⟩) n c) (.slice NA nn NC) ov rv pv vs := by rw [← hgc, HNN.out]; exact HRX.out.far hb1c
    have HRc := Lib.hid hRc
    have HOWc : Hid (Own Rep.byte 5 wc 0 nob (.slice BA bn BC) (vs[i]).1.bytes) := Lib.hid (HOWN.out.far hb1c)
    have HBc : Hid (SliceAt Rep.byte wc S B cb bs) := Lib.hid (by rw [hm9]; exact hBw.out.drewN m9)
    have NFc : Hid (∀ j, wc.frozen? ⟨g, j, none⟩ = false) := Lib.hid (by rw [hm9]; exact NF.out)
    clear hm9 hgc HB
    have hAP : appF bs nm.data.toList t = if 0 < bk ∧ room - sz < bk then (t, 22) else ((t.setNd i fun d => { d with bytes := d.bytes ++ bs }).more, 0) := by
      unfold appF
      rw [HFD2.out, HROOM.out, HSZ.out, hbk.out]
    have HAP := Lib.hid hAP
    clear hAP
    cases q
    · have HC3 := Lib.hid (HC2.out.trans (HAP.out.trans (if_neg (of_decide_eq_false HQ.out.symm))))
      have c2 := hRc.cell 2 _ rfl
      have c3 := hRc.cell 3 _ rfl
      have n0 : wc.cell? ⟨g, i * 3, none⟩ = some (.slice BA bn BC) := by
        obtain ⟨g9, n9, c9, he9, -, -, -, q1, -⟩ := hRc.node hiv
        simp only [Value.slice.injEq, Option.some.injEq, Addr.mk.injEq] at he9
        obtain ⟨⟨rfl, -⟩, -, -⟩ := he9
        rw [q1, HBV.out]
      have HSNc : Hid (SliceAt Rep.ent wc (EntIn w1 (grow F w w1)) NA NC t.now) := Lib.hid (HSN.out.keep (fun _ h => h) (Same.of_below hb1c fun b h => h.lt))
      have HFD : Hid (∀ m, Calls Tryz.prog 93 #[.slice NA nn NC, .string nm] (wc.drewN m) fun e w' => e = .returned (.int .i64 (i : Nat)) ∧ ∃ q, w' = wc.drewN q) := Lib.hid fun m => by
        refine (refFind_any (w := wc.drewN m) t.now nm NA nn NC _ HNN (Lib.hid (HSNc.out.drewN m))).mono ?_
        rintro e w' ⟨rfl, rfl⟩
        exact ⟨by rw [HFI2.out], m, rfl⟩
      clear hRc hb1c
      go_upto_region 6 with fail
      go_quiet ((go_at_call 93; exact HFD.out _))
      generalize hW : World.drewN _ _ = w2
      have hbc2 : Below wc.heap.size wc w2 := by rw [← hW]; exact below_dr _ _
      have hglt : g < wc.heap.size := World.block_lt_of_cell? wc _ n0
      have hgr2 : grow F w wc = grow F w w2 := by rw [← hW]; rfl
      have m0 := (hbc2.cell (p := ⟨g, i * 3, none⟩) hglt).trans n0
      have HR2 : Hid (RefF w2 (grow F w w2) d t (.slice (some ⟨g, 0, none⟩) n c) (.slice NA nn NC) ov rv pv vs) := Lib.hid (by rw [← hgr2]; exact HRc.out.far hbc2)
      have K2 := Lib.hid (Kc.out.far HLT.out hbc2)
      have HOW2 : Hid (Own Rep.byte 5 w2 0 nob (.slice BA bn BC) (vs[i]).1.bytes) := Lib.hid (HOWc.out.far hbc2)
      have HB2 : Hid (SliceAt Rep.byte w2 S B cb bs) := Lib.hid (by rw [← hW]; exact HBc.out.drewN _)
      clear n0 c2 c3 hW hgr2 HFD hglt
      go_upto_region 8 with (at_builtin; refine wpList_append_bytes _ rfl (.tmp 47) (.tmp 48) 67 rfl 0 5 stBytes _ _ rfl HOW2.out _ _ _ _ _ rfl HB2.out hbk.out.symm (by have := HBN.out; omega) (Nat.zero_le _) ?_; intro v3 w3 hown3 hg3 hat3; obtain ⟨tA, tn, tc, rfl, -, -, -⟩ := hown3.form; obtain ⟨hm3, ho3, s1, s2⟩ := HR2.out.bytes hiv (Below.refl _ _) (by rw [HBV.out]; exact hg3) (by rw [HBV.out]; exact hat3) hown3; have HM3 := Lib.hid hm3; have HO3 := Lib.hid ho3; clear hown3 hg3 hat3 hm3 ho3)
      obtain ⟨w4, hw4⟩ : ∃ W, W = w3.setCell ⟨g, i * 3, none⟩ (.slice tA tn tc) := ⟨_, rfl⟩
      rw [← hw4] at HM3 HO3
      rw [← hw4]
      clear hw4 s1 s2 m0
      have K3 := Lib.hid (K2.out.next HLT.out (t := t.setNd i fun e => { e with bytes := e.bytes ++ bs }) (HM3.out.at_.up (fun b hb => hb) HM3.out.lt) HO3.out)
      obtain ⟨t2, ht2⟩ : ∃ x, x = t.setNd i fun d => { d with bytes := d.bytes ++ bs } := ⟨_, rfl⟩
      rw [← ht2] at K3 HC3
      have hdt : t2.done = s.done := by rw [ht2]; exact k2
      clear ht2
      obtain ⟨av, nv, ov, rv, pv, vs, hR⟩ := K3.out.at_
      have c8 := hR.cell 8 _ rfl
      have f8 := hR.frozen 8
      rw [← hdt] at hdn
      obtain ⟨dn, hdn2⟩ : ∃ x, x = t2.done := ⟨_, rfl⟩
      rw [← hdn2] at c8 hdn
      obtain ⟨hd1, hd2⟩ := hdn
      have K4 := Lib.hid (K3.out.set HLT.out (hR.setN (t := t2.more) (k := 8) (u := .int .i64 (dn + 1)) (by rw [hdn2]; rfl) rfl rfl rfl rfl rfl))
      clear hR hdt hdn2
      go_wp2_with fail
      go_ret
      rw [HC3.out]
      exact K4.out.done rfl
    · have HC3 := Lib.hid (HC2.out.trans (HAP.out.trans (if_pos (of_decide_eq_true HQ.out.symm))))
      clear hRc hb1c
      go_wp2_with fail
      go_ret
      rw [HC3.out]
      exact Kc.out.done rfl
end
end Go.Proofs.YtncpeogkccjmcaaGreatDoor
