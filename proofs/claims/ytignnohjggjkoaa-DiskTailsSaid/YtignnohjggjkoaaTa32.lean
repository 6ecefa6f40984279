/- Texts that lead to the claim, one behind the other: The writing calls of a disk: Make, Append, Sync, Rename, Remove, SyncDir (spoil; printed by gen/diskcalls.py). Condition: the counts are below 2^40. -/
import Derived.Test.YtignnohjggjkoaaTa30
import Derived.Deep.RegionHeld3
import Derived.IntWalk
namespace Go.Proofs.Ytignnohjggjkoaa
open Go.RowKit Go.ChangeShapes Go.WideShapes Go.Deep

section
variable {w w' : World} {F G : Blocks} {d : Nat} {s : Disk.St} {loc : Nat → Nat} {blk : Nat → Option Nat} {bn bo : Nat} {rowv : Value} {pA : Option Addr} {pC : Nat}
set_option maxRecDepth 100000 in
set_option maxHeartbeats 2000000 in
theorem spoil_any (n : ByteArray) (b : Bool) (hn : n.size ≤ maxLen) (HA : Hid (DiskAt w F d s)) (hf : Hid (Disk.Fine s)) :
    Calls Try.prog 33 #[.pointer (some ⟨d, 0, none⟩), .string n, .bool b] w (DiskCall w F d (s.spoil n.data.toList b)) := by
  obtain ⟨loc, blk, bn, bo, rowv, pA, pC, hB⟩ := HA.out
  have H := Lib.hid hB
  have hlt := Lib.hid hB.lt
  have hb0 := Below.refl w.heap.size w
  clear hB HA
  obtain ⟨q1, hq1⟩ : ∃ q, s.looked [] [n.data.toList] = q := ⟨_, rfl⟩
  by_cases h1 : q1 = 0
  · subst h1
    have HQ1 := Lib.hid hq1
    obtain ⟨q2, hq2⟩ : ∃ q, s.looked n.data.toList [] = q := ⟨_, rfl⟩
    by_cases h2 : q2 = 0
    · subst h2
      have HQ2 := Lib.hid hq2
      obtain ⟨i, hi⟩ := Disk.looked_file (Disk.isName_ne ((Disk.names_of hq1).2 _ (by simp))) hq2
      have HI := Lib.hid hi
      clear hq1 hq2 hi
      go_enter Try.func33, Try.ntmps33
      go_wp2_with fail
      refine (look1_ok n H hn HQ1.out w hb0).mono ?_
      rintro e w1 ⟨rfl, hb1⟩
      go_wp2_with fail
      refine (look2_ok n H hn HQ2.out HI.out w1 hb1).mono ?_
      rintro e w2 ⟨rfl, hb2⟩
      have HD := Lib.hid (H.out.far hb2)
      have HO := Lib.hid (Only.of_below hb2 F)
      obtain ⟨nd, hnd⟩ : ∃ nd, s.all[i]? = some nd := by
        exact ⟨_, List.getElem?_eq_getElem (hf.out.nowI i (List.mem_map.2 ⟨_, Disk.mem_of_find HI.out, rfl⟩))⟩
      obtain ⟨A, c, hh, hrow⟩ := HD.out.files i nd hnd
      obtain ⟨m, hm⟩ : ∃ m, m = nd.bytes.length := ⟨_, rfl⟩
      rw [← hm] at hh
      have HH := Lib.hid hh
      have HM := Lib.hid hm
      have HND := Lib.hid hnd
      have HROW := Lib.hid hrow
      have k0 : w2.cell? ⟨loc i, 0, none⟩ = some (.slice A m c) := (cell_of_row w2 _ 0 _ _ (0, 0) hh).trans rfl
      have k1 : w2.cell? ⟨loc i, 1, none⟩ = some (.int .i64 nd.syn) := (cell_of_row w2 _ 1 _ _ (0, 0) hh).trans rfl
      have kf : ∀ o, w2.frozen? ⟨loc i, o, none⟩ = false := fun o => by simp [World.frozen?, hh]
      have hne : d ≠ loc i := ne_cells HD.out.hd hh (by decide)
      clear hh hm hnd hrow
      have HE : Hid (s.spoil n.data.toList b = (s.setNd i fun d => { d with bad := b }, 0)) := Lib.hid (by rw [Disk.spoil_3 HQ1.out HQ2.out, HI.out]; rfl)
      have k2 : w2.cell? ⟨loc i, 2, none⟩ = some (.bool nd.bad) := (cell_of_row w2 _ 2 _ _ (0, 0) HH.out).trans rfl
      go_wp2_with fail
      go_ret
      have ho4 : Only (fun x => x = loc i ∨ some x = blk i) w2 (w2.setCell ⟨loc i, 2, none⟩ (.bool b)) := Only.setCell (Only.refl (fun x => x = loc i ∨ some x = blk i) w2) (.inl (.inl rfl)) _
      have h4 := HD.out.file HND.out (fun d => { d with bad := b }) ho4 (blk' := blk i) ⟨A, c, by simp [World.setCell, Array.getElem?_modify, HH.out, HM.out], HROW.out.same fun x hx => ?_⟩ (.inl rfl)
      · refine ⟨congrArg Ending.returned (by rw [HE.out]; rfl), ?_, ?_⟩
        · rw [HE.out]
          exact h4.ends hlt.out HO.out.size (by simp [World.setCell]) (by have := HO.out.size; simp [World.setCell]; omega)
        · refine HO.out.trans ho4 fun x hx => .inl ?_
          rcases hx with rfl | hx
          · exact HD.out.Fl i (List.getElem?_eq_some_iff.1 HND.out).1
          · exact HD.out.Fb i x (List.getElem?_eq_some_iff.1 HND.out).1 hx.symm
      · obtain ⟨cur, hcur⟩ := HROW.out.ty hx
        exact Below.heap_setCell w2 ⟨loc i, 2, none⟩ _ x (ne_cells hcur HH.out (by decide))
    · have h2b : (q2 != 0) = true := by simpa using h2
      have HE : Hid (s.spoil n.data.toList b = (s, s.looked n.data.toList [])) := Lib.hid (Disk.spoil_2 HQ1.out (by rw [hq2]; exact h2))
      have HQ2 := Lib.hid hq2
      clear hq1 hq2
      go_enter Try.func33, Try.ntmps33
      go_wp2_with fail
      refine (look1_ok n H hn HQ1.out w hb0).mono ?_
      rintro e w1 ⟨rfl, hb1⟩
      go_wp2_with fail
      refine (look2_bad n H hn HQ2.out h2 w1 hb1).mono ?_
      rintro e w2 ⟨rfl, hb2⟩
      go_wp2_with fail
      go_ret
      refine ⟨congrArg Ending.returned (by rw [HE.out, HQ2.out]; rfl), ?_, Only.of_below hb2 F⟩
      rw [HE.out]
      exact (H.out.far hb2).ends0 hlt.out hb2.size
  · have h1b : (q1 != 0) = true := by simpa using h1
    have HE : Hid (s.spoil n.data.toList b = (s, s.looked [] [n.data.toList])) := Lib.hid (Disk.spoil_1 (by rw [hq1]; exact h1))
    have HQ1 := Lib.hid hq1
    clear hq1
    go_enter Try.func33, Try.ntmps33
    go_wp2_with fail
    refine (look1_bad n H hn HQ1.out h1 w hb0).mono ?_
    rintro e w1 ⟨rfl, hb1⟩
    go_wp2_with fail
    go_ret
    refine ⟨congrArg Ending.returned (by rw [HE.out, HQ1.out]; rfl), ?_, Only.of_below hb1 F⟩
    rw [HE.out]
    exact (H.out.far hb1).ends0 hlt.out hb1.size
end
end Go.Proofs.Ytignnohjggjkoaa
