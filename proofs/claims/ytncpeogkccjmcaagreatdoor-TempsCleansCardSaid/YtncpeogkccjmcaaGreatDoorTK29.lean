/- Texts that lead to the claim, one behind the other: The writing calls of a disk: Make, Append, Sync, Rename, Remove, SyncDir (syncdir; printed by gen/diskcalls.py). Condition: the counts are below 2^40. | The writing calls of a disk: Make, Append, Sync, Rename, Remove, SyncDir (sync; printed by gen/diskcalls.py). Condition: the counts are below 2^40. | The writing calls of a disk: Make, Append, Sync, Rename, Remove, SyncDir (rename; printed by gen/diskcalls.py). Condition: the counts are below 2^40. -/
import Derived.Test.YtncpeogkccjmcaaGreatDoorTK12
import Derived.Deep.RegionHeld3
import Derived.IntWalk
namespace Go.Proofs.YtncpeogkccjmcaaGreatDoor
open Go.RowKit Go.ChangeShapes Go.WideShapes Go.Deep

section
variable {w w' : World} {F G : Blocks} {d : Nat} {s : Disk.St} {loc : Nat → Nat} {blk : Nat → Option Nat} {bn bo : Nat} {rowv : Value} {pA : Option Addr} {pC : Nat}
set_option maxRecDepth 100000 in
set_option maxHeartbeats 2000000 in
theorem syncDir_any  (HA : Hid (DiskAt w F d s)) (hf : Hid (Disk.Fine s)) {k : Nat} (hk : Hid (Disk.Small k s)) (hkb : k ≤ 1099511627776) :
    Calls Tryz.prog 28 #[.pointer (some ⟨d, 0, none⟩)] w (DiskCall w F d (s.syncDir)) := by
  obtain ⟨loc, blk, bn, bo, rowv, pA, pC, hB⟩ := HA.out
  have H := Lib.hid hB
  have hlt := Lib.hid hB.lt
  have hb0 := Below.refl w.heap.size w
  clear hB HA
  obtain ⟨q1, hq1⟩ : ∃ q, s.looked [] [] = q := ⟨_, rfl⟩
  by_cases h1 : q1 = 0
  · subst h1
    have HQ1 := Lib.hid hq1
    have HQ2 : Hid (s.looked [] [] = 0) := Lib.hid (Disk.looked_on (Disk.names_of hq1).1 (by simp))
    all_goals
      obtain ⟨s3, q3, hT⟩ := Tried.mk' s
      have HT := Lib.hid hT
      clear hq1 hT
      by_cases h3 : q3 = 0
      · subst h3
        have HE : Hid (s.syncDir = (fun s => (s.settled.more, 0)) s.tried.1) := Lib.hid (Disk.call_4 (names := []) (has := []) (f := fun s => (s.settled.more, 0)) HQ1.out HQ2.out (by rw [HT.out.eq]))
        go_enter Tryz.func28, Tryz.ntmps28
        go_wp2_with fail
        refine (look0_ok H HQ1.out w hb0).mono ?_
        rintro e w1 ⟨rfl, hb1⟩
        go_wp2_with fail
        refine (tried_at H hk hkb HT w1 hb1).mono ?_
        rintro e w9 ⟨rfl, hd3, ho3⟩
        have HD3 := Lib.hid hd3
        have HO3 := Lib.hid ho3
        clear hd3 ho3
        have HF3 := Lib.hid (HT.out.fine hf.out)
        go_wp2_with fail
        refine (settled_any d bn _ s3.now loc _ w9 (Lib.hid HD3.out.now) (Lib.hid HF3.out.good.nowR) (by have := HF3.out.nowL; omega) (Lib.hid HD3.out.hd) (Lib.hid rfl) (Lib.hid (by simp))).mono ?_
        rintro e w10 ⟨rfl, b2, n2, hb2, hf2, hd2, ho2⟩
        have HD10 := Lib.hid (HD3.out.set_ ho2 hd2 hf2 hb2)
        have HO10 : Hid (Only F w9 w10) := Lib.hid (ho2.mono fun x hx => hx ▸ HD3.out.Fd)
        clear hb2 hf2 hd2 ho2
        have k8 : w10.cell? ⟨d, 8, none⟩ = some (.int .i64 s3.done) := HD10.out.cell 8 _ rfl
        have kf8 := HD10.out.frozen 8
        obtain ⟨dn, hdn⟩ : ∃ x, x = s3.done := ⟨_, rfl⟩
        rw [← hdn] at k8
        have hdn1 : 0 ≤ dn ∧ dn ≤ 8796093022208 := by rw [hdn, HT.out.done]; obtain ⟨-, -, a, b, -⟩ := hk.out; omega
        obtain ⟨hdn1, hdn2⟩ := hdn1
        have HDN := Lib.hid hdn
        clear hdn
        go_wp2_with fail
        go_ret
        refine ⟨congrArg Ending.returned (by rw [HE.out]; rfl), ?_, ?_⟩
        · rw [HE.out, HT.out.eq, HDN.out]
          exact HD10.out.more.ends hlt.out HO3.out.size (by simp [World.setCell]) (by have := HO3.out.size; have := HO10.out.size; simp [World.setCell]; omega)
        · exact (HO3.out.trans HO10.out fun x hx => .inl hx).setCell (.inl HD3.out.Fd) _
      · have h3b : (q3 != 0) = true := by simpa using h3
        have HE : Hid (s.syncDir = s.tried) := Lib.hid (Disk.call_3 (names := []) (has := []) (f := fun s => (s.settled.more, 0)) HQ1.out HQ2.out (by rw [HT.out.eq]; exact h3))
        clear h3
        go_enter Tryz.func28, Tryz.ntmps28
        go_wp2_with fail
        refine (look0_ok H HQ1.out w hb0).mono ?_
        rintro e w1 ⟨rfl, hb1⟩
        go_wp2_with fail
        refine (tried_at H hk hkb HT w1 hb1).mono ?_
        rintro e w9 ⟨rfl, hd3, ho3⟩
        have HD3 := Lib.hid hd3
        have HO3 := Lib.hid ho3
        clear hd3 ho3
        go_wp2_with fail
        go_ret
        refine ⟨congrArg Ending.returned (by rw [HE.out, HT.out.eq]; rfl), ?_, HO3.out⟩
        rw [HE.out, HT.out.eq]
        exact HD3.out.ends0 hlt.out HO3.out.size
  · have h1b : (q1 != 0) = true := by simpa using h1
    have HE : Hid (s.syncDir = (s, s.looked [] [])) := Lib.hid (Disk.call_1 (names := []) (has := []) (f := fun s => (s.settled.more, 0)) (by rw [hq1]; exact h1))
    have HQ1 := Lib.hid hq1
    clear hq1
    go_enter Tryz.func28, Tryz.ntmps28
    go_wp2_with fail
    refine (look0_bad H HQ1.out h1 w hb0).mono ?_
    rintro e w1 ⟨rfl, hb1⟩
    go_wp2_with fail
    go_ret
    refine ⟨congrArg Ending.returned (by rw [HE.out, HQ1.out]; rfl), ?_, Only.of_below hb1 F⟩
    rw [HE.out]
    exact (H.out.far hb1).ends0 hlt.out hb1.size
end
end Go.Proofs.YtncpeogkccjmcaaGreatDoor
namespace Go.Proofs.YtncpeogkccjmcaaGreatDoor
open Go.RowKit Go.ChangeShapes Go.WideShapes Go.Deep

section
variable {w w' : World} {F G : Blocks} {d : Nat} {s : Disk.St} {loc : Nat → Nat} {blk : Nat → Option Nat} {bn bo : Nat} {rowv : Value} {pA : Option Addr} {pC : Nat}
set_option maxRecDepth 100000 in
set_option maxHeartbeats 2000000 in
theorem sync_any (n : ByteArray) (hn : n.size ≤ maxLen) (HA : Hid (DiskAt w F d s)) (hf : Hid (Disk.Fine s)) {k : Nat} (hk : Hid (Disk.Small k s)) (hkb : k ≤ 1099511627776) :
    Calls Tryz.prog 38 #[.pointer (some ⟨d, 0, none⟩), .string n] w (DiskCall w F d (s.sync n.data.toList)) := by
  obtain ⟨loc, blk, bn, bo, rowv, pA, pC, hB⟩ := HA.out
  have H := Lib.hid hB
  have hlt := Lib.hid hB.lt
  have hb0 := Below.refl w.heap.size w
  clear hB HA
  obtain ⟨q1, hq1⟩ : ∃ q, s.looked [] [n.data.toList] = q := ⟨_, rfl⟩
  by_cases h1 : q1 = 0
  · subst h1
    have HQ1 := Lib.hid hq1
    obtain ⟨q2, hq2⟩ : ∃ q, s.looked n.data.toList [] = q := ⟨_, rfl⟩
    by_cases h2 : q2 = 0
    · subst h2
      have HQ2 := Lib.hid hq2
      obtain ⟨i, hi⟩ := Disk.looked_file (Disk.isName_ne ((Disk.names_of hq1).2 _ (by simp))) hq2
      have HI := Lib.hid hi
      obtain ⟨s3, q3, hT⟩ := Tried.mk' s
      have HT := Lib.hid hT
      clear hq1 hq2 hT hi
      by_cases h3 : q3 = 0
      · subst h3
        have HE : Hid (s.sync n.data.toList = (fun s => ((s.setNd ((Disk.find s.now n.data.toList).getD 0) fun d => { d with syn := d.bytes.length }).more, 0)) s.tried.1) := Lib.hid (Disk.call_4 (names := [n.data.toList]) (has := n.data.toList) (f := fun s => ((s.setNd ((Disk.find s.now n.data.toList).getD 0) fun d => { d with syn := d.bytes.length }).more, 0)) HQ1.out HQ2.out (by rw [HT.out.eq]))
        go_enter Tryz.func38, Tryz.ntmps38
        go_wp2_with fail
        refine (look1_ok n H hn HQ1.out w hb0).mono ?_
        rintro e w1 ⟨rfl, hb1⟩
        go_wp2_with fail
        refine (look2_ok n H hn HQ2.out HI.out w1 hb1).mono ?_
        rintro e w2 ⟨rfl, hb2⟩
        go_wp2_with fail
        refine (tried_at H hk hkb HT w2 hb2).mono ?_
        rintro e w9 ⟨rfl, hd3, ho3⟩
        have HD3 := Lib.hid hd3
        have HO3 := Lib.hid ho3
        clear hd3 ho3
        obtain ⟨nd, hnd⟩ : ∃ nd, s3.all[i]? = some nd := by
          rw [HT.out.all]
          exact ⟨_, List.getElem?_eq_getElem (hf.out.nowI i (List.mem_map.2 ⟨_, Disk.mem_of_find HI.out, rfl⟩))⟩
        obtain ⟨A, c, hh, hrow⟩ := HD3.out.files i nd hnd
        obtain ⟨m, hm⟩ : ∃ m, m = nd.bytes.length := ⟨_, rfl⟩
        rw [← hm] at hh
        have HH := Lib.hid hh
        have HM := Lib.hid hm
        have HND := Lib.hid hnd
        have HROW := Lib.hid hrow
        have k0 : w9.cell? ⟨loc i, 0, none⟩ = some (.slice A m c) := (cell_of_row w9 _ 0 _ _ (0, 0) hh).trans rfl
        have k1 : w9.cell? ⟨loc i, 1, none⟩ = some (.int .i64 nd.syn) := (cell_of_row w9 _ 1 _ _ (0, 0) hh).trans rfl
        have kf : ∀ o, w9.frozen? ⟨loc i, o, none⟩ = false := fun o => by simp [World.frozen?, hh]
        have hne : d ≠ loc i := ne_cells HD3.out.hd hh (by decide)
        clear hh hm hnd hrow
        have k8 := HD3.out.cell 8 _ rfl
        have kf8 := HD3.out.frozen 8
        obtain ⟨dn, hdn⟩ : ∃ x, x = s3.done := ⟨_, rfl⟩
        rw [← hdn] at k8
        have hdn1 : 0 ≤ dn ∧ dn ≤ 8796093022208 := by rw [hdn, HT.out.done]; obtain ⟨-, -, a, b, -⟩ := hk.out; omega
        obtain ⟨hdn1, hdn2⟩ := hdn1
        have HDN := Lib.hid hdn
        clear hdn
        go_wp2_with fail
        go_ret
        have ho4 : Only (fun x => x = loc i ∨ some x = blk i) w9 (w9.setCell ⟨loc i, 1, none⟩ (.int .i64 (m : Nat))) := Only.setCell (Only.refl (fun x => x = loc i ∨ some x = blk i) w9) (.inl (.inl rfl)) _
        have h4 := HD3.out.file HND.out (fun d => { d with syn := d.bytes.length }) ho4 (blk' := blk i) ⟨A, c, by simp [World.setCell, Array.getElem?_modify, HH.out, HM.out], HROW.out.same fun x hx => ?_⟩ (.inl rfl)
        · refine ⟨congrArg Ending.returned (by rw [HE.out]; rfl), ?_, ?_⟩
          · rw [HE.out, HT.out.eq, HT.out.now, HI.out, HDN.out]
            exact h4.more.ends hlt.out HO3.out.size (by simp [World.setCell]) (by have := HO3.out.size; simp [World.setCell]; omega)
          · refine (HO3.out.trans ho4 fun x hx => .inl ?_).setCell (.inl HD3.out.Fd) _
            rcases hx with rfl | hx
            · exact HD3.out.Fl i (List.getElem?_eq_some_iff.1 HND.out).1
            · exact HD3.out.Fb i x (List.getElem?_eq_some_iff.1 HND.out).1 hx.symm
        · obtain ⟨cur, hcur⟩ := HROW.out.ty hx
          exact Below.heap_setCell w9 ⟨loc i, 1, none⟩ _ x (ne_cells hcur HH.out (by decide))
      · have h3b : (q3 != 0) = true := by simpa using h3
        have HE : Hid (s.sync n.data.toList = s.tried) := Lib.hid (Disk.call_3 (names := [n.data.toList]) (has := n.data.toList) (f := fun s => ((s.setNd ((Disk.find s.now n.data.toList).getD 0) fun d => { d with syn := d.bytes.length }).more, 0)) HQ1.out HQ2.out (by rw [HT.out.eq]; exact h3))
        clear h3
        go_enter Tryz.func38, Tryz.ntmps38
        go_wp2_with fail
        refine (look1_ok n H hn HQ1.out w hb0).mono ?_
        rintro e w1 ⟨rfl, hb1⟩
        go_wp2_with fail
        refine (look2_ok n H hn HQ2.out HI.out w1 hb1).mono ?_
        rintro e w2 ⟨rfl, hb2⟩
        go_wp2_with fail
        refine (tried_at H hk hkb HT w2 hb2).mono ?_
        rintro e w9 ⟨rfl, hd3, ho3⟩
        have HD3 := Lib.hid hd3
        have HO3 := Lib.hid ho3
        clear hd3 ho3
        go_wp2_with fail
        go_ret
        refine ⟨congrArg Ending.returned (by rw [HE.out, HT.out.eq]; rfl), ?_, HO3.out⟩
        rw [HE.out, HT.out.eq]
        exact HD3.out.ends0 hlt.out HO3.out.size
    · have h2b : (q2 != 0) = true := by simpa using h2
      have HE : Hid (s.sync n.data.toList = (s, s.looked n.data.toList [])) := Lib.hid (Disk.call_2 (names := [n.data.toList]) (has := n.data.toList) (f := fun s => ((s.setNd ((Disk.find s.now n.data.toList).getD 0) fun d => { d with syn := d.bytes.length }).more, 0)) HQ1.out (by rw [hq2]; exact h2))
      have HQ2 := Lib.hid hq2
      clear hq1 hq2
      go_enter Tryz.func38, Tryz.ntmps38
      go_wp2_with fail
      refine (look1_ok n H hn HQ1.out w hb0).mono ?_
      rintro e w1 ⟨rfl, hb1⟩
      go_wp2_with fail
      refine (look2_bad n H hn HQ2.out h2 w1 hb1).mono ?_
      rintro e w2 ⟨rfl, hb2⟩
      go_wp2_with fail
      go_ret
      refine ⟨congrArg Ending.returned (by rw [HE.out, HQ2.out]; rfl), ?_, Only.of_below hb2 F⟩
      rw [HE.out]
      exact (H.out.far hb2).ends0 hlt.out hb2.size
  · have h1b : (q1 != 0) = true := by simpa using h1
    have HE : Hid (s.sync n.data.toList = (s, s.looked [] [n.data.toList])) := Lib.hid (Disk.call_1 (names := [n.data.toList]) (has := n.data.toList) (f := fun s => ((s.setNd ((Disk.find s.now n.data.toList).getD 0) fun d => { d with syn := d.bytes.length }).more, 0)) (by rw [hq1]; exact h1))
    have HQ1 := Lib.hid hq1
    clear hq1
    go_enter Tryz.func38, Tryz.ntmps38
    go_wp2_with fail
    refine (look1_bad n H hn HQ1.out h1 w hb0).mono ?_
    rintro e w1 ⟨rfl, hb1⟩
    go_wp2_with fail
    go_ret
    refine ⟨congrArg Ending.returned (by rw [HE.out, HQ1.out]; rfl), ?_, Only.of_below hb1 F⟩
    rw [HE.out]
    exact (H.out.far hb1).ends0 hlt.out hb1.size
end
end Go.Proofs.YtncpeogkccjmcaaGreatDoor
namespace Go.Proofs.YtncpeogkccjmcaaGreatDoor
open Go.RowKit Go.ChangeShapes Go.WideShapes Go.Deep

section
variable {w w' : World} {F G : Blocks} {d : Nat} {s : Disk.St} {loc : Nat → Nat} {blk : Nat → Option Nat} {bn bo : Nat} {rowv : Value} {pA : Option Addr} {pC : Nat}
set_option maxRecDepth 100000 in
set_option maxHeartbeats 2000000 in
theorem rename_any (n m : ByteArray) (hn : n.size ≤ maxLen) (hm : m.size ≤ maxLen) (HA : Hid (DiskAt w F d s)) (hf : Hid (Disk.Fine s)) {k : Nat} (hk : Hid (Disk.Small k s)) (hkb : k ≤ 1099511627776) :
    Calls Tryz.prog 39 #[.pointer (some ⟨d, 0, none⟩), .string n, .string m] w (DiskCall w F d (s.rename n.data.toList m.data.toList)) := by
  obtain ⟨loc, blk, bn, bo, rowv, pA, pC, hB⟩ := HA.out
  have H := Lib.hid hB
  have hlt := Lib.hid hB.lt
  have hb0 := Below.refl w.heap.size w
  clear hB HA
  obtain ⟨q1, hq1⟩ : ∃ q, s.looked [] [n.data.toList, m.data.toList] = q := ⟨_, rfl⟩
  by_cases h1 : q1 = 0
  · subst h1
    have HQ1 := Lib.hid hq1
    obtain ⟨q2, hq2⟩ : ∃ q, s.looked n.data.toList [] = q := ⟨_, rfl⟩
    by_cases h2 : q2 = 0
    · subst h2
      have HQ2 := Lib.hid hq2
      obtain ⟨i, hi⟩ := Disk.looked_file (Disk.isName_ne ((Disk.names_of hq1).2 _ (by simp))) hq2
      have HI := Lib.hid hi
      obtain ⟨s3, q3, hT⟩ := Tried.mk' s
      have HT := Lib.hid hT
      clear hq1 hq2 hT hi
      by_cases h3 : q3 = 0
      · subst h3
        have HE : Hid (s.rename n.data.toList m.data.toList = (fun s => ((if n.data.toList = m.data.toList then s else s.changes ⟨n.data.toList, m.data.toList, (Disk.find s.now n.data.toList).getD 0⟩).more, 0)) s.tried.1) := Lib.hid (Disk.call_4 (names := [n.data.toList, m.data.toList]) (has := n.data.toList) (f := fun s => ((if n.data.toList = m.data.toList then s else s.changes ⟨n.data.toList, m.data.toList, (Disk.find s.now n.data.toList).getD 0⟩).more, 0)) HQ1.out HQ2.out (by rw [HT.out.eq]))
        go_enter Tryz.func39, Tryz.ntmps39
        go_wp2_with fail
        refine (look1b_ok n m H hn hm HQ1.out w hb0).mono ?_
        rintro e w1 ⟨rfl, hb1⟩
        go_wp2_with fail
        refine (look2_ok n H hn HQ2.out HI.out w1 hb1).mono ?_
        rintro e w2 ⟨rfl, hb2⟩
        go_wp2_with fail
        refine (tried_at H hk hkb HT w2 hb2).mono ?_
        rintro e w9 ⟨rfl, hd3, ho3⟩
        have HD3 := Lib.hid hd3
        have HO3 := Lib.hid ho3
        clear hd3 ho3
        have HF3 := Lib.hid (HT.out.fine hf.out)
        have hne1 := Disk.isName_ne ((Disk.names_of HQ1.out).2 n.data.toList (by simp))
        have hne2 := Disk.isName_ne ((Disk.names_of HQ1.out).2 m.data.toList (by simp))
        have HNE1 := Lib.hid hne1
        have HNE2 := Lib.hid hne2
        clear hne1 hne2
        by_cases hnm : n = m
        · subst hnm
          have HD10 := HD3
          have HO10 : Hid (Only F w9 w9) := Lib.hid (Only.refl _ _)
          have HS : Hid (s.rename n.data.toList n.data.toList = (s3.more, 0)) := Lib.hid (by rw [HE.out, HT.out.eq]; simp)
          have k8 : w9.cell? ⟨d, 8, none⟩ = some (.int .i64 s3.done) := HD10.out.cell 8 _ rfl
          have kf8 := HD10.out.frozen 8
          obtain ⟨dn, hdn⟩ : ∃ x, x = s3.done := ⟨_, rfl⟩
          rw [← hdn] at k8
          have hdn1 : 0 ≤ dn ∧ dn ≤ 8796093022208 := by rw [hdn, HT.out.done]; obtain ⟨-, -, a, b, -⟩ := hk.out; omega
          obtain ⟨hdn1, hdn2⟩ := hdn1
          have HDN := Lib.hid hdn
          clear hdn
          go_wp2_with fail
          go_ret
          refine ⟨congrArg Ending.returned (by rw [HS.out]; rfl), ?_, ?_⟩
          · rw [HS.out, HDN.out]
            exact HD10.out.more.ends0 hlt.out (by have := HO3.out.size; have := HO10.out.size; simp [World.setCell]; omega)
          · exact (HO3.out.trans HO10.out fun x hx => .inl hx).setCell (.inl HD3.out.Fd) _
        · have HC : Hid (¬ n.data.toList = m.data.toList) := Lib.hid fun h => hnm (ByteArray.ext (Array.toList_inj.1 h))
          have hnb : (n.toList == m.toList) = false := by rw [ByteArray.toList_eq, ByteArray.toList_eq]; exact beq_eq_false_iff_ne.2 HC.out
          clear hnm
          go_wp2_with fail
          refine (changes_mv n m i hn hm HNE1.out HNE2.out HD3 HF3 (by rw [HT.out.row]; obtain ⟨-, -, -, -, a⟩ := hk.out; omega)).mono ?_
          rintro e w10 ⟨rfl, ⟨rowv', hd10⟩, ho10⟩
          have HD10 := Lib.hid hd10
          have HO10 := Lib.hid ho10
          clear hd10 ho10
          have k8 : w10.cell? ⟨d, 8, none⟩ = some (.int .i64 s3.done) := HD10.out.cell 8 _ rfl
          have kf8 := HD10.out.frozen 8
          obtain ⟨dn, hdn⟩ : ∃ x, x = s3.done := ⟨_, rfl⟩
          rw [← hdn] at k8
          have hdn1 : 0 ≤ dn ∧ dn ≤ 8796093022208 := by rw [hdn, HT.out.done]; obtain ⟨-, -, a, b, -⟩ := hk.out; omega
          obtain ⟨hdn1, hdn2⟩ := hdn1
          have HDN := Lib.hid hdn
          clear hdn
          go_wp2_with fail
          go_ret
          refine ⟨congrArg Ending.returned (by rw [HE.out, HT.out.eq, if_neg HC.out]; rfl), ?_, ?_⟩
          · rw [HE.out, HT.out.eq, if_neg HC.out, HT.out.now, HI.out, HDN.out]
            exact HD10.out.more.ends hlt.out HO3.out.size (by simp [World.setCell]) (by have := HO3.out.size; have := HO10.out.size; simp [World.setCell]; omega)
          · exact (HO3.out.trans HO10.out fun x hx => .inl hx).setCell (.inl HD3.out.Fd) _
      · have h3b : (q3 != 0) = true := by simpa using h3
        have HE : Hid (s.rename n.data.toList m.data.toList = s.tried) := Lib.hid (Disk.call_3 (names := [n.data.toList, m.data.toList]) (has := n.data.toList) (f := fun s => ((if n.data.toList = m.data.toList then s else s.changes ⟨n.data.toList, m.data.toList, (Disk.find s.now n.data.toList).getD 0⟩).more, 0)) HQ1.out HQ2.out (by rw [HT.out.eq]; exact h3))
        clear h3
        go_enter Tryz.func39, Tryz.ntmps39
        go_wp2_with fail
        refine (look1b_ok n m H hn hm HQ1.out w hb0).mono ?_
        rintro e w1 ⟨rfl, hb1⟩
        go_wp2_with fail
        refine (look2_ok n H hn HQ2.out HI.out w1 hb1).mono ?_
        rintro e w2 ⟨rfl, hb2⟩
        go_wp2_with fail
        refine (tried_at H hk hkb HT w2 hb2).mono ?_
        rintro e w9 ⟨rfl, hd3, ho3⟩
        have HD3 := Lib.hid hd3
        have HO3 := Lib.hid ho3
        clear hd3 ho3
        go_wp2_with fail
        go_ret
        refine ⟨congrArg Ending.returned (by rw [HE.out, HT.out.eq]; rfl), ?_, HO3.out⟩
        rw [HE.out, HT.out.eq]
        exact HD3.out.ends0 hlt.out HO3.out.size
    · have h2b : (q2 != 0) = true := by simpa using h2
      have HE : Hid (s.rename n.data.toList m.data.toList = (s, s.looked n.data.toList [])) := Lib.hid (Disk.call_2 (names := [n.data.toList, m.data.toList]) (has := n.data.toList) (f := fun s => ((if n.data.toList = m.data.toList then s else s.changes ⟨n.data.toList, m.data.toList, (Disk.find s.now n.data.toList).getD 0⟩).more, 0)) HQ1.out (by rw [hq2]; exact h2))
      have HQ2 := Lib.hid hq2
      clear hq1 hq2
      go_enter Tryz.func39, Tryz.ntmps39
      go_wp2_with fail
      refine (look1b_ok n m H hn hm HQ1.out w hb0).mono ?_
      rintro e w1 ⟨rfl, hb1⟩
      go_wp2_with fail
      refine (look2_bad n H hn HQ2.out h2 w1 hb1).mono ?_
      rintro e w2 ⟨rfl, hb2⟩
      go_wp2_with fail
      go_ret
      refine ⟨congrArg Ending.returned (by rw [HE.out, HQ2.out]; rfl), ?_, Only.of_below hb2 F⟩
      rw [HE.out]
      exact (H.out.far hb2).ends0 hlt.out hb2.size
  · have h1b : (q1 != 0) = true := by simpa using h1
    have HE : Hid (s.rename n.data.toList m.data.toList = (s, s.looked [] [n.data.toList, m.data.toList])) := Lib.hid (Disk.call_1 (names := [n.data.toList, m.data.toList]) (has := n.data.toList) (f := fun s => ((if n.data.toList = m.data.toList then s else s.changes ⟨n.data.toList, m.data.toList, (Disk.find s.now n.data.toList).getD 0⟩).more, 0)) (by rw [hq1]; exact h1))
    have HQ1 := Lib.hid hq1
    clear hq1
    go_enter Tryz.func39, Tryz.ntmps39
    go_wp2_with fail
    refine (look1b_bad n m H hn hm HQ1.out h1 w hb0).mono ?_
    rintro e w1 ⟨rfl, hb1⟩
    go_wp2_with fail
    go_ret
    refine ⟨congrArg Ending.returned (by rw [HE.out, HQ1.out]; rfl), ?_, Only.of_below hb1 F⟩
    rw [HE.out]
    exact (H.out.far hb1).ends0 hlt.out hb1.size
end
end Go.Proofs.YtncpeogkccjmcaaGreatDoor
