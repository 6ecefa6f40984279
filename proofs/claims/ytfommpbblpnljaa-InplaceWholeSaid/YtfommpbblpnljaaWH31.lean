/- Texts that lead to the claim, one behind the other: The writing calls of a disk: Make, Append, Sync, Rename, Remove, SyncDir (read; printed by gen/diskcalls.py). Condition: the counts are below 2^40. -/
import Derived.Test.YtfommpbblpnljaaWH13
import Derived.Deep.RegionHeld3
import Derived.IntWalk
namespace Go.Proofs.Ytfommpbblpnljaa
open Go.RowKit Go.ChangeShapes Go.WideShapes Go.Deep

section
variable {w w' : World} {F G : Blocks} {d : Nat} {s : Disk.St} {loc : Nat → Nat} {blk : Nat → Option Nat} {bn bo : Nat} {rowv : Value} {pA : Option Addr} {pC : Nat}
set_option maxRecDepth 100000 in
set_option maxHeartbeats 2000000 in
theorem read_any (n : ByteArray) (hn : n.size ≤ maxLen) (HA : Hid (DiskAt w F d s)) (hf : Hid (Disk.Fine s)) :
    Calls Try.prog 24 #[.pointer (some ⟨d, 0, none⟩), .string n] w (ReadPost w (s.read n.data.toList)) := by
  obtain ⟨loc, blk, bn, bo, rowv, pA, pC, hB⟩ := HA.out
  have H := Lib.hid hB
  have hlt := Lib.hid hB.lt
  have hb0 := Below.refl w.heap.size w
  clear hB HA
  obtain ⟨q1, hq1⟩ : ∃ q, s.looked [] [n.data.toList] = q := ⟨_, rfl⟩
  by_cases h1 : q1 = 0
  · subst h1
    have HQ1 := Lib.hid hq1
    obtain ⟨q2, hq2⟩ : ∃ q, s.looked n.data.toList [] = q := ⟨_, rfl⟩
    by_cases h2 : q2 = 0
    · subst h2
      have HQ2 := Lib.hid hq2
      obtain ⟨i, hi⟩ := Disk.looked_file (Disk.isName_ne ((Disk.names_of hq1).2 _ (by simp))) hq2
      have HI := Lib.hid hi
      clear hq1 hq2 hi
      go_enter Try.func24, Try.ntmps24
      go_wp2_with fail
      refine (look1_ok n H hn HQ1.out w hb0).mono ?_
      rintro e w1 ⟨rfl, hb1⟩
      go_wp2_with fail
      refine (look2_ok n H hn HQ2.out HI.out w1 hb1).mono ?_
      rintro e w2 ⟨rfl, hb2⟩
      have HD := Lib.hid (H.out.far hb2)
      obtain ⟨nd, hnd⟩ : ∃ nd, s.all[i]? = some nd := by
        exact ⟨_, List.getElem?_eq_getElem (hf.out.nowI i (List.mem_map.2 ⟨_, Disk.mem_of_find HI.out, rfl⟩))⟩
      obtain ⟨A, c, hh, hrow⟩ := HD.out.files i nd hnd
      obtain ⟨m, hm⟩ : ∃ m, m = nd.bytes.length := ⟨_, rfl⟩
      rw [← hm] at hh
      have HH := Lib.hid hh
      have HM := Lib.hid hm
      have HND := Lib.hid hnd
      have HROW := Lib.hid hrow
      have k0 : w2.cell? ⟨loc i, 0, none⟩ = some (.slice A m c) := (cell_of_row w2 _ 0 _ _ (0, 0) hh).trans rfl
      have k1 : w2.cell? ⟨loc i, 1, none⟩ = some (.int .i64 nd.syn) := (cell_of_row w2 _ 1 _ _ (0, 0) hh).trans rfl
      have kf : ∀ o, w2.frozen? ⟨loc i, o, none⟩ = false := fun o => by simp [World.frozen?, hh]
      have hne : d ≠ loc i := ne_cells HD.out.hd hh (by decide)
      clear hh hm hnd hrow
      have hm24 : m ≤ 16777216 := by rw [HM.out]; exact hf.out.big nd (List.mem_of_getElem? HND.out)
      have HE := Lib.hid (Disk.read_3 HQ1.out HQ2.out HI.out HND.out)
      obtain ⟨b, hb⟩ : ∃ b, nd.bad = b := ⟨_, rfl⟩
      have k2 : w2.cell? ⟨loc i, 2, none⟩ = some (.bool b) := (cell_of_row w2 _ 2 _ _ (0, 0) HH.out).trans (by rw [← hb]; rfl)
      have HBAD := Lib.hid hb
      clear hb
      cases b
      · go_wp2_with fail
        refine (cloneBytes A m c nd.bytes w2 _ HM (Lib.hid HROW.out.slice) (Lib.hid fun x hx => HROW.out.lt hx.symm) (by omega)).mono ?_
        rintro e w3 ⟨A', c', rfl, h1, h2, hown, hb3⟩
        have HOWN := Lib.hid hown
        have HB3 := Lib.hid hb3
        clear hown hb3
        go_wp2_with fail
        go_ret2
        rw [HBAD.out] at HE
        have HE2 : s.read n.data.toList = (nd.bytes, 0) := HE.out
        exact ⟨A', m, c', congrArg Ending.returned (by rw [HE2]; rfl), Lib.hid (by rw [HE2]; exact HM.out), h1, h2, by rw [HE2]; exact HOWN.out.low hb2.size, hb2.trans (HB3.out.mono hb2.size)⟩
      · go_wp2_with fail
        go_ret2
        rw [HBAD.out] at HE
        have HE2 : s.read n.data.toList = ([], 23) := HE.out
        exact ⟨none, 0, 0, congrArg Ending.returned (by rw [HE2]; rfl), Lib.hid (by rw [HE2]; rfl), Nat.le_refl _, by omega, by rw [HE2]; exact Own.nil _ _ _ _, hb2⟩
    · have h2b : (q2 != 0) = true := by simpa using h2
      have HE : Hid (s.read n.data.toList = ([], s.looked n.data.toList [])) := Lib.hid (Disk.read_2 HQ1.out (by rw [hq2]; exact h2))
      have HQ2 := Lib.hid hq2
      clear hq1 hq2
      go_enter Try.func24, Try.ntmps24
      go_wp2_with fail
      refine (look1_ok n H hn HQ1.out w hb0).mono ?_
      rintro e w1 ⟨rfl, hb1⟩
      go_wp2_with fail
      refine (look2_bad n H hn HQ2.out h2 w1 hb1).mono ?_
      rintro e w2 ⟨rfl, hb2⟩
      go_wp2_with fail
      go_ret2
      exact ⟨none, 0, 0, congrArg Ending.returned (by rw [HE.out, HQ2.out]; rfl), Lib.hid (by rw [HE.out]; rfl), Nat.le_refl _, by omega, by rw [HE.out]; exact Own.nil _ _ _ _, hb2⟩
  · have h1b : (q1 != 0) = true := by simpa using h1
    have HE : Hid (s.read n.data.toList = ([], s.looked [] [n.data.toList])) := Lib.hid (Disk.read_1 (by rw [hq1]; exact h1))
    have HQ1 := Lib.hid hq1
    clear hq1
    go_enter Try.func24, Try.ntmps24
    go_wp2_with fail
    refine (look1_bad n H hn HQ1.out h1 w hb0).mono ?_
    rintro e w1 ⟨rfl, hb1⟩
    go_wp2_with fail
    go_ret2
    exact ⟨none, 0, 0, congrArg Ending.returned (by rw [HE.out, HQ1.out]; rfl), Lib.hid (by rw [HE.out]; rfl), Nat.le_refl _, by omega, by rw [HE.out]; exact Own.nil _ _ _ _, hb1⟩
end
end Go.Proofs.Ytfommpbblpnljaa
