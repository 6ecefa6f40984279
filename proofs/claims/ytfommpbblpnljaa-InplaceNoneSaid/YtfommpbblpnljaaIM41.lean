/- Texts that lead to the claim, one behind the other: The writing calls of a disk: Make, Append, Sync, Rename, Remove, SyncDir (syncdir; printed by gen/diskcalls.py). Condition: the counts are below 2^40. -/
import Derived.Test.YtfommpbblpnljaaIM21
import Derived.Deep.RegionHeld3
import Derived.IntWalk
namespace Go.Proofs.Ytfommpbblpnljaa
open Go.RowKit Go.ChangeShapes Go.WideShapes Go.Deep

section
variable {w w' : World} {F G : Blocks} {d : Nat} {s : Disk.St} {loc : Nat → Nat} {blk : Nat → Option Nat} {bn bo : Nat} {rowv : Value} {pA : Option Addr} {pC : Nat}
set_option maxRecDepth 100000 in
set_option maxHeartbeats 2000000 in
theorem syncDir_any  (HA : Hid (DiskAt w F d s)) (hf : Hid (Disk.Fine s)) {k : Nat} (hk : Hid (Disk.Small k s)) (hkb : k ≤ 1099511627776) :
    Calls Try.prog 40 #[.pointer (some ⟨d, 0, none⟩)] w (DiskCall w F d (s.syncDir)) := by
  obtain ⟨loc, blk, bn, bo, rowv, pA, pC, hB⟩ := HA.out
  have H := Lib.hid hB
  have hlt := Lib.hid hB.lt
  have hb0 := Below.refl w.heap.size w
  clear hB HA
  obtain ⟨q1, hq1⟩ : ∃ q, s.looked [] [] = q := ⟨_, rfl⟩
  by_cases h1 : q1 = 0
  · subst h1
    have HQ1 := Lib.hid hq1
    have HQ2 : Hid (s.looked [] [] = 0) := Lib.hid (Disk.looked_on (Disk.names_of hq1).1 (by simp))
    all_goals
      obtain ⟨s3, q3, hT⟩ := Tried.mk' s
      have HT := Lib.hid hT
      clear hq1 hT
      by_cases h3 : q3 = 0
      · subst h3
        have HE : Hid (s.syncDir = (fun s => (s.settled.more, 0)) s.tried.1) := Lib.hid (Disk.call_4 (names := []) (has := []) (f := fun s => (s.settled.more, 0)) HQ1.out HQ2.out (by rw [HT.out.eq]))
        go_enter Try.func40, Try.ntmps40
        go_wp2_with fail
        refine (look0_ok H HQ1.out w hb0).mono ?_
        rintro e w1 ⟨rfl, hb1⟩
        go_wp2_with fail
        refine (tried_at H hk hkb HT w1 hb1).mono ?_
        rintro e w9 ⟨rfl, hd3, ho3⟩
        have HD3 := Lib.hid hd3
        have HO3 := Lib.hid ho3
        clear hd3 ho3
        have HF3 := Lib.hid (HT.out.fine hf.out)
        go_wp2_with fail
        refine (settled_any d bn _ s3.now loc _ w9 (Lib.hid HD3.out.now) (Lib.hid HF3.out.good.nowR) (by have := HF3.out.nowL; omega) (Lib.hid HD3.out.hd) (Lib.hid rfl) (Lib.hid (by simp))).mono ?_
        rintro e w10 ⟨rfl, b2, n2, hb2, hf2, hd2, ho2⟩
        have HD10 := Lib.hid (HD3.out.set_ ho2 hd2 hf2 hb2)
        have HO10 : Hid (Only F w9 w10) := Lib.hid (ho2.mono fun x hx => hx ▸ HD3.out.Fd)
        clear hb2 hf2 hd2 ho2
        have k8 : w10.cell? ⟨d, 8, none⟩ = some (.int .i64 s3.done) := HD10.out.cell 8 _ rfl
        have kf8 := HD10.out.frozen 8
        obtain ⟨dn, hdn⟩ : ∃ x, x = s3.done := ⟨_, rfl⟩
        rw [← hdn] at k8
        have hdn1 : 0 ≤ dn ∧ dn ≤ 8796093022208 := by rw [hdn, HT.out.done]; obtain ⟨-, -, a, b, -⟩ := hk.out; omega
        obtain ⟨hdn1, hdn2⟩ := hdn1
        have HDN := Lib.hid hdn
        clear hdn
        go_wp2_with fail
        go_ret
        refine ⟨congrArg Ending.returned (by rw [HE.out]; rfl), ?_, ?_⟩
        · rw [HE.out, HT.out.eq, HDN.out]
          exact HD10.out.more.ends hlt.out HO3.out.size (by simp [World.setCell]) (by have := HO3.out.size; have := HO10.out.size; simp [World.setCell]; omega)
        · exact (HO3.out.trans HO10.out fun x hx => .inl hx).setCell (.inl HD3.out.Fd) _
      · have h3b : (q3 != 0) = true := by simpa using h3
        have HE : Hid (s.syncDir = s.tried) := Lib.hid (Disk.call_3 (names := []) (has := []) (f := fun s => (s.settled.more, 0)) HQ1.out HQ2.out (by rw [HT.out.eq]; exact h3))
        clear h3
        go_enter Try.func40, Try.ntmps40
        go_wp2_with fail
        refine (look0_ok H HQ1.out w hb0).mono ?_
        rintro e w1 ⟨rfl, hb1⟩
        go_wp2_with fail
        refine (tried_at H hk hkb HT w1 hb1).mono ?_
        rintro e w9 ⟨rfl, hd3, ho3⟩
        have HD3 := Lib.hid hd3
        have HO3 := Lib.hid ho3
        clear hd3 ho3
        go_wp2_with fail
        go_ret
        refine ⟨congrArg Ending.returned (by rw [HE.out, HT.out.eq]; rfl), ?_, HO3.out⟩
        rw [HE.out, HT.out.eq]
        exact HD3.out.ends0 hlt.out HO3.out.size
  · have h1b : (q1 != 0) = true := by simpa using h1
    have HE : Hid (s.syncDir = (s, s.looked [] [])) := Lib.hid (Disk.call_1 (names := []) (has := []) (f := fun s => (s.settled.more, 0)) (by rw [hq1]; exact h1))
    have HQ1 := Lib.hid hq1
    clear hq1
    go_enter Try.func40, Try.ntmps40
    go_wp2_with fail
    refine (look0_bad H HQ1.out h1 w hb0).mono ?_
    rintro e w1 ⟨rfl, hb1⟩
    go_wp2_with fail
    go_ret
    refine ⟨congrArg Ending.returned (by rw [HE.out, HQ1.out]; rfl), ?_, Only.of_below hb1 F⟩
    rw [HE.out]
    exact (H.out.far hb1).ends0 hlt.out hb1.size
end
end Go.Proofs.Ytfommpbblpnljaa
