/- Texts that lead to the claim, one behind the other: The writing calls of a disk: Make, Append, Sync, Rename, Remove, SyncDir (remove; printed by gen/diskcalls.py). Condition: the counts are below 2^40. -/
import Derived.Test.YtignnohjggjkoaaTa20
import Derived.Deep.RegionHeld3
import Derived.IntWalk
namespace Go.Proofs.Ytignnohjggjkoaa
open Go.RowKit Go.ChangeShapes Go.WideShapes Go.Deep

section
variable {w w' : World} {F G : Blocks} {d : Nat} {s : Disk.St} {loc : Nat → Nat} {blk : Nat → Option Nat} {bn bo : Nat} {rowv : Value} {pA : Option Addr} {pC : Nat}
set_option maxRecDepth 100000 in
set_option maxHeartbeats 2000000 in
theorem remove_any (n : ByteArray) (hn : n.size ≤ maxLen) (HA : Hid (DiskAt w F d s)) (hf : Hid (Disk.Fine s)) {k : Nat} (hk : Hid (Disk.Small k s)) (hkb : k ≤ 1099511627776) :
    Calls Try.prog 32 #[.pointer (some ⟨d, 0, none⟩), .string n] w (DiskCall w F d (s.remove n.data.toList)) := by
  obtain ⟨loc, blk, bn, bo, rowv, pA, pC, hB⟩ := HA.out
  have H := Lib.hid hB
  have hlt := Lib.hid hB.lt
  have hb0 := Below.refl w.heap.size w
  clear hB HA
  obtain ⟨q1, hq1⟩ : ∃ q, s.looked [] [n.data.toList] = q := ⟨_, rfl⟩
  by_cases h1 : q1 = 0
  · subst h1
    have HQ1 := Lib.hid hq1
    obtain ⟨q2, hq2⟩ : ∃ q, s.looked n.data.toList [] = q := ⟨_, rfl⟩
    by_cases h2 : q2 = 0
    · subst h2
      have HQ2 := Lib.hid hq2
      obtain ⟨i, hi⟩ := Disk.looked_file (Disk.isName_ne ((Disk.names_of hq1).2 _ (by simp))) hq2
      have HI := Lib.hid hi
      obtain ⟨s3, q3, hT⟩ := Tried.mk' s
      have HT := Lib.hid hT
      clear hq1 hq2 hT hi
      by_cases h3 : q3 ≠ 24
      · have h3b : (q3 == 24) = false := by simpa using h3
        have HE := Lib.hid (Disk.remove_4 HQ1.out HQ2.out (by rw [HT.out.eq]; exact h3))
        go_enter Try.func32, Try.ntmps32
        go_wp2_with fail
        refine (look1_ok n H hn HQ1.out w hb0).mono ?_
        rintro e w1 ⟨rfl, hb1⟩
        go_wp2_with fail
        refine (look2_ok n H hn HQ2.out HI.out w1 hb1).mono ?_
        rintro e w2 ⟨rfl, hb2⟩
        go_wp2_with fail
        refine (tried_at H hk hkb HT w2 hb2).mono ?_
        rintro e w9 ⟨rfl, hd3, ho3⟩
        have HD3 := Lib.hid hd3
        have HO3 := Lib.hid ho3
        clear hd3 ho3
        have HF3 := Lib.hid (HT.out.fine hf.out)
        have hne1 := Disk.isName_ne ((Disk.names_of HQ1.out).2 n.data.toList (by simp))
        have HNE1 := Lib.hid hne1
        clear hne1
        go_wp2_with fail
        refine (changes_from n hn HNE1.out HD3 HF3 (by rw [HT.out.row]; obtain ⟨-, -, -, -, a⟩ := hk.out; omega)).mono ?_
        rintro e w10 ⟨rfl, ⟨rowv', hd10⟩, ho10⟩
        have HD10 := Lib.hid hd10
        have HO10 := Lib.hid ho10
        clear hd10 ho10
        have k8 : w10.cell? ⟨d, 8, none⟩ = some (.int .i64 s3.done) := HD10.out.cell 8 _ rfl
        have kf8 := HD10.out.frozen 8
        obtain ⟨dn, hdn⟩ : ∃ x, x = s3.done := ⟨_, rfl⟩
        rw [← hdn] at k8
        have hdn1 : 0 ≤ dn ∧ dn ≤ 8796093022208 := by rw [hdn, HT.out.done]; obtain ⟨-, -, a, b, -⟩ := hk.out; omega
        obtain ⟨hdn1, hdn2⟩ := hdn1
        have HDN := Lib.hid hdn
        clear hdn
        go_wp2_with fail
        go_ret
        refine ⟨congrArg Ending.returned (by rw [HE.out]; rfl), ?_, ?_⟩
        · rw [HE.out, HT.out.eq, HDN.out]
          exact HD10.out.more.ends hlt.out HO3.out.size (by simp [World.setCell]) (by have := HO3.out.size; have := HO10.out.size; simp [World.setCell]; omega)
        · exact (HO3.out.trans HO10.out fun x hx => .inl hx).setCell (.inl HD3.out.Fd) _
      · obtain rfl : q3 = 24 := Decidable.not_not.1 h3
        have HE := Lib.hid (Disk.remove_3 HQ1.out HQ2.out (by rw [HT.out.eq]))
        clear h3
        go_enter Try.func32, Try.ntmps32
        go_wp2_with fail
        refine (look1_ok n H hn HQ1.out w hb0).mono ?_
        rintro e w1 ⟨rfl, hb1⟩
        go_wp2_with fail
        refine (look2_ok n H hn HQ2.out HI.out w1 hb1).mono ?_
        rintro e w2 ⟨rfl, hb2⟩
        go_wp2_with fail
        refine (tried_at H hk hkb HT w2 hb2).mono ?_
        rintro e w9 ⟨rfl, hd3, ho3⟩
        have HD3 := Lib.hid hd3
        have HO3 := Lib.hid ho3
        clear hd3 ho3
        go_wp2_with fail
        go_ret
        refine ⟨congrArg Ending.returned (by rw [HE.out, HT.out.eq]; rfl), ?_, HO3.out⟩
        rw [HE.out, HT.out.eq]
        exact HD3.out.ends0 hlt.out HO3.out.size
    · have h2b : (q2 != 0) = true := by simpa using h2
      have HE : Hid (s.remove n.data.toList = (s, s.looked n.data.toList [])) := Lib.hid (Disk.remove_2 HQ1.out (by rw [hq2]; exact h2))
      have HQ2 := Lib.hid hq2
      clear hq1 hq2
      go_enter Try.func32, Try.ntmps32
      go_wp2_with fail
      refine (look1_ok n H hn HQ1.out w hb0).mono ?_
      rintro e w1 ⟨rfl, hb1⟩
      go_wp2_with fail
      refine (look2_bad n H hn HQ2.out h2 w1 hb1).mono ?_
      rintro e w2 ⟨rfl, hb2⟩
      go_wp2_with fail
      go_ret
      refine ⟨congrArg Ending.returned (by rw [HE.out, HQ2.out]; rfl), ?_, Only.of_below hb2 F⟩
      rw [HE.out]
      exact (H.out.far hb2).ends0 hlt.out hb2.size
  · have h1b : (q1 != 0) = true := by simpa using h1
    have HE : Hid (s.remove n.data.toList = (s, s.looked [] [n.data.toList])) := Lib.hid (Disk.remove_1 (by rw [hq1]; exact h1))
    have HQ1 := Lib.hid hq1
    clear hq1
    go_enter Try.func32, Try.ntmps32
    go_wp2_with fail
    refine (look1_bad n H hn HQ1.out h1 w hb0).mono ?_
    rintro e w1 ⟨rfl, hb1⟩
    go_wp2_with fail
    go_ret
    refine ⟨congrArg Ending.returned (by rw [HE.out, HQ1.out]; rfl), ?_, Only.of_below hb1 F⟩
    rw [HE.out]
    exact (H.out.far hb1).ends0 hlt.out hb1.size
end
end Go.Proofs.Ytignnohjggjkoaa
