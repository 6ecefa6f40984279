/- Texts that lead to the claim, one behind the other: The writing calls of a disk: Make, Append, Sync, Rename, Remove, SyncDir (make; printed by gen/diskcalls.py). Condition: the counts are below 2^40. -/
import Derived.Test.YtfommpbblpnljaaWH12
import Derived.Deep.RegionHeld3
import Derived.IntWalk
namespace Go.Proofs.Ytfommpbblpnljaa
open Go.RowKit Go.ChangeShapes Go.WideShapes Go.Deep

section
variable {w w' : World} {F G : Blocks} {d : Nat} {s : Disk.St} {loc : Nat → Nat} {blk : Nat → Option Nat} {bn bo : Nat} {rowv : Value} {pA : Option Addr} {pC : Nat}
set_option maxRecDepth 100000 in
set_option maxHeartbeats 2000000 in
theorem make_any (n : ByteArray) (hn : n.size ≤ maxLen) (HA : Hid (DiskAt w F d s)) (hf : Hid (Disk.Fine s)) {k : Nat} (hk : Hid (Disk.Small k s)) (hkb : k ≤ 1099511627776) :
    Calls Try.prog 28 #[.pointer (some ⟨d, 0, none⟩), .string n] w (DiskCall w F d (s.make n.data.toList)) := by
  obtain ⟨loc, blk, bn, bo, rowv, pA, pC, hB⟩ := HA.out
  have H := Lib.hid hB
  have hlt := Lib.hid hB.lt
  have hb0 := Below.refl w.heap.size w
  clear hB HA
  obtain ⟨q1, hq1⟩ : ∃ q, s.looked [] [n.data.toList] = q := ⟨_, rfl⟩
  by_cases h1 : q1 = 0
  · subst h1
    have HQ1 := Lib.hid hq1
    have HQ2 : Hid (s.looked [] [] = 0) := Lib.hid (Disk.looked_on (Disk.names_of hq1).1 (by simp))
    all_goals
      obtain ⟨s3, q3, hT⟩ := Tried.mk' s
      have HT := Lib.hid hT
      clear hq1 hT
      by_cases h3 : q3 = 0
      · subst h3
        have HE : Hid (s.make n.data.toList = (fun s => if Disk.find s.now n.data.toList = none ∧ 64 ≤ s.now.length then (s, 22) else ((Disk.St.changes { s with all := s.all ++ [⟨[], 0, false⟩] } ⟨[], n.data.toList, s.all.length⟩).more, 0)) s.tried.1) := Lib.hid (Disk.call_4 (names := [n.data.toList]) (has := []) (f := fun s => if Disk.find s.now n.data.toList = none ∧ 64 ≤ s.now.length then (s, 22) else ((Disk.St.changes { s with all := s.all ++ [⟨[], 0, false⟩] } ⟨[], n.data.toList, s.all.length⟩).more, 0)) HQ1.out HQ2.out (by rw [HT.out.eq]))
        go_enter Try.func28, Try.ntmps28
        go_wp2_with fail
        refine (look1_ok n H hn HQ1.out w hb0).mono ?_
        rintro e w1 ⟨rfl, hb1⟩
        go_wp2_with fail
        refine (tried_at H hk hkb HT w1 hb1).mono ?_
        rintro e w9 ⟨rfl, hd3, ho3⟩
        have HD3 := Lib.hid hd3
        have HO3 := Lib.hid ho3
        clear hd3 ho3
        have HF3 := Lib.hid (HT.out.fine hf.out)
        have hne1 := Disk.isName_ne ((Disk.names_of HQ1.out).2 n.data.toList (by simp))
        have HNE1 := Lib.hid hne1
        clear hne1
        have hlk := HD3.out.now.look_ok (t := 23) (e := 84) Try.underlying9 Try.underlying23 (Try.zeroValue84 _) n hn
        have hlen := fun ty => HD3.out.now.lenRun Try.underlying23 ty
        have k0 := HD3.out.cell 0 _ rfl
        obtain ⟨p, hp⟩ : ∃ p, Disk.ptrOf s3.now loc n.data.toList = p := ⟨_, rfl⟩
        obtain ⟨b, hb⟩ : ∃ b, (Disk.find s3.now n.data.toList).isSome = b := ⟨_, rfl⟩
        obtain ⟨m, hm⟩ : ∃ m, m = s3.now.length := ⟨_, rfl⟩
        rw [hp, hb] at hlk
        rw [← hm] at hlen
        have HB := Lib.hid hb
        have HM := Lib.hid hm
        have hm64 : m ≤ 64 := by rw [hm]; exact HF3.out.nowL
        clear hp hb hm
        by_cases hfull : b = false ∧ 64 ≤ m
        · obtain ⟨rfl, hm6⟩ := hfull
          have hm6d : decide ((64 : Int) ≤ (m : Int)) = true := decide_eq_true (by omega)
          have HC : Hid (Disk.find s3.now n.data.toList = none ∧ 64 ≤ s3.now.length) := Lib.hid ⟨by have := HB.out; cases e : Disk.find s3.now n.data.toList <;> simp_all, by rw [← HM.out]; exact hm6⟩
          go_wp2_with fail
          go_ret
          refine ⟨congrArg Ending.returned (by rw [HE.out, HT.out.eq, if_pos HC.out]; rfl), ?_, HO3.out⟩
          rw [HE.out, HT.out.eq, if_pos HC.out]
          exact HD3.out.ends0 hlt.out HO3.out.size
        · have HC : Hid (¬ (Disk.find s3.now n.data.toList = none ∧ 64 ≤ s3.now.length)) := Lib.hid fun ⟨a1, a2⟩ => hfull ⟨by have := HB.out; rw [a1] at this; exact this.symm, by rw [HM.out]; exact a2⟩
          have hd64 : b = true ∨ (b = false ∧ decide ((64 : Int) ≤ (m : Int)) = false) := by
            cases b
            · exact .inr ⟨rfl, decide_eq_false fun h => hfull ⟨rfl, by omega⟩⟩
            · exact .inl rfl
          clear hfull
          rcases hd64 with rfl | ⟨rfl, hd6⟩
          all_goals
            go_wp2_with fail
            refine (changes_new n hn HNE1.out HD3 HF3 (by rw [HT.out.row]; obtain ⟨-, -, -, -, a⟩ := hk.out; omega)).mono ?_
            rintro e w10 ⟨rfl, ⟨loc', blk', rowv', hd10⟩, ho10⟩
            have HD10 := Lib.hid hd10
            have HO10 := Lib.hid ho10
            clear hd10 ho10
            have k8 : w10.cell? ⟨d, 8, none⟩ = some (.int .i64 s3.done) := HD10.out.cell 8 _ rfl
            have kf8 := HD10.out.frozen 8
            obtain ⟨dn, hdn⟩ : ∃ x, x = s3.done := ⟨_, rfl⟩
            rw [← hdn] at k8
            have hdn1 : 0 ≤ dn ∧ dn ≤ 8796093022208 := by rw [hdn, HT.out.done]; obtain ⟨-, -, a, b, -⟩ := hk.out; omega
            obtain ⟨hdn1, hdn2⟩ := hdn1
            have HDN := Lib.hid hdn
            clear hdn
            go_wp2_with fail
            go_ret
            refine ⟨congrArg Ending.returned (by rw [HE.out, HT.out.eq, if_neg HC.out]; rfl), ?_, ?_⟩
            · rw [HE.out, HT.out.eq, if_neg HC.out, HDN.out]
              exact HD10.out.more.ends hlt.out HO3.out.size (by simp [World.setCell]) (by have := HO3.out.size; have := HO10.out.size; simp [World.setCell]; omega)
            · exact (HO3.out.trans HO10.out fun x hx => .inl hx).setCell (.inl HD3.out.Fd) _
      · have h3b : (q3 != 0) = true := by simpa using h3
        have HE : Hid (s.make n.data.toList = s.tried) := Lib.hid (Disk.call_3 (names := [n.data.toList]) (has := []) (f := fun s => if Disk.find s.now n.data.toList = none ∧ 64 ≤ s.now.length then (s, 22) else ((Disk.St.changes { s with all := s.all ++ [⟨[], 0, false⟩] } ⟨[], n.data.toList, s.all.length⟩).more, 0)) HQ1.out HQ2.out (by rw [HT.out.eq]; exact h3))
        clear h3
        go_enter Try.func28, Try.ntmps28
        go_wp2_with fail
        refine (look1_ok n H hn HQ1.out w hb0).mono ?_
        rintro e w1 ⟨rfl, hb1⟩
        go_wp2_with fail
        refine (tried_at H hk hkb HT w1 hb1).mono ?_
        rintro e w9 ⟨rfl, hd3, ho3⟩
        have HD3 := Lib.hid hd3
        have HO3 := Lib.hid ho3
        clear hd3 ho3
        go_wp2_with fail
        go_ret
        refine ⟨congrArg Ending.returned (by rw [HE.out, HT.out.eq]; rfl), ?_, HO3.out⟩
        rw [HE.out, HT.out.eq]
        exact HD3.out.ends0 hlt.out HO3.out.size
  · have h1b : (q1 != 0) = true := by simpa using h1
    have HE : Hid (s.make n.data.toList = (s, s.looked [] [n.data.toList])) := Lib.hid (Disk.call_1 (names := [n.data.toList]) (has := []) (f := fun s => if Disk.find s.now n.data.toList = none ∧ 64 ≤ s.now.length then (s, 22) else ((Disk.St.changes { s with all := s.all ++ [⟨[], 0, false⟩] } ⟨[], n.data.toList, s.all.length⟩).more, 0)) (by rw [hq1]; exact h1))
    have HQ1 := Lib.hid hq1
    clear hq1
    go_enter Try.func28, Try.ntmps28
    go_wp2_with fail
    refine (look1_bad n H hn HQ1.out h1 w hb0).mono ?_
    rintro e w1 ⟨rfl, hb1⟩
    go_wp2_with fail
    go_ret
    refine ⟨congrArg Ending.returned (by rw [HE.out, HQ1.out]; rfl), ?_, Only.of_below hb1 F⟩
    rw [HE.out]
    exact (H.out.far hb1).ends0 hlt.out hb1.size
end
end Go.Proofs.Ytfommpbblpnljaa
