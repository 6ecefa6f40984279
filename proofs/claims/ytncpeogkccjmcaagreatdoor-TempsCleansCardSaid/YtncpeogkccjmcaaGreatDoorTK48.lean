/- Texts that lead to the claim, one behind the other: The writing calls of a disk: Make, Append, Sync, Rename, Remove, SyncDir (append; printed by gen/diskcalls.py). Condition: the counts are below 2^40. | The writing calls of a disk: Make, Append, Sync, Rename, Remove, SyncDir (make; printed by gen/diskcalls.py). Condition: the counts are below 2^40. -/
import Derived.Test.YtncpeogkccjmcaaGreatDoorTK12
import Derived.Deep.RegionHeld3
import Derived.IntWalk
namespace Go.Proofs.YtncpeogkccjmcaaGreatDoor
open Go.RowKit Go.ChangeShapes Go.WideShapes Go.Deep

section
variable {w w' : World} {F G : Blocks} {d : Nat} {s : Disk.St} {loc : Nat → Nat} {blk : Nat → Option Nat} {bn bo : Nat} {rowv : Value} {pA : Option Addr} {pC : Nat}
set_option maxRecDepth 100000 in
set_option maxHeartbeats 2000000 in
theorem append_any (n : ByteArray) (hn : n.size ≤ maxLen) (B : Option Addr) (bk cb : Nat) (bs : List UInt8) (S : Blocks) (hbk : Hid (bk = bs.length)) (hB0 : Hid (SliceAt Rep.byte w S B cb bs)) (hS : Hid (∀ b, S b → b < w.heap.size ∧ ¬ F b)) (hbb : bk ≤ 1099511627776) (HA : Hid (DiskAt w F d s)) (hf : Hid (Disk.Fine s)) {k : Nat} (hk : Hid (Disk.Small k s)) (hkb : k ≤ 1099511627776) :
    Calls Tryz.prog 36 #[.pointer (some ⟨d, 0, none⟩), .string n, .slice B bk cb] w (DiskCall w F d (s.append n.data.toList bs)) := by
  obtain ⟨loc, blk, bn, bo, rowv, pA, pC, hB⟩ := HA.out
  have H := Lib.hid hB
  have hlt := Lib.hid hB.lt
  have hb0 := Below.refl w.heap.size w
  clear hB HA
  obtain ⟨q1, hq1⟩ : ∃ q, s.looked [] [n.data.toList] = q := ⟨_, rfl⟩
  by_cases h1 : q1 = 0
  · subst h1
    have HQ1 := Lib.hid hq1
    obtain ⟨q2, hq2⟩ : ∃ q, s.looked n.data.toList [] = q := ⟨_, rfl⟩
    by_cases h2 : q2 = 0
    · subst h2
      have HQ2 := Lib.hid hq2
      obtain ⟨i, hi⟩ := Disk.looked_file (Disk.isName_ne ((Disk.names_of hq1).2 _ (by simp))) hq2
      have HI := Lib.hid hi
      obtain ⟨s3, q3, hT⟩ := Tried.mk' s
      have HT := Lib.hid hT
      clear hq1 hq2 hT hi
      by_cases h3 : q3 = 0
      · subst h3
        have HE : Hid (s.append n.data.toList bs = (fun s => if 0 < bs.length ∧ s.room - (s.size s.now : Int) < (bs.length : Int) then (s, 22) else ((s.setNd ((Disk.find s.now n.data.toList).getD 0) fun d => { d with bytes := d.bytes ++ bs }).more, 0)) s.tried.1) := Lib.hid (Disk.call_4 (names := [n.data.toList]) (has := n.data.toList) (f := fun s => if 0 < bs.length ∧ s.room - (s.size s.now : Int) < (bs.length : Int) then (s, 22) else ((s.setNd ((Disk.find s.now n.data.toList).getD 0) fun d => { d with bytes := d.bytes ++ bs }).more, 0)) HQ1.out HQ2.out (by rw [HT.out.eq]))
        go_enter Tryz.func36, Tryz.ntmps36
        go_wp2_with fail
        refine (look1_ok n H hn HQ1.out w hb0).mono ?_
        rintro e w1 ⟨rfl, hb1⟩
        go_wp2_with fail
        refine (look2_ok n H hn HQ2.out HI.out w1 hb1).mono ?_
        rintro e w2 ⟨rfl, hb2⟩
        go_wp2_with fail
        refine (tried_at H hk hkb HT w2 hb2).mono ?_
        rintro e w9 ⟨rfl, hd3, ho3⟩
        have HD3 := Lib.hid hd3
        have HO3 := Lib.hid ho3
        clear hd3 ho3
        obtain ⟨nd, hnd⟩ : ∃ nd, s3.all[i]? = some nd := by
          rw [HT.out.all]
          exact ⟨_, List.getElem?_eq_getElem (hf.out.nowI i (List.mem_map.2 ⟨_, Disk.mem_of_find HI.out, rfl⟩))⟩
        obtain ⟨A, c, hh, hrow⟩ := HD3.out.files i nd hnd
        obtain ⟨m, hm⟩ : ∃ m, m = nd.bytes.length := ⟨_, rfl⟩
        rw [← hm] at hh
        have HH := Lib.hid hh
        have HM := Lib.hid hm
        have HND := Lib.hid hnd
        have HROW := Lib.hid hrow
        have k0 : w9.cell? ⟨loc i, 0, none⟩ = some (.slice A m c) := (cell_of_row w9 _ 0 _ _ (0, 0) hh).trans rfl
        have k1 : w9.cell? ⟨loc i, 1, none⟩ = some (.int .i64 nd.syn) := (cell_of_row w9 _ 1 _ _ (0, 0) hh).trans rfl
        have kf : ∀ o, w9.frozen? ⟨loc i, o, none⟩ = false := fun o => by simp [World.frozen?, hh]
        have hne : d ≠ loc i := ne_cells HD3.out.hd hh (by decide)
        clear hh hm hnd hrow
        have k8 := HD3.out.cell 8 _ rfl
        have kf8 := HD3.out.frozen 8
        obtain ⟨dn, hdn⟩ : ∃ x, x = s3.done := ⟨_, rfl⟩
        rw [← hdn] at k8
        have hdn1 : 0 ≤ dn ∧ dn ≤ 8796093022208 := by rw [hdn, HT.out.done]; obtain ⟨-, -, a, b, -⟩ := hk.out; omega
        obtain ⟨hdn1, hdn2⟩ := hdn1
        have HDN := Lib.hid hdn
        clear hdn
        have hB9 := Lib.hid (hB0.out.keep (S' := S) (fun _ h => h) (HO3.out.same hS.out))
        have hbc : bk ≤ cb := by rw [hbk.out]; exact hB9.out.len
        have hbm := hB9.out.max
        have hf9 := Lib.hid (Disk.fine_tried hf.out)
        rw [HT.out.eq] at hf9
        have k3 := HD3.out.cell 5 _ rfl
        obtain ⟨room, hroom⟩ : ∃ x, x = s3.room := ⟨_, rfl⟩
        rw [← hroom] at k3
        have hr0 : 0 ≤ room ∧ room ≤ 16777216 := by rw [hroom]; exact hf9.out.room
        obtain ⟨hr0, hr1⟩ := hr0
        have HROOM := Lib.hid hroom
        have hm24 : m ≤ 16777216 := by rw [HM.out]; exact hf9.out.big nd (List.mem_of_getElem? HND.out)
        clear hroom
        obtain ⟨sz, hsz⟩ : ∃ x, x = s3.size s3.now := ⟨_, rfl⟩
        have hsz1 : sz ≤ 1073741824 := by rw [hsz]; exact size_le hf9.out
        have HSZ := Lib.hid hsz
        have HSUM : Hid (∀ W, Below w9.heap.size w9 W → Calls Tryz.prog 20 #[.pointer (some ⟨d, 0, none⟩)] W fun e w' => e = .returned (.int .i64 (sz : Nat)) ∧ Below W.heap.size W w') := Lib.hid fun W hW => by rw [hsz]; exact sum_d (HD3.out.far hW) hf9.out
        clear hsz
        go_upto_region 10 with fail
        go_cut [52] from 36 to 52 (fun v wc => ∃ q, v = .bool q ∧ Hid (q = decide (0 < bk ∧ room - sz < bk)) ∧ Hid (Below w9.heap.size w9 wc))
        case first =>
          by_cases hz : bk = 0
          · subst hz
            go_quiet (fail)
            generalize hW : World.drewN _ _ = W
            go_wp2_with fail
            go_meet
            case rel => exact ⟨false, rfl, Lib.hid (by simp), Lib.hid (by rw [← hW]; exact below_dr _ _)⟩
          · have hz1 : decide ((0 : Int) < (bk : Int)) = true := decide_eq_true (by omega)
            have hz2 : 0 < bk := by omega
            have HK : Hid (∀ wa wb : World, (Below w9.heap.size w9 wa ∧ wa.cell? ⟨d, 5, none⟩ = some (.int .i64 room)) → Below wa.heap.size wa wb → (Below w9.heap.size w9 wb ∧ wb.cell? ⟨d, 5, none⟩ = some (.int .i64 room))) := Lib.hid (by
              rintro wa wb ⟨a0, a1⟩ hb
              exact ⟨a0.trans (hb.mono a0.size), (hb.cell (World.block_lt_of_cell? wa _ a1)).trans a1⟩)
            have HK0 : Hid (Below w9.heap.size w9 w9.drew ∧ w9.drew.cell? ⟨d, 5, none⟩ = some (.int .i64 room)) := Lib.hid ⟨⟨rfl, rfl, rfl, Nat.le_refl _, fun _ _ => rfl⟩, k3⟩
            have hwr : IntKind.i64.wrap (room - (sz : Int)) = room - (sz : Int) := IntWalk.i64_in _ (by omega)
            go_region_held3 (fun wa => Below w9.heap.size w9 wa ∧ wa.cell? ⟨d, 5, none⟩ = some (.int .i64 room)) (first | exact HK0.out | exact HK.out _ _ (by assumption) (by assumption)) (first | (go_at_call 20; refine (HSUM.out _ (And.left (by assumption))).mono ?_; rintro e w10 ⟨rfl, hb10⟩))
            all_goals
              go_wp2_with fail
              go_meet
              case rel => exact ⟨_, rfl, Lib.hid (by simp [hz2]), Lib.hid (And.left (by assumption))⟩
        case rest =>
          obtain ⟨q, rfl, HQ, HB⟩ := hcut
          have HDc := Lib.hid (HD3.out.far HB.out)
          have HOc : Hid (Only F w wc) := Lib.hid (HO3.out.trans (Only.of_below HB.out nob) fun x hx => hx.elim)
          have hlc : loc i < w9.heap.size := HD3.out.lt _ (HD3.out.Fl i (List.getElem?_eq_some_iff.1 HND.out).1)
          have hdc : d < w9.heap.size := HD3.out.lt d HD3.out.Fd
          have HHc := Lib.hid ((HB.out.block _ hlc).trans HH.out)
          have HROWc := Lib.hid (HROW.out.same fun x hx => HB.out.block x (HROW.out.lt hx))
          have HBc := Lib.hid (hB9.out.keep (S' := S) (fun _ h => h) (Same.of_below HB.out fun b hb => Nat.lt_of_lt_of_le (hS.out b hb).1 HO3.out.size))
          clear k0 k1 kf k8 kf8 k3
          cases q
          · have HC : Hid (¬ (0 < bs.length ∧ s3.room - (s3.size s3.now : Int) < (bs.length : Int))) := Lib.hid (by
              rw [← HROOM.out, ← HSZ.out, ← hbk.out]
              exact of_decide_eq_false HQ.out.symm)
            have k0 : wc.cell? ⟨loc i, 0, none⟩ = some (.slice A m c) := (cell_of_row wc _ 0 _ _ (0, 0) HHc.out).trans rfl
            go_wp2_with (at_builtin; refine wpList_append_RowT wc rfl (.tmp 57) (.tmp 58) 67 rfl 5 stBytes HM.out HROWc.out rfl hbk.out HBc.out rfl (by omega) ?_; intro A2 c2 blk2 w11 hr2 hg2 hat2; have HR2 := Lib.hid hr2; have HG2 := Lib.hid hg2; have HA2 := Lib.hid hat2; have HH11 := Lib.hid ((hg2.block (loc i) (Array.getElem?_eq_some_iff.1 HHc.out).1 (fun e => Other.row HROWc.out (by decide) _ e _ _ HHc.out)).trans HHc.out); have HD11 := Lib.hid ((hg2.block d (Array.getElem?_eq_some_iff.1 HDc.out.hd).1 (fun e => Other.row HROWc.out (by decide) _ e _ _ HDc.out.hd)).trans HDc.out.hd); have k10 : w11.cell? ⟨loc i, 0, none⟩ = some (.slice A m c) := (cell_of_row w11 _ 0 _ _ (0, 0) HH11.out).trans rfl; have f10 : w11.frozen? ⟨loc i, 0, none⟩ = false := (by simp [World.frozen?, HH11.out]); have k18 : w11.cell? ⟨d, 8, none⟩ = some (.int .i64 dn) := (cell_of_row w11 _ 8 _ _ (0, 0) HD11.out).trans (by rw [HDN.out]; rfl); have f18 : w11.frozen? ⟨d, 8, none⟩ = false := (by simp [World.frozen?, HD11.out]); clear hr2 hg2 hat2)
            go_ret
            have hs11 := HG2.out.size
            have ho4 : Only (fun x => x = loc i ∨ some x = blk i) wc (w11.setCell ⟨loc i, 0, none⟩ (.slice A2 (m + bk) c2)) := (Only.of_grown HG2.out (fun x => x = loc i ∨ some x = blk i) fun x hx => .inr hx).setCell (.inl (.inl rfl)) _
            have h4 := HDc.out.file HND.out (fun d => { d with bytes := d.bytes ++ bs }) ho4 (blk' := blk2) ⟨A2, c2, by simp [World.setCell, Array.getElem?_modify, HH11.out, HM.out, hbk.out], HR2.out.same fun x hx => ?_⟩ (HA2.out.imp id fun e => ⟨_, e, Nat.le_refl _, ?_⟩)
            · refine ⟨congrArg Ending.returned (by rw [HE.out, HT.out.eq, if_neg HC.out]; rfl), ?_, ?_⟩
              · rw [HE.out, HT.out.eq, if_neg HC.out, HT.out.now, HI.out, HDN.out]
                exact h4.more.ends hlt.out HOc.out.size (by simp [World.setCell]) (by have := HOc.out.size; simp [World.setCell]; omega)
              · refine (HOc.out.trans ho4 fun x hx => .inl ?_).setCell (.inl HD3.out.Fd) _
                rcases hx with rfl | hx
                · exact HD3.out.Fl i (List.getElem?_eq_some_iff.1 HND.out).1
                · exact HD3.out.Fb i x (List.getElem?_eq_some_iff.1 HND.out).1 hx.symm
            · obtain ⟨cur, hcur⟩ := HR2.out.ty hx
              exact Below.heap_setCell w11 ⟨loc i, 0, none⟩ _ x (ne_cells hcur HH11.out (by decide))
            · have := HR2.out.lt e
              simp [World.setCell]; omega
          · have HC : Hid (0 < bs.length ∧ s3.room - (s3.size s3.now : Int) < (bs.length : Int)) := Lib.hid (by
              rw [← HROOM.out, ← HSZ.out, ← hbk.out]
              exact of_decide_eq_true HQ.out.symm)
            go_wp2_with fail
            go_ret
            refine ⟨congrArg Ending.returned (by rw [HE.out, HT.out.eq, if_pos HC.out]; rfl), ?_, HOc.out⟩
            rw [HE.out, HT.out.eq, if_pos HC.out]
            exact HDc.out.ends0 hlt.out HOc.out.size
      · have h3b : (q3 != 0) = true := by simpa using h3
        have HE : Hid (s.append n.data.toList bs = s.tried) := Lib.hid (Disk.call_3 (names := [n.data.toList]) (has := n.data.toList) (f := fun s => if 0 < bs.length ∧ s.room - (s.size s.now : Int) < (bs.length : Int) then (s, 22) else ((s.setNd ((Disk.find s.now n.data.toList).getD 0) fun d => { d with bytes := d.bytes ++ bs }).more, 0)) HQ1.out HQ2.out (by rw [HT.out.eq]; exact h3))
        clear h3
        go_enter Tryz.func36, Tryz.ntmps36
        go_wp2_with fail
        refine (look1_ok n H hn HQ1.out w hb0).mono ?_
        rintro e w1 ⟨rfl, hb1⟩
        go_wp2_with fail
        refine (look2_ok n H hn HQ2.out HI.out w1 hb1).mono ?_
        rintro e w2 ⟨rfl, hb2⟩
        go_wp2_with fail
        refine (tried_at H hk hkb HT w2 hb2).mono ?_
        rintro e w9 ⟨rfl, hd3, ho3⟩
        have HD3 := Lib.hid hd3
        have HO3 := Lib.hid ho3
        clear hd3 ho3
        go_wp2_with fail
        go_ret
        refine ⟨congrArg Ending.returned (by rw [HE.out, HT.out.eq]; rfl), ?_, HO3.out⟩
        rw [HE.out, HT.out.eq]
        exact HD3.out.ends0 hlt.out HO3.out.size
    · have h2b : (q2 != 0) = true := by simpa using h2
      have HE : Hid (s.append n.data.toList bs = (s, s.looked n.data.toList [])) := Lib.hid (Disk.call_2 (names := [n.data.toList]) (has := n.data.toList) (f := fun s => if 0 < bs.length ∧ s.room - (s.size s.now : Int) < (bs.length : Int) then (s, 22) else ((s.setNd ((Disk.find s.now n.data.toList).getD 0) fun d => { d with bytes := d.bytes ++ bs }).more, 0)) HQ1.out (by rw [hq2]; exact h2))
      have HQ2 := Lib.hid hq2
      clear hq1 hq2
      go_enter Tryz.func36, Tryz.ntmps36
      go_wp2_with fail
      refine (look1_ok n H hn HQ1.out w hb0).mono ?_
      rintro e w1 ⟨rfl, hb1⟩
      go_wp2_with fail
      refine (look2_bad n H hn HQ2.out h2 w1 hb1).mono ?_
      rintro e w2 ⟨rfl, hb2⟩
      go_wp2_with fail
      go_ret
      refine ⟨congrArg Ending.returned (by rw [HE.out, HQ2.out]; rfl), ?_, Only.of_below hb2 F⟩
      rw [HE.out]
      exact (H.out.far hb2).ends0 hlt.out hb2.size
  · have h1b : (q1 != 0) = true := by simpa using h1
    have HE : Hid (s.append n.data.toList bs = (s, s.looked [] [n.data.toList])) := Lib.hid (Disk.call_1 (names := [n.data.toList]) (has := n.data.toList) (f := fun s => if 0 < bs.length ∧ s.room - (s.size s.now : Int) < (bs.length : Int) then (s, 22) else ((s.setNd ((Disk.find s.now n.data.toList).getD 0) fun d => { d with bytes := d.bytes ++ bs }).more, 0)) (by rw [hq1]; exact h1))
    have HQ1 := Lib.hid hq1
    clear hq1
    go_enter Tryz.func36, Tryz.ntmps36
    go_wp2_with fail
    refine (look1_bad n H hn HQ1.out h1 w hb0).mono ?_
    rintro e w1 ⟨rfl, hb1⟩
    go_wp2_with fail
    go_ret
    refine ⟨congrArg Ending.returned (by rw [HE.out, HQ1.out]; rfl), ?_, Only.of_below hb1 F⟩
    rw [HE.out]
    exact (H.out.far hb1).ends0 hlt.out hb1.size
end
end Go.Proofs.YtncpeogkccjmcaaGreatDoor
namespace Go.Proofs.YtncpeogkccjmcaaGreatDoor
open Go.RowKit Go.ChangeShapes Go.WideShapes Go.Deep

section
variable {w w' : World} {F G : Blocks} {d : Nat} {s : Disk.St} {loc : Nat → Nat} {blk : Nat → Option Nat} {bn bo : Nat} {rowv : Value} {pA : Option Addr} {pC : Nat}
set_option maxRecDepth 100000 in
set_option maxHeartbeats 2000000 in
theorem make_any (n : ByteArray) (hn : n.size ≤ maxLen) (HA : Hid (DiskAt w F d s)) (hf : Hid (Disk.Fine s)) {k : Nat} (hk : Hid (Disk.Small k s)) (hkb : k ≤ 1099511627776) :
    Calls Tryz.prog 35 #[.pointer (some ⟨d, 0, none⟩), .string n] w (DiskCall w F d (s.make n.data.toList)) := by
  obtain ⟨loc, blk, bn, bo, rowv, pA, pC, hB⟩ := HA.out
  have H := Lib.hid hB
  have hlt := Lib.hid hB.lt
  have hb0 := Below.refl w.heap.size w
  clear hB HA
  obtain ⟨q1, hq1⟩ : ∃ q, s.looked [] [n.data.toList] = q := ⟨_, rfl⟩
  by_cases h1 : q1 = 0
  · subst h1
    have HQ1 := Lib.hid hq1
    have HQ2 : Hid (s.looked [] [] = 0) := Lib.hid (Disk.looked_on (Disk.names_of hq1).1 (by simp))
    all_goals
      obtain ⟨s3, q3, hT⟩ := Tried.mk' s
      have HT := Lib.hid hT
      clear hq1 hT
      by_cases h3 : q3 = 0
      · subst h3
        have HE : Hid (s.make n.data.toList = (fun s => if Disk.find s.now n.data.toList = none ∧ 64 ≤ s.now.length then (s, 22) else ((Disk.St.changes { s with all := s.all ++ [⟨[], 0, false⟩] } ⟨[], n.data.toList, s.all.length⟩).more, 0)) s.tried.1) := Lib.hid (Disk.call_4 (names := [n.data.toList]) (has := []) (f := fun s => if Disk.find s.now n.data.toList = none ∧ 64 ≤ s.now.length then (s, 22) else ((Disk.St.changes { s with all := s.all ++ [⟨[], 0, false⟩] } ⟨[], n.data.toList, s.all.length⟩).more, 0)) HQ1.out HQ2.out (by rw [HT.out.eq]))
        go_enter Tryz.func35, Tryz.ntmps35
        go_wp2_with fail
        refine (look1_ok n H hn HQ1.out w hb0).mono ?_
        rintro e w1 ⟨rfl, hb1⟩
        go_wp2_with fail
        refine (tried_at H hk hkb HT w1 hb1).mono ?_
        rintro e w9 ⟨rfl, hd3, ho3⟩
        have HD3 := Lib.hid hd3
        have HO3 := Lib.hid ho3
        clear hd3 ho3
        have HF3 := Lib.hid (HT.out.fine hf.out)
        have hne1 := Disk.isName_ne ((Disk.names_of HQ1.out).2 n.data.toList (by simp))
        have HNE1 := Lib.hid hne1
        clear hne1
        have hlk := HD3.out.now.look_ok (t := 34) (e := 80) Tryz.underlying9 Tryz.underlying34 (Tryz.zeroValue80 _) n hn
        have hlen := fun ty => HD3.out.now.lenRun Tryz.underlying34 ty
        have k0 := HD3.out.cell 0 _ rfl
        obtain ⟨p, hp⟩ : ∃ p, Disk.ptrOf s3.now loc n.data.toList = p := ⟨_, rfl⟩
        obtain ⟨b, hb⟩ : ∃ b, (Disk.find s3.now n.data.toList).isSome = b := ⟨_, rfl⟩
        obtain ⟨m, hm⟩ : ∃ m, m = s3.now.length := ⟨_, rfl⟩
        rw [hp, hb] at hlk
        rw [← hm] at hlen
        have HB := Lib.hid hb
        have HM := Lib.hid hm
        have hm64 : m ≤ 64 := by rw [hm]; exact HF3.out.nowL
        clear hp hb hm
        by_cases hfull : b = false ∧ 64 ≤ m
        · obtain ⟨rfl, hm6⟩ := hfull
          have hm6d : decide ((64 : Int) ≤ (m : Int)) = true := decide_eq_true (by omega)
          have HC : Hid (Disk.find s3.now n.data.toList = none ∧ 64 ≤ s3.now.length) := Lib.hid ⟨by have := HB.out; cases e : Disk.find s3.now n.data.toList <;> simp_all, by rw [← HM.out]; exact hm6⟩
          go_wp2_with fail
          go_ret
          refine ⟨congrArg Ending.returned (by rw [HE.out, HT.out.eq, if_pos HC.out]; rfl), ?_, HO3.out⟩
          rw [HE.out, HT.out.eq, if_pos HC.out]
          exact HD3.out.ends0 hlt.out HO3.out.size
        · have HC : Hid (¬ (Disk.find s3.now n.data.toList = none ∧ 64 ≤ s3.now.length)) := Lib.hid fun ⟨a1, a2⟩ => hfull ⟨by have := HB.out; rw [a1] at this; exact this.symm, by rw [HM.out]; exact a2⟩
          have hd64 : b = true ∨ (b = false ∧ decide ((64 : Int) ≤ (m : Int)) = false) := by
            cases b
            · exact .inr ⟨rfl, decide_eq_false fun h => hfull ⟨rfl, by omega⟩⟩
            · exact .inl rfl
          clear hfull
          rcases hd64 with rfl | ⟨rfl, hd6⟩
          all_goals
            go_wp2_with fail
            refine (changes_new n hn HNE1.out HD3 HF3 (by rw [HT.out.row]; obtain ⟨-, -, -, -, a⟩ := hk.out; omega)).mono ?_
            rintro e w10 ⟨rfl, ⟨loc', blk', rowv', hd10⟩, ho10⟩
            have HD10 := Lib.hid hd10
            have HO10 := Lib.hid ho10
            clear hd10 ho10
            have k8 : w10.cell? ⟨d, 8, none⟩ = some (.int .i64 s3.done) := HD10.out.cell 8 _ rfl
            have kf8 := HD10.out.frozen 8
            obtain ⟨dn, hdn⟩ : ∃ x, x = s3.done := ⟨_, rfl⟩
            rw [← hdn] at k8
            have hdn1 : 0 ≤ dn ∧ dn ≤ 8796093022208 := by rw [hdn, HT.out.done]; obtain ⟨-, -, a, b, -⟩ := hk.out; omega
            obtain ⟨hdn1, hdn2⟩ := hdn1
            have HDN := Lib.hid hdn
            clear hdn
            go_wp2_with fail
            go_ret
            refine ⟨congrArg Ending.returned (by rw [HE.out, HT.out.eq, if_neg HC.out]; rfl), ?_, ?_⟩
            · rw [HE.out, HT.out.eq, if_neg HC.out, HDN.out]
              exact HD10.out.more.ends hlt.out HO3.out.size (by simp [World.setCell]) (by have := HO3.out.size; have := HO10.out.size; simp [World.setCell]; omega)
            · exact (HO3.out.trans HO10.out fun x hx => .inl hx).setCell (.inl HD3.out.Fd) _
      · have h3b : (q3 != 0) = true := by simpa using h3
        have HE : Hid (s.make n.data.toList = s.tried) := Lib.hid (Disk.call_3 (names := [n.data.toList]) (has := []) (f := fun s => if Disk.find s.now n.data.toList = none ∧ 64 ≤ s.now.length then (s, 22) else ((Disk.St.changes { s with all := s.all ++ [⟨[], 0, false⟩] } ⟨[], n.data.toList, s.all.length⟩).more, 0)) HQ1.out HQ2.out (by rw [HT.out.eq]; exact h3))
        clear h3
        go_enter Tryz.func35, Tryz.ntmps35
        go_wp2_with fail
        refine (look1_ok n H hn HQ1.out w hb0).mono ?_
        rintro e w1 ⟨rfl, hb1⟩
        go_wp2_with fail
        refine (tried_at H hk hkb HT w1 hb1).mono ?_
        rintro e w9 ⟨rfl, hd3, ho3⟩
        have HD3 := Lib.hid hd3
        have HO3 := Lib.hid ho3
        clear hd3 ho3
        go_wp2_with fail
        go_ret
        refine ⟨congrArg Ending.returned (by rw [HE.out, HT.out.eq]; rfl), ?_, HO3.out⟩
        rw [HE.out, HT.out.eq]
        exact HD3.out.ends0 hlt.out HO3.out.size
  · have h1b : (q1 != 0) = true := by simpa using h1
    have HE : Hid (s.make n.data.toList = (s, s.looked [] [n.data.toList])) := Lib.hid (Disk.call_1 (names := [n.data.toList]) (has := []) (f := fun s => if Disk.find s.now n.data.toList = none ∧ 64 ≤ s.now.length then (s, 22) else ((Disk.St.changes { s with all := s.all ++ [⟨[], 0, false⟩] } ⟨[], n.data.toList, s.all.length⟩).more, 0)) (by rw [hq1]; exact h1))
    have HQ1 := Lib.hid hq1
    clear hq1
    go_enter Tryz.func35, Tryz.ntmps35
    go_wp2_with fail
    refine (look1_bad n H hn HQ1.out h1 w hb0).mono ?_
    rintro e w1 ⟨rfl, hb1⟩
    go_wp2_with fail
    go_ret
    refine ⟨congrArg Ending.returned (by rw [HE.out, HQ1.out]; rfl), ?_, Only.of_below hb1 F⟩
    rw [HE.out]
    exact (H.out.far hb1).ends0 hlt.out hb1.size
end
end Go.Proofs.YtncpeogkccjmcaaGreatDoor
