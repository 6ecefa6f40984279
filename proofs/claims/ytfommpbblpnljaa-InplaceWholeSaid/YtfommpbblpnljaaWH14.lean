/- Texts that lead to the claim, one behind the other: Power, Pending, Done, Off, Plan of a disk: the walks. Condition: none. -/
import Derived.Test.YtfommpbblpnljaaWH13
namespace Go.Proofs.Ytfommpbblpnljaa
open Go.RowKit Go.ChangeShapes Go.WideShapes Go.Deep

section
variable {w w' : World} {F G : Blocks} {d : Nat} {s : Disk.St} {loc : Nat → Nat} {blk : Nat → Option Nat} {bn bo : Nat} {rowv : Value} {pA : Option Addr} {pC : Nat}
set_option maxRecDepth 100000 in
theorem power_any (HA : Hid (DiskAt w F d s)) : Calls Try.prog 16 #[.pointer (some ⟨d, 0, none⟩)] w fun e w' => e = .returned (.bool s.on) ∧ w = w' := by
  obtain ⟨loc, blk, bn, bo, rowv, pA, pC, hB⟩ := HA.out
  have c3 := hB.cell 3 _ rfl
  have c4 := hB.cell 4 _ rfl
  clear hB
  go_enter Try.func16, Try.ntmps16
  go_wp2_with (go_at_call 47; refine (ours_d c3).mono ?_; rintro e w1 ⟨rfl, rfl⟩)
  go_ret
  exact ⟨rfl, rfl⟩
set_option maxRecDepth 100000 in
theorem pending_any (HA : Hid (DiskAt w F d s)) : Calls Try.prog 18 #[.pointer (some ⟨d, 0, none⟩)] w fun e w' => e = .returned (.int .i64 (s.row.length : Nat)) ∧ w = w' := by
  obtain ⟨loc, blk, bn, bo, rowv, pA, pC, hB⟩ := HA.out
  obtain ⟨rA, rn, rc, rfl, hrn, hrc, hrm⟩ := hB.row.form
  have c3 := hB.cell 3 _ rfl
  have c2 := hB.cell 2 _ rfl
  clear hB
  go_enter Try.func18, Try.ntmps18
  go_wp2_with (go_at_call 47; refine (ours_d c3).mono ?_; rintro e w1 ⟨rfl, rfl⟩)
  go_ret
  exact ⟨retIn (by rw [hrn.out]), rfl⟩
set_option maxRecDepth 100000 in
theorem off_any (HA : Hid (DiskAt w F d s)) : Calls Try.prog 19 #[.pointer (some ⟨d, 0, none⟩)] w fun e w' => e = .returned (.tuple #[]) ∧ DiskAt w' F d s.off ∧ Only F w w' := by
  obtain ⟨loc, blk, bn, bo, rowv, pA, pC, hB⟩ := HA.out
  have c3 := hB.cell 3 _ rfl
  have c4 := hB.cell 4 _ rfl
  have f4 := hB.frozen 4
  have H := Lib.hid hB
  clear hB
  go_enter Try.func19, Try.ntmps19
  go_wp2_with (go_at_call 47; refine (ours_d c3).mono ?_; rintro e w1 ⟨rfl, rfl⟩)
  go_end0
  have ho : Only (fun x => x = d) w (w.setCell ⟨d, 4, none⟩ (.bool false)) := Only.setCell (Only.refl (fun x => x = d) w) (.inl rfl) _
  exact ⟨rfl, (H.out.header ho (t := s.off) (by simp [World.setCell, Array.getElem?_modify, H.out.hd, Disk.St.off]) rfl rfl rfl rfl rfl).at_, ho.mono fun x hx => hx ▸ H.out.Fd⟩
theorem plan_no {last : Int} {l : List (Int × Int)} {j : Nat} (hj : j < l.length) (h : Disk.St.planOk 0 l = Disk.St.planOk last (l.drop j)) (hb : (l[j]).1 ≤ last ∨ ((l[j]).2 ≠ 23 ∧ (l[j]).2 ≠ 22 ∧ (l[j]).2 ≠ 24)) (s : Disk.St) : s.plan_ l = (s, 1) := by
  have : Disk.St.planOk 0 l = false := by
    rw [h, List.drop_eq_getElem_cons hj, Disk.St.planOk]
    rcases hb with hb | ⟨h1, h2, h3⟩
    · have : decide (last < (l[j]).1) = false := decide_eq_false (by omega)
      rw [this]; rfl
    · have e1 : ((l[j]).2 == 23) = false := beq_eq_false_iff_ne.2 h1
      have e2 : ((l[j]).2 == 22) = false := beq_eq_false_iff_ne.2 h2
      have e3 : ((l[j]).2 == 24) = false := beq_eq_false_iff_ne.2 h3
      rw [e1, e2, e3]
      simp
  simp [Disk.St.plan_, this]
set_option maxRecDepth 100000 in
set_option maxHeartbeats 4000000 in
theorem plan_any (A : Option Addr) (n c : Nat) (l : List (Int × Int)) (S : Blocks) (HA : Hid (DiskAt w F d s)) (hn : Hid (n = l.length)) (hl : Hid (SliceAt Rep.fault w S A c l)) (hS : Hid (∀ b, S b → b < w.heap.size ∧ ¬ F b)) (hnb : n ≤ 1099511627776) :
    Calls Try.prog 11 #[.pointer (some ⟨d, 0, none⟩), .slice A n c] w (DiskCall w F d (s.plan_ l)) := by
  obtain ⟨loc, blk, bn, bo, rowv, pA, pC, hB⟩ := HA.out
  have H := Lib.hid hB
  have hlt := Lib.hid hB.lt
  have c3 := hB.cell 3 _ rfl
  have hnc : n ≤ c := by rw [hn.out]; exact hl.out.len
  have hcm := hl.out.max
  clear hB HA
  go_enter Try.func11, Try.ntmps11
  go_wp2_with (go_at_call 47; refine (ours_d c3).mono ?_; rintro e w1 ⟨rfl, rfl⟩)
  go_loopg [5, 7, 13] n (fun k v _ i wr => ∃ (j : Nat) (last : Int), k = n - j ∧ j ≤ n ∧ i = .int .i64 j ∧ v = .int .i64 last ∧ Hid (Disk.St.planOk 0 l = Disk.St.planOk last (l.drop j)) ∧ Hid (Below w.heap.size w wr))
  case atStart => exact ⟨0, 0, rfl, by omega, rfl, rfl, Lib.hid rfl, Lib.hid (Below.refl _ _)⟩
  case round =>
    obtain ⟨j, last, rfl, hj, rfl, rfl, HP, HB⟩ := hrel
    by_cases hjn : j < n
    · obtain ⟨g, o, cs, rfl, hg, hc, rfl, hw1, hw2⟩ := hl.out.at_ (i := j) (by rw [← hn.out]; exact hjn)
      obtain ⟨N, hNe⟩ : ∃ N, N = (l[j]'(by rw [← hn.out]; exact hjn)).1 := ⟨_, rfl⟩
      obtain ⟨E, hEe⟩ : ∃ E, E = (l[j]'(by rw [← hn.out]; exact hjn)).2 := ⟨_, rfl⟩
      rw [← hNe, ← hEe] at hc
      obtain ⟨k1, k2⟩ := (hc.below HB.out (hS.out g hg).1).two
      rw [show Rep.fault.n = 2 from rfl] at k1 k2
      have HNE := Lib.hid hNe
      have HEE := Lib.hid hEe
      clear hc hw1 hw2 hNe hEe c3
      have hgr : g ≠ wr.heap.size := by have := (hS.out g hg).1; have := HB.out.size; omega
      by_cases h1 : N ≤ last
      · have hno := Lib.hid (plan_no (s := s) (by rw [← hn.out]; exact hjn) HP.out (.inl (by rw [← HNE.out]; exact h1)))
        go_wp2_with fail
        go_ret
        refine ⟨congrArg Ending.returned (by rw [hno.out]; rfl), ?_, ?_⟩
        · rw [hno.out]
          exact (H.out.far (HB.out.alloc HB.out.size _)).ends0 hlt.out (by have := HB.out.size; simp; omega)
        · exact Only.of_below (HB.out.alloc HB.out.size _) F
      · by_cases h2 : E = 23 ∨ E = 22 ∨ E = 24
        · have HPN : Hid (Disk.St.planOk 0 l = Disk.St.planOk N (l.drop (j + 1))) := Lib.hid (by
            rw [HP.out, List.drop_eq_getElem_cons (by rw [← hn.out]; exact hjn), Disk.St.planOk, ← HNE.out, ← HEE.out]
            have : decide (last < N) = true := decide_eq_true (by omega)
            rw [this]
            rcases h2 with rfl | rfl | rfl <;> simp)
          rcases h2 with rfl | rfl | rfl
          all_goals
            go_wp2_with fail
            go_roundg (n - (j + 1))
            case measure => omega
            case rel => exact ⟨j + 1, N, rfl, by omega, by go_num, rfl, HPN, Lib.hid (HB.out.alloc HB.out.size _)⟩
        · have e1 : (E != 23) = true := by rw [bne_iff_ne]; exact fun e => h2 (.inl e)
          have e2 : (E != 22) = true := by rw [bne_iff_ne]; exact fun e => h2 (.inr (.inl e))
          have e3 : (E != 24) = true := by rw [bne_iff_ne]; exact fun e => h2 (.inr (.inr e))
          have hno := Lib.hid (plan_no (s := s) (by rw [← hn.out]; exact hjn) HP.out (.inr ⟨by rw [← HEE.out]; exact fun e => h2 (.inl e), by rw [← HEE.out]; exact fun e => h2 (.inr (.inl e)), by rw [← HEE.out]; exact fun e => h2 (.inr (.inr e))⟩))
          clear h2
          go_wp2_with fail
          go_ret
          refine ⟨congrArg Ending.returned (by rw [hno.out]; rfl), ?_, ?_⟩
          · rw [hno.out]
            exact (H.out.far (HB.out.alloc HB.out.size _)).ends0 hlt.out (by have := HB.out.size; simp; omega)
          · exact Only.of_below (HB.out.alloc HB.out.size _) F
    · obtain rfl : j = n := by omega
      have HOK : Hid (s.plan_ l = ({ s with plan := l, tries := 0 }, 0)) := Lib.hid (by
        have h := HP.out
        rw [hn.out, List.drop_length] at h
        simp [Disk.St.plan_, h, Disk.St.planOk])
      have HLr := Lib.hid (hl.out.keep (S' := S) (fun _ h => h) (Same.of_below HB.out fun b hb => (hS.out b hb).1))
      have HDr := Lib.hid (H.out.far HB.out)
      go_wp2_with fail
      refine (cloneFaults A j c l wr S hn HLr (Lib.hid fun b hb => Nat.lt_of_lt_of_le (hS.out b hb).1 HB.out.size) hnb).mono ?_
      rintro e w2 ⟨A', c', rfl, h1, h2, hown, hb2⟩
      have HOWN := Lib.hid hown
      have HB2 := Lib.hid hb2
      have HD2 := Lib.hid (HDr.out.far hb2)
      have f6 := HD2.out.frozen 6
      have f7 := HD2.out.frozen 7
      have c6 := HD2.out.cell 6 _ rfl
      have c7 := HD2.out.cell 7 _ rfl
      clear hown hb2 c3
      go_wp2_with fail
      go_ret
      have ho : Only (fun x => x = d) w2 ((w2.setCell ⟨d, 6, none⟩ (.slice A' j c')).setCell ⟨d, 7, none⟩ (.int .i64 0)) := Only.setCell (Only.setCell (Only.refl (fun x => x = d) w2) (.inl rfl) _) (.inl rfl) _
      have hsz : ((w2.setCell ⟨d, 6, none⟩ (.slice A' j c')).setCell ⟨d, 7, none⟩ (.int .i64 0)).heap.size = w2.heap.size := by simp [World.setCell]
      have hb02 := HB.out.trans (HB2.out.mono HB.out.size)
      have hown3 : Own Rep.fault 45 ((w2.setCell ⟨d, 6, none⟩ (.slice A' j c')).setCell ⟨d, 7, none⟩ (.int .i64 0)) wr.heap.size nob (.slice A' j c') l := HOWN.out.only ho fun b hb e => HOWN.out.ne_block HD2.out.hd (by decide) (by rw [hb, e])
      have hnew := HDr.out.newPlan (t := { s with plan := l, tries := 0 }) (A := A') (c := c') ((Only.of_below HB2.out (fun x => x = d)).trans ho fun x hx => .inl hx) (by simp [World.setCell, Array.getElem?_modify, HD2.out.hd, hn.out]) rfl rfl rfl rfl (.inr (by rw [← hn.out]; exact hown3.low (Nat.zero_le _))) (fun b _ hb => by rw [← hn.out] at hb; exact hown3.block_lt hb)
      refine ⟨congrArg Ending.returned (by rw [HOK.out]; rfl), ?_, ?_⟩
      · rw [HOK.out]
        exact hnew.ends hlt.out HB.out.size (Nat.le_refl _) (by rw [hsz]; exact hb02.size)
      · exact (Only.of_below hb02 F).trans ho fun x hx => .inl (hx ▸ H.out.Fd)
end
end Go.Proofs.Ytfommpbblpnljaa
