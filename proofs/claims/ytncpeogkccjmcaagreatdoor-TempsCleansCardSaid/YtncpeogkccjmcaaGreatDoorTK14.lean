/- Texts that lead to the claim, one behind the other: Power, Pending, Done, Off, Plan of a disk: the walks. Condition: none. | The names of a disk, rising: the walks of (disk.folder).names and (disk.Disk).Names. Condition: none. -/
import Derived.Test.YtncpeogkccjmcaaGreatDoorTK13
import Derived.Sort.OwnSorted
import Derived.Laws.MakeOwn
namespace Go.Proofs.YtncpeogkccjmcaaGreatDoor
open Go.RowKit Go.ChangeShapes Go.WideShapes Go.Deep

section
variable {w w' : World} {F G : Blocks} {d : Nat} {s : Disk.St} {loc : Nat → Nat} {blk : Nat → Option Nat} {bn bo : Nat} {rowv : Value} {pA : Option Addr} {pC : Nat}
set_option maxRecDepth 100000 in
theorem power_any (HA : Hid (DiskAt w F d s)) : Calls Tryz.prog 27 #[.pointer (some ⟨d, 0, none⟩)] w fun e w' => e = .returned (.bool s.on) ∧ w = w' := by
  obtain ⟨loc, blk, bn, bo, rowv, pA, pC, hB⟩ := HA.out
  have c3 := hB.cell 3 _ rfl
  have c4 := hB.cell 4 _ rfl
  clear hB
  go_enter Tryz.func27, Tryz.ntmps27
  go_wp2_with (go_at_call 84; refine (ours_d c3).mono ?_; rintro e w1 ⟨rfl, rfl⟩)
  go_ret
  exact ⟨rfl, rfl⟩
set_option maxRecDepth 100000 in
theorem pending_any (HA : Hid (DiskAt w F d s)) : Calls Tryz.prog 55 #[.pointer (some ⟨d, 0, none⟩)] w fun e w' => e = .returned (.int .i64 (s.row.length : Nat)) ∧ w = w' := by
  obtain ⟨loc, blk, bn, bo, rowv, pA, pC, hB⟩ := HA.out
  obtain ⟨rA, rn, rc, rfl, hrn, hrc, hrm⟩ := hB.row.form
  have c3 := hB.cell 3 _ rfl
  have c2 := hB.cell 2 _ rfl
  clear hB
  go_enter Tryz.func55, Tryz.ntmps55
  go_wp2_with (go_at_call 84; refine (ours_d c3).mono ?_; rintro e w1 ⟨rfl, rfl⟩)
  go_ret
  exact ⟨retIn (by rw [hrn.out]), rfl⟩
set_option maxRecDepth 100000 in
theorem off_any (HA : Hid (DiskAt w F d s)) : Calls Tryz.prog 42 #[.pointer (some ⟨d, 0, none⟩)] w fun e w' => e = .returned (.tuple #[]) ∧ DiskAt w' F d s.off ∧ Only F w w' := by
  obtain ⟨loc, blk, bn, bo, rowv, pA, pC, hB⟩ := HA.out
  have c3 := hB.cell 3 _ rfl
  have c4 := hB.cell 4 _ rfl
  have f4 := hB.frozen 4
  have H := Lib.hid hB
  clear hB
  go_enter Tryz.func42, Tryz.ntmps42
  go_wp2_with (go_at_call 84; refine (ours_d c3).mono ?_; rintro e w1 ⟨rfl, rfl⟩)
  go_end0
  have ho : Only (fun x => x = d) w (w.setCell ⟨d, 4, none⟩ (.bool false)) := Only.setCell (Only.refl (fun x => x = d) w) (.inl rfl) _
  exact ⟨rfl, (H.out.header ho (t := s.off) (by simp [World.setCell, Array.getElem?_modify, H.out.hd, Disk.St.off]) rfl rfl rfl rfl rfl).at_, ho.mono fun x hx => hx ▸ H.out.Fd⟩
theorem plan_no {last : Int} {l : List (Int × Int)} {j : Nat} (hj : j < l.length) (h : Disk.St.planOk 0 l = Disk.St.planOk last (l.drop j)) (hb : (l[j]).1 ≤ last ∨ ((l[j]).2 ≠ 23 ∧ (l[j]).2 ≠ 22 ∧ (l[j]).2 ≠ 24)) (s : Disk.St) : s.plan_ l = (s, 1) := by
  have : Disk.St.planOk 0 l = false := by
    rw [h, List.drop_eq_getElem_cons hj, Disk.St.planOk]
    rcases hb with hb | ⟨h1, h2, h3⟩
    · have : decide (last < (l[j]).1) = false := decide_eq_false (by omega)
      rw [this]; rfl
    · have e1 : ((l[j]).2 == 23) = false := beq_eq_false_iff_ne.2 h1
      have e2 : ((l[j]).2 == 22) = false := beq_eq_false_iff_ne.2 h2
      have e3 : ((l[j]).2 == 24) = false := beq_eq_false_iff_ne.2 h3
      rw [e1, e2, e3]
      simp
  simp [Disk.St.plan_, this]
set_option maxRecDepth 100000 in
set_option maxHeartbeats 4000000 in
theorem plan_any (A : Option Addr) (n c : Nat) (l : List (Int × Int)) (S : Blocks) (HA : Hid (DiskAt w F d s)) (hn : Hid (n = l.length)) (hl : Hid (SliceAt Rep.fault w S A c l)) (hS : Hid (∀ b, S b → b < w.heap.size ∧ ¬ F b)) (hnb : n ≤ 1099511627776) :
    Calls Tryz.prog 40 #[.pointer (some ⟨d, 0, none⟩), .slice A n c] w (DiskCall w F d (s.plan_ l)) := by
  obtain ⟨loc, blk, bn, bo, rowv, pA, pC, hB⟩ := HA.out
  have H := Lib.hid hB
  have hlt := Lib.hid hB.lt
  have c3 := hB.cell 3 _ rfl
  have hnc : n ≤ c := by rw [hn.out]; exact hl.out.len
  have hcm := hl.out.max
  clear hB HA
  go_enter Tryz.func40, Tryz.ntmps40
  go_wp2_with (go_at_call 84; refine (ours_d c3).mono ?_; rintro e w1 ⟨rfl, rfl⟩)
  go_loopg [5, 7, 13] n (fun k v _ i wr => ∃ (j : Nat) (last : Int), k = n - j ∧ j ≤ n ∧ i = .int .i64 j ∧ v = .int .i64 last ∧ Hid (Disk.St.planOk 0 l = Disk.St.planOk last (l.drop j)) ∧ Hid (Below w.heap.size w wr))
  case atStart => exact ⟨0, 0, rfl, by omega, rfl, rfl, Lib.hid rfl, Lib.hid (Below.refl _ _)⟩
  case round =>
    obtain ⟨j, last, rfl, hj, rfl, rfl, HP, HB⟩ := hrel
    by_cases hjn : j < n
    · obtain ⟨g, o, cs, rfl, hg, hc, rfl, hw1, hw2⟩ := hl.out.at_ (i := j) (by rw [← hn.out]; exact hjn)
      obtain ⟨N, hNe⟩ : ∃ N, N = (l[j]'(by rw [← hn.out]; exact hjn)).1 := ⟨_, rfl⟩
      obtain ⟨E, hEe⟩ : ∃ E, E = (l[j]'(by rw [← hn.out]; exact hjn)).2 := ⟨_, rfl⟩
      rw [← hNe, ← hEe] at hc
      obtain ⟨k1, k2⟩ := (hc.below HB.out (hS.out g hg).1).two
      rw [show Rep.fault.n = 2 from rfl] at k1 k2
      have HNE := Lib.hid hNe
      have HEE := Lib.hid hEe
      clear hc hw1 hw2 hNe hEe c3
      have hgr : g ≠ wr.heap.size := by have := (hS.out g hg).1; have := HB.out.size; omega
      by_cases h1 : N ≤ last
      · have hno := Lib.hid (plan_no (s := s) (by rw [← hn.out]; exact hjn) HP.out (.inl (by rw [← HNE.out]; exact h1)))
        go_wp2_with fail
        go_ret
        refine ⟨congrArg Ending.returned (by rw [hno.out]; rfl), ?_, ?_⟩
        · rw [hno.out]
          exact (H.out.far (HB.out.alloc HB.out.size _)).ends0 hlt.out (by have := HB.out.size; simp; omega)
        · exact Only.of_below (HB.out.alloc HB.out.size _) F
      · by_cases h2 : E = 23 ∨ E = 22 ∨ E = 24
        · have HPN : Hid (Disk.St.planOk 0 l = Disk.St.planOk N (l.drop (j + 1))) := Lib.hid (by
            rw [HP.out, List.drop_eq_getElem_cons (by rw [← hn.out]; exact hjn), Disk.St.planOk, ← HNE.out, ← HEE.out]
            have : decide (last < N) = true := decide_eq_true (by omega)
            rw [this]
            rcases h2 with rfl | rfl | rfl <;> simp)
          rcases h2 with rfl | rfl | rfl
          all_goals
            go_wp2_with fail
            go_roundg (n - (j + 1))
            case measure => omega
            case rel => exact ⟨j + 1, N, rfl, by omega, by go_num, rfl, HPN, Lib.hid (HB.out.alloc HB.out.size _)⟩
        · have e1 : (E != 23) = true := by rw [bne_iff_ne]; exact fun e => h2 (.inl e)
          have e2 : (E != 22) = true := by rw [bne_iff_ne]; exact fun e => h2 (.inr (.inl e))
          have e3 : (E != 24) = true := by rw [bne_iff_ne]; exact fun e => h2 (.inr (.inr e))
          have hno := Lib.hid (plan_no (s := s) (by rw [← hn.out]; exact hjn) HP.out (.inr ⟨by rw [← HEE.out]; exact fun e => h2 (.inl e), by rw [← HEE.out]; exact fun e => h2 (.inr (.inl e)), by rw [← HEE.out]; exact fun e => h2 (.inr (.inr e))⟩))
          clear h2
          go_wp2_with fail
          go_ret
          refine ⟨congrArg Ending.returned (by rw [hno.out]; rfl), ?_, ?_⟩
          · rw [hno.out]
            exact (H.out.far (HB.out.alloc HB.out.size _)).ends0 hlt.out (by have := HB.out.size; simp; omega)
          · exact Only.of_below (HB.out.alloc HB.out.size _) F
    · obtain rfl : j = n := by omega
      have HOK : Hid (s.plan_ l = ({ s with plan := l, tries := 0 }, 0)) := Lib.hid (by
        have h := HP.out
        rw [hn.out, List.drop_length] at h
        simp [Disk.St.plan_, h, Disk.St.planOk])
      have HLr := Lib.hid (hl.out.keep (S' := S) (fun _ h => h) (Same.of_below HB.out fun b hb => (hS.out b hb).1))
      have HDr := Lib.hid (H.out.far HB.out)
      go_wp2_with fail
      refine (cloneFaults A j c l wr S hn HLr (Lib.hid fun b hb => Nat.lt_of_lt_of_le (hS.out b hb).1 HB.out.size) hnb).mono ?_
      rintro e w2 ⟨A', c', rfl, h1, h2, hown, hb2⟩
      have HOWN := Lib.hid hown
      have HB2 := Lib.hid hb2
      have HD2 := Lib.hid (HDr.out.far hb2)
      have f6 := HD2.out.frozen 6
      have f7 := HD2.out.frozen 7
      have c6 := HD2.out.cell 6 _ rfl
      have c7 := HD2.out.cell 7 _ rfl
      clear hown hb2 c3
      go_wp2_with fail
      go_ret
      have ho : Only (fun x => x = d) w2 ((w2.setCell ⟨d, 6, none⟩ (.slice A' j c')).setCell ⟨d, 7, none⟩ (.int .i64 0)) := Only.setCell (Only.setCell (Only.refl (fun x => x = d) w2) (.inl rfl) _) (.inl rfl) _
      have hsz : ((w2.setCell ⟨d, 6, none⟩ (.slice A' j c')).setCell ⟨d, 7, none⟩ (.int .i64 0)).heap.size = w2.heap.size := by simp [World.setCell]
      have hb02 := HB.out.trans (HB2.out.mono HB.out.size)
      have hown3 : Own Rep.fault 123 ((w2.setCell ⟨d, 6, none⟩ (.slice A' j c')).setCell ⟨d, 7, none⟩ (.int .i64 0)) wr.heap.size nob (.slice A' j c') l := HOWN.out.only ho fun b hb e => HOWN.out.ne_block HD2.out.hd (by decide) (by rw [hb, e])
      have hnew := HDr.out.newPlan (t := { s with plan := l, tries := 0 }) (A := A') (c := c') ((Only.of_below HB2.out (fun x => x = d)).trans ho fun x hx => .inl hx) (by simp [World.setCell, Array.getElem?_modify, HD2.out.hd, hn.out]) rfl rfl rfl rfl (.inr (by rw [← hn.out]; exact hown3.low (Nat.zero_le _))) (fun b _ hb => by rw [← hn.out] at hb; exact hown3.block_lt hb)
      refine ⟨congrArg Ending.returned (by rw [HOK.out]; rfl), ?_, ?_⟩
      · rw [HOK.out]
        exact hnew.ends hlt.out HB.out.size (Nat.le_refl _) (by rw [hsz]; exact hb02.size)
      · exact (Only.of_below hb02 F).trans ho fun x hx => .inl (hx ▸ H.out.Fd)
end
end Go.Proofs.YtncpeogkccjmcaaGreatDoor
namespace Go.Proofs.YtncpeogkccjmcaaGreatDoor
open Go.RowKit Go.ChangeShapes Go.WideShapes Go.Deep

def ba (l : List UInt8) : ByteArray := ⟨l.toArray⟩
theorem ba_size (l : List UInt8) : (ba l).size = l.length := by simp [ba, ByteArray.size]
theorem stStr : SliceType Tryz.prog 41 9 1 16 := SliceType.mk' (z := .string ⟨#[]⟩) Tryz.underlying41 (by kernel_rfl) rfl (by omega)
theorem infoStr : (Tryz.prog.info? 9).map (fun i => (i.zero, i.size, i.bytes)) = some (some (.string ⟨#[]⟩), 1, 16) := by kernel_rfl
theorem run_make_strs (u : World) (n : Nat) (hn : n ≤ 1099511627776) : (Instr.makeSlice 41 (.int .i64 0) (.int .i64 (n : Int))).run Tryz.prog u = .ok (.slice (some ⟨u.heap.size, 0, none⟩) 0 n) (u.alloc (.cells (madeCells #[.string ⟨#[]⟩] n) 9)) := by
  obtain ⟨i0, hi, h1, h2, h3⟩ := info_parts infoStr
  have := run_make (P := Tryz.prog) u 41 9 i0 (.string ⟨#[]⟩) Tryz.underlying41 hi h1 .i64 .i64 0 n (by omega) (by omega) (by rw [h3]; omega) (by omega)
  rw [this, h2]
  simp [Value.cells]
theorem going_iter {w : World} {b r n q : Nat} {l : Disk.Fo} {loc : Nat → Nat} {seen : List Disk.Nm} (h : Goi w b r n l loc seen q) (cs : Array Value) (t : TypeId) (f : Nat × Nat) : w.heap[r]? ≠ some (.cells cs t f) := by
  obtain ⟨D, left, ⟨_, _, _, _, _, _, _, _, _, hit, _⟩, _⟩ := h
  rw [hit]
  intro e; cases e
/-- Strings in memory of the call's own. -/
def StrsPost (w : World) (l : List (List UInt8)) (e : Ending) (w' : World) : Prop :=
  ∃ A n c, e = .returned (.slice A n c) ∧ Hid (n = l.length) ∧ n ≤ c ∧ c ≤ 9223372036854775807 ∧ Own Rep.str 9 w' w.heap.size nob (.slice A n c) (l.map ba) ∧ Below w.heap.size w w'
theorem own_strs {w : World} {base : Nat} {v : Value} {l : List ByteArray} (h : Own Rep.str 9 w base nob v l) : w.ownsRow base 9 1 v l.length (l.map Value.string) := by
  obtain ⟨xs, hx, -, -, hr⟩ := h
  have : xs = l.map Value.string := by
    have hxl := hx.1
    rw [show Rep.str.n = 1 from rfl, Nat.mul_one] at hxl
    apply List.ext_getElem
    · simp [hxl]
    · intro i h1 h2
      have hi : i < l.length := by simpa using h2
      have := (hr i hi).1
      rw [show Rep.str.n = 1 from rfl, Nat.mul_one, List.drop_eq_getElem_cons h1, List.take_succ_cons, List.take_zero, List.cons.injEq] at this
      simpa using this.1
  rw [this] at hx
  exact hx
theorem strs_own {w : World} {base : Nat} {v : Value} {l : List ByteArray} (h : w.ownsRow base 9 1 v l.length (l.map Value.string)) (hs : ∀ x ∈ l, x.size ≤ maxLen) : Own Rep.str 9 w base nob v l := by
  refine ⟨_, h, fun _ h => h.elim, fun u hu => ?_, fun i hi => ⟨?_, hs _ (List.getElem_mem hi)⟩⟩
  · obtain ⟨x, -, rfl⟩ := List.mem_map.1 hu
    rfl
  · rw [show Rep.str.n = 1 from rfl, Nat.mul_one, List.drop_eq_getElem_cons (by simpa using hi), List.take_succ_cons, List.take_zero]
    simp
theorem str_one (w : World) (x : ByteArray) (e : TypeId) (hx : x.size ≤ maxLen) : SliceAt Rep.str (w.alloc (.cells #[.string x] e)) (fun b => b = w.heap.size ∨ nob b) (some ⟨w.heap.size, 0, none⟩) 1 [x] :=
  SliceAt.new1 Rep.str w e #[.string x] x nob ⟨rfl, hx⟩ fun _ h => h.elim
set_option maxRecDepth 100000 in
set_option maxHeartbeats 2000000 in
theorem names_any (d b n : Nat) (l : Disk.Fo) (loc : Nat → Nat) (w : World) (h : Hid (Fol w b n l loc)) (hr : Hid (Disk.Rising l)) (hd : w.cell? ⟨d, 0, none⟩ = some (.map (some b))) (hd' : d < w.heap.size) (hln : l.length ≤ 1099511627776) :
    Calls Tryz.prog 89 #[.pointer (some ⟨d, 0, none⟩)] w (StrsPost w (Disk.keys l)) := by
  obtain ⟨m, hm⟩ : ∃ m, m = l.length := ⟨_, rfl⟩
  have hlen := fun ty => h.out.lenRun Tryz.underlying34 ty
  rw [← hm] at hlen hln
  have hmk := run_make_strs w m hln
  have HM := Lib.hid hm
  have hbl := h.out.lt
  clear hm
  go_enter Tryz.func89, Tryz.ntmps89
  obtain ⟨w1, hw1⟩ : ∃ W, W = w.alloc (.cells (madeCells #[.string ⟨#[]⟩] m) 9) := ⟨_, rfl⟩
  have hb1 : Hid (Below w.heap.size w w1) := Lib.hid (by rw [hw1]; exact Below.alloc (Below.refl _ _) (Nat.le_refl _) _)
  have hz1 : Hid (w1.heap.size = w.heap.size + 1) := Lib.hid (by rw [hw1]; simp)
  have hF1 : Hid (Fol w1 b n l loc) := Lib.hid (h.out.same (hb1.out.block b hbl))
  have hO1 : Hid (Own Rep.str 9 w1 w.heap.size nob (.slice (some ⟨w.heap.size, 0, none⟩) 0 m) ([] : List ByteArray)) := Lib.hid (by
    rw [hw1]
    exact ⟨[], ⟨by simp, .inr ⟨w.heap.size, m, _, by simp, Nat.le_refl _, heap_alloc_new w _, by simp, by simp only [maxLen]; omega, by simp [size_madeCells, Rep.str], by simp⟩⟩, fun _ h => h.elim, by simp, fun i hi => absurd hi (by simp)⟩)
  have c1 : w1.cell? ⟨d, 0, none⟩ = some (.map (some b)) := (hb1.out.cell (p := ⟨d, 0, none⟩) hd').trans hd
  rw [← hw1] at hmk
  clear hw1
  go_wp2_with (at_range; refine Disk.wpList_range_folder rfl (.tmp 14) 34 rfl 9 80 Tryz.underlying9 Tryz.underlying34 b n l loc rfl hF1.out ?_; intro w2 hg2 hgr2 hs2; have HG2 := Lib.hid hg2; have HR2 := Lib.hid hgr2; have HS2 := Lib.hid hs2; clear hg2 hgr2 hs2)
  have hO2 : Hid (Own Rep.str 9 w2 w.heap.size nob (.slice (some ⟨w.heap.size, 0, none⟩) 0 m) ([] : List ByteArray)) := Lib.hid (hO1.out.mono HR2.out (.inr (by simp [Value.ownBlock])) fun _ h => h.elim)
  have hB2 : Hid (Below w.heap.size w w2) := Lib.hid (hb1.out.trans ⟨HR2.out.os, HR2.out.tape, HR2.out.output, HR2.out.size, fun x hx => HR2.out.block x (by rw [hz1.out]; omega) (by simp)⟩)
  go_frame
  rw [hz1.out] at HG2
  rw [hz1.out]
  go_loopg [3, 4] l.length (fun j v _ wr => ∃ (q : Nat) (seen : List Disk.Nm) (g k c : Nat), j = q ∧ v = .slice (some ⟨g, 0, none⟩) k c ∧ k ≤ c ∧ c ≤ 9223372036854775807 ∧ Hid (k = seen.length) ∧ Hid (∀ x ∈ seen, x.length ≤ maxLen) ∧ Hid (Goi wr b (w.heap.size + 1) n l loc seen q) ∧ Hid (Own Rep.str 9 wr w.heap.size nob (.slice (some ⟨g, 0, none⟩) k c) (seen.map ba)) ∧ Hid (Below w.heap.size w wr))
  case atStart => exact ⟨_, [], w.heap.size, 0, m, rfl, rfl, Nat.zero_le _, by omega, Lib.hid rfl, Lib.hid (by simp), HG2, hO2, hB2⟩
  case round =>
    obtain ⟨q, seen, g, k, c, hj, rfl, hkc, hcm, HK, HSM, HG, HO, HB⟩ := hrel
    clear hlen hmk c1 hd
    have hcnt := HG.out.count
    have hkm : k ≤ 1099511627776 := by rw [HK.out]; rw [← HM.out] at hcnt; omega
    go_wp2_with (first
      | (at_next; refine Disk.wpList_next_folder rfl (.tmp 15) rfl 9 Tryz.underlying9 b (w.heap.size + 1) n l loc seen q rfl HG.out (fun h0 ha => ?_) (fun s i w3 cnt2 hss hfi hns hg3 hlt hgr hsz3 hen => ?_); all_goals try (have HO3 : Hid (Own Rep.str 9 w3 w.heap.size nob (.slice (some ⟨g, 0, none⟩) k c) (seen.map ba)) := Lib.hid (HO.out.mono hgr (.inr (fun e => by obtain ⟨cur, hcur⟩ := HO.out.content rfl; simp only [Value.ownBlock, Option.some.injEq] at e; subst e; exact going_iter HG.out _ _ _ hcur)) fun _ h => h.elim); have HB3 : Hid (Below w.heap.size w w3) := Lib.hid (HB.out.grown hgr HB.out.size (fun x hx => by simp at hx; omega)); have HG3 := Lib.hid hg3; have HFI := Lib.hid hfi; have HNS := Lib.hid hns; have HS3 := Lib.hid hsz3; clear hg3 hgr hsz3 hfi hns))
      | (at_builtin; go_loud (refine wpList_append_Own _ rfl (.tmp 20) (.tmp 22) 41 rfl Rep.str w.heap.size 9 16 stStr nob (.slice (some ⟨g, 0, none⟩) k c) (seen.map ba) rfl (HO3.out.alloc _) _ _ 1 [s] rfl (str_one _ s _ hss) nob (fun _ h => h.elim) (fun _ h => h) (fun _ _ h => h) (by simp; have := HK.out; omega) (by simp; have := HK.out; omega) (by have := HB3.out.size; simp; omega) ?_; intro v4 w4 hown4 hg4 hat4; have HOWN4 := Lib.hid hown4; have HG4 := Lib.hid hg4; have HAT4 := Lib.hid hat4; clear hown4 hg4 hat4)))
    · obtain ⟨ks, hks⟩ : ∃ ks, ks = Disk.keys l := ⟨_, rfl⟩
      have hperm := Disk.perm_keys hr.out HG.out.nodup HG.out.mem ha
      have hsort : seen.mergeSort (fun x y => decide (x ≤ y)) = ks := by rw [hks]; exact Disk.sorted_keys hr.out seen HG.out.nodup fun x => ⟨fun hx => Disk.mem_keys.1 (HG.out.mem x hx), fun hx => ha x (Disk.mem_keys.2 hx)⟩
      have hkl : ks.length = seen.length := by rw [hks]; exact hperm.length_eq.symm
      have hksm : ∀ x ∈ ks, x.length ≤ maxLen := fun x hx => HSM.out x (ha x (by rw [← hks]; exact hx))
      have hown := own_strs HO.out
      rw [List.length_map, ← HK.out] at hown
      rcases hown.2 with ⟨hnil, -⟩ | ⟨g', cap, cur, he, hbase, hb, e1, e2, e3, e4⟩
      · cases hnil
      simp only [Value.slice.injEq, Option.some.injEq, Addr.mk.injEq] at he
      obtain ⟨⟨rfl, -⟩, -, rfl⟩ := he
      have hseen : (seen.map ba).map Value.string = seen.map Go.Proofs.encStr := by rw [List.map_map]; rfl
      have hH : Go.Sort.Holds Go.Proofs.encStr wr g 0 seen.toArray := Go.holds_of_block hb (by rw [Nat.mul_one] at e4; rw [← HK.out, e4, hseen])
      have hglt : g < wr.heap.size := (Array.getElem?_eq_some_iff.1 hb).1
      have hcall := Tryz.slices_Sort_string g 0 c seen wr hH hglt (by rw [← HK.out]; omega)
      rw [← HK.out, hsort] at hcall
      have HS := Lib.hid (fun (nn : Nat) (os : Array Obj) => Go.ownsRow_sorted (n := nn) (os := os) hkl hbase hb (by rw [← HK.out]; exact e1) e2 e3)
      have HKS := Lib.hid hks
      have HKL := Lib.hid hkl
      have HKSM := Lib.hid hksm
      have HBA := Lib.hid hbase
      have HGL := Lib.hid hglt
      clear hb hH hsort hperm ha hseen e1 e2 e3 e4 hown hks hkl hksm hbase hglt
      refine hcall.mono ?_
      rintro e w5 ⟨rfl, nn, os, hw5⟩
      have HW5 := Lib.hid hw5
      clear hw5
      go_wp2_with fail
      go_ret
      refine ⟨some ⟨g, 0, none⟩, k, c, rfl, Lib.hid (by rw [← HKS.out, HKL.out]; exact HK.out), hkc, hcm, ?_, ?_⟩
      · rw [HW5.out, ← HKS.out]
        refine strs_own ?_ fun x hx => ?_
        · have := HS.out nn os
          rw [List.length_map, List.map_map, HKL.out, HK.out]
          exact this
        · obtain ⟨y, hy, rfl⟩ := List.mem_map.1 hx
          rw [ba_size]
          exact HKSM.out y hy
      · rw [HW5.out]
        exact HB.out.grown (Go.grownBy_sorted _) HB.out.size fun x hx => by cases hx; exact HBA.out
    · obtain ⟨A5, n5, c5, e5, hn5, hnc5, hcm5⟩ := HOWN4.out.form
      obtain ⟨g5, hg5⟩ : ∃ g5, v4.ownBlock = some g5 := by
        rcases HAT4.out with e | e
        · exact ⟨_, e⟩
        · exact ⟨_, e⟩
      have hA5 : A5 = some ⟨g5, 0, none⟩ := by
        obtain ⟨xs, hx, -⟩ := HOWN4.out
        rcases hx.2 with ⟨h0, -⟩ | ⟨g', cap, cur, he, -⟩
        · rw [h0] at hg5; cases hg5
        · rw [e5] at he
          rw [e5] at hg5
          simp only [Value.slice.injEq] at he
          rw [he.1] at hg5 ⊢
          simp only [Value.ownBlock, Option.some.injEq] at hg5
          rw [hg5]
      subst hA5
      subst e5
      have hb5 : Hid (n5 = seen.length + 1) := Lib.hid (by rw [hn5.out]; simp)
      go_roundg cnt2
      case measure => omega
      case rel =>
        refine ⟨cnt2, seen ++ [s.data.toList], g5, n5, c5, rfl, rfl, hnc5, hcm5, Lib.hid (by rw [hb5.out]; simp), Lib.hid fun x hx => ?_, Lib.hid (HG3.out.same ?_ ?_), Lib.hid ?_, Lib.hid ?_⟩
        · rcases List.mem_append.1 hx with hx | hx
          · exact HSM.out x hx
          · rw [List.mem_singleton.1 hx, Array.length_toList]; exact hss
        · have hlt := HG3.out.folder.lt
          rw [HG4.out.block b (by simp; omega) fun e => ?_]
          · exact Below.heap_alloc w3 _ b hlt
          · have hw := (HO3.out.block_lt (b := b) e.symm).1
            omega
        · have hlt := HG3.out.lt
          rw [HG4.out.block _ (by simp; omega) fun e => ?_]
          · exact Below.heap_alloc w3 _ _ hlt
          · obtain ⟨cur, hcur⟩ := HO3.out.content e.symm
            exact going_iter HG3.out _ _ _ hcur
        · have := HOWN4.out
          rw [List.map_append]
          exact this
        · exact (HB3.out.alloc HB3.out.size _).grown HG4.out (by have := HB3.out.size; simp; omega) fun x hx => (HO3.out.block_lt hx).1
set_option maxRecDepth 100000 in
theorem diskNames_any {F : Blocks} {d : Nat} {s : Disk.St} {w : World} (HA : Hid (DiskAt w F d s)) (hf : Hid (Disk.Fine s)) : Calls Tryz.prog 33 #[.pointer (some ⟨d, 0, none⟩)] w (StrsPost w s.names) := by
  obtain ⟨on, hon⟩ : ∃ b, s.on = b := ⟨_, rfl⟩
  have HP : Hid (∀ W, W = w → Calls Tryz.prog 27 #[.pointer (some ⟨d, 0, none⟩)] W fun e w' => e = .returned (.bool on) ∧ w = w') := Lib.hid fun W hW => by subst hW; rw [← hon]; exact power_any HA
  have HON := Lib.hid hon
  clear hon
  go_enter Tryz.func33, Tryz.ntmps33
  cases on
  · go_wp2_with (go_at_call 27; refine (HP.out _ rfl).mono ?_; rintro e w1 ⟨rfl, rfl⟩)
    go_ret
    have : s.names = [] := by simp [Disk.St.names, HON.out]
    rw [this]
    exact ⟨none, 0, 0, rfl, Lib.hid rfl, Nat.le_refl _, by omega, Own.nil _ _ _ _, Below.refl _ _⟩
  · obtain ⟨loc, blk, bn, bo, rowv, pA, pC, hB⟩ := HA.out
    have HN := Lib.hid (names_any d bn _ s.now loc w (Lib.hid hB.now) (Lib.hid hf.out.good.nowR) (hB.cell 0 _ rfl) (hB.lt d hB.Fd) (by have := hf.out.nowL; omega))
    clear hB
    go_wp2_with (go_at_call 27; refine (HP.out _ rfl).mono ?_; rintro e w1 ⟨rfl, rfl⟩)
    refine HN.out.mono ?_
    rintro e w2 ⟨A, n, c, rfl, h1, h2, h3, h4, h5⟩
    have H4 := Lib.hid h4
    have H5 := Lib.hid h5
    clear h4 h5
    go_wp2_with fail
    go_ret
    have : s.names = Disk.keys s.now := by simp [Disk.St.names, HON.out]
    rw [this]
    exact ⟨A, n, c, rfl, h1, h2, h3, H4.out, H5.out⟩
end Go.Proofs.YtncpeogkccjmcaaGreatDoor
