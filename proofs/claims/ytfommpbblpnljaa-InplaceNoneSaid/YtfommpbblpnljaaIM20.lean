/- Texts that lead to the claim, one behind the other: The next try: the walk of (disk.Disk).tried. Condition: the count of tries is below 2^62. -/
import Derived.Test.YtfommpbblpnljaaIM19
namespace Go.Proofs.Ytfommpbblpnljaa
open Go.RowKit Go.ChangeShapes Go.WideShapes Go.Deep

section
variable {w w' : World} {F G : Blocks} {d : Nat} {s : Disk.St} {loc : Nat → Nat} {blk : Nat → Option Nat} {bn bo : Nat} {rowv : Value} {pA : Option Addr} {pC : Nat}
theorem tried_none (h : ∀ x ∈ s.plan, x.1 ≠ s.tries + 1) : s.tried = ({ s with tries := s.tries + 1 }, 0) := by
  have : s.plan.find? (fun f => f.1 == s.tries + 1) = none := by
    rw [List.find?_eq_none]
    intro x hx
    simpa using h x hx
  simp [Disk.St.tried, this]
theorem tried_some {j : Nat} (hj : j < s.plan.length) (h : ∀ x ∈ s.plan.take j, x.1 ≠ s.tries + 1) (he : (s.plan[j]).1 = s.tries + 1) : s.tried = ({ s with tries := s.tries + 1, on := s.on && (s.plan[j]).2 != 24 }, (s.plan[j]).2) := by
  have : s.plan.find? (fun f => f.1 == s.tries + 1) = some s.plan[j] := by
    rw [List.find?_eq_some_iff_append]
    refine ⟨by simpa using he, s.plan.take j, s.plan.drop (j + 1), ?_, fun x hx => by simpa using h x hx⟩
    rw [← List.drop_eq_getElem_cons hj, List.take_append_drop]
  simp [Disk.St.tried, this]
set_option maxRecDepth 100000 in
set_option maxHeartbeats 1000000 in
theorem tried_b (H : Hid (DiskB w F d s loc blk bn bo rowv pA pC)) (ht : -4611686018427387904 ≤ s.tries ∧ s.tries ≤ 4611686018427387904) :
    Calls Try.prog 63 #[.pointer (some ⟨d, 0, none⟩)] w fun e w' => e = .returned (.int .i64 s.tried.2) ∧ DiskB w' F d s.tried.1 loc blk bn bo rowv pA pC ∧ Only (fun x => x = d) w w' := by
  have c6 := H.out.cell 6 _ rfl
  have c7 := H.out.cell 7 _ rfl
  have f7 := H.out.frozen 7
  have hdl := H.out.lt d H.out.Fd
  obtain ⟨n, hn⟩ : ∃ n, n = s.plan.length := ⟨_, rfl⟩
  rw [← hn] at c6
  have HN := Lib.hid hn
  have hsl := Lib.hid H.out.plan.slice
  have hnc : n ≤ pC := by rw [hn]; exact hsl.out.len
  have hcm := hsl.out.max
  obtain ⟨t, hT⟩ : ∃ t, t = s.tries := ⟨_, rfl⟩
  rw [← hT] at c7 ht
  have HT := Lib.hid hT
  clear hn hT
  obtain ⟨ht1, ht2⟩ := ht
  go_enter Try.func63, Try.ntmps63
  go_wp2_with fail
  have hd1 : Hid ((w.setCell ⟨d, 7, none⟩ (.int .i64 (t + 1))).heap[d]? = some (.cells #[.map (some bn), .map (some bo), rowv, .bool true, .bool s.on, .int .i64 s.room, .slice pA s.plan.length pC, .int .i64 (t + 1), .int .i64 s.done] 29 (0, 0))) := Lib.hid (by simp [World.setCell, Array.getElem?_modify, H.out.hd])
  have hO1 : Hid (Only (fun x => x = d) w (w.setCell ⟨d, 7, none⟩ (.int .i64 (t + 1)))) := Lib.hid (Only.setCell (Only.refl (fun x => x = d) w) (.inl rfl) _)
  go_loopg [4, 17] n (fun k _ i wr => ∃ j : Nat, k = n - j ∧ j ≤ n ∧ i = .int .i64 j ∧ Hid (∀ x ∈ s.plan.take j, x.1 ≠ s.tries + 1) ∧ Hid (wr.heap[d]? = some (.cells #[.map (some bn), .map (some bo), rowv, .bool true, .bool s.on, .int .i64 s.room, .slice pA s.plan.length pC, .int .i64 (t + 1), .int .i64 s.done] 29 (0, 0))) ∧ Hid (Only (fun x => x = d) w wr))
  case atStart => exact ⟨0, rfl, by omega, rfl, Lib.hid (by simp), hd1, hO1⟩
  case round =>
    obtain ⟨j, rfl, hj, rfl, HF, HD, HO⟩ := hrel
    clear c6 c7 f7 hd1 hO1
    by_cases hjn : j < n
    · have hpl := (H.out.plan.other HO.out (.one H.out.hd (by decide))).slice
      obtain ⟨g, o, cs, rfl, hg, hc, rfl, hw1, hw2⟩ := hpl.at_ (i := j) (by rw [← HN.out]; exact hjn)
      obtain ⟨N, hNe⟩ : ∃ N, N = (s.plan[j]'(by rw [← HN.out]; exact hjn)).1 := ⟨_, rfl⟩
      obtain ⟨E, hEe⟩ : ∃ E, E = (s.plan[j]'(by rw [← HN.out]; exact hjn)).2 := ⟨_, rfl⟩
      rw [← hNe] at hw1
      rw [← hEe] at hw2
      rw [← hNe, ← hEe] at hc
      obtain ⟨k1, k2⟩ := hc.two
      rw [show Rep.fault.n = 2 from rfl] at k1 k2
      have HNE := Lib.hid hNe
      have HEE := Lib.hid hEe
      have c7 : wr.cell? ⟨d, 7, none⟩ = some (.int .i64 (t + 1)) := (cell_of_row wr d 7 _ _ (0, 0) HD.out).trans rfl
      have f4 : wr.frozen? ⟨d, 4, none⟩ = false := by simp [World.frozen?, HD.out]
      have c4 : wr.cell? ⟨d, 4, none⟩ = some (.bool s.on) := (cell_of_row wr d 4 _ _ (0, 0) HD.out).trans rfl
      have hdr : d < wr.heap.size := (Array.getElem?_eq_some_iff.1 HD.out).1
      clear hNe hEe hc hpl
      by_cases he : N = t + 1
      · have he1 : (N == t + 1) = true := by rw [he]; simp
        subst he
        obtain ⟨q, hq⟩ : ∃ q, (E == 24) = q := ⟨_, rfl⟩
        have hts := tried_some (s := s) (j := j) (by rw [← HN.out]; exact hjn) HF.out (by rw [← HNE.out, HT.out])
        rw [← HEE.out] at hts
        have HTS := Lib.hid hts
        clear hts he1
        go_wp2_with fail
        go_quiet (fail)
        generalize hW : World.drewN _ _ = W
        have hbx := Lib.hid (show W.heap[wr.heap.size]? = some (.cells #[.int .i64 (t + 1), .int .i64 E] 45 (0, 0)) from (by rw [← hW]; exact heap_alloc_new wr _))
        have hWd : W.heap[d]? = wr.heap[d]? := by rw [← hW]; exact Below.heap_alloc wr _ d hdr
        have HDW := Lib.hid (hWd.trans HD.out)
        have HOW := Lib.hid (show Only (fun x => x = d) w W from (by rw [← hW]; exact (HO.out.alloc _).drewN _))
        have k3 : W.cell? ⟨wr.heap.size, 1, none⟩ = some (.int .i64 E) := (cell_of_row W _ 1 _ _ (0, 0) hbx.out).trans rfl
        have k4 : W.cell? ⟨d, 4, none⟩ = some (.bool s.on) := (cell_of_row W d 4 _ _ (0, 0) HDW.out).trans rfl
        have f4W : W.frozen? ⟨d, 4, none⟩ = false := by simp [World.frozen?, HDW.out]
        have hdn : d ≠ wr.heap.size := by omega
        clear hW hWd f4 c4 c7 k1 k2
        cases q
        · go_wp2_with fail
          go_ret
          refine ⟨congrArg Ending.returned (by rw [HTS.out]; rfl), ?_, HOW.out⟩
          rw [HTS.out]
          have hE : (E != 24) = true := by rw [bne, hq]; rfl
          exact H.out.header (t := { s with tries := s.tries + 1, on := s.on && E != 24 }) HOW.out (HDW.out.trans (by rw [HT.out, hE, Bool.and_true])) rfl rfl rfl rfl rfl
        · go_wp2_with fail
          go_ret
          have hO2 : Only (fun x => x = d) w (W.setCell ⟨d, 4, none⟩ (.bool false)) := HOW.out.setCell (.inl rfl) _
          refine ⟨congrArg Ending.returned (by rw [HTS.out]; rfl), ?_, hO2⟩
          rw [HTS.out]
          have hE : (E != 24) = false := by rw [bne, hq]; rfl
          refine H.out.header (t := { s with tries := s.tries + 1, on := s.on && E != 24 }) hO2 ?_ rfl rfl rfl rfl rfl
          rw [hE, Bool.and_false]
          simp [World.setCell, Array.getElem?_modify, HDW.out, HT.out]
      · have he1 : (N == t + 1) = false := beq_eq_false_iff_ne.2 he
        have HE := Lib.hid he
        clear he
        go_wp2_with fail
        go_quiet (fail)
        generalize hW : World.drewN _ _ = W
        have hbx := Lib.hid (show W.heap[wr.heap.size]? = some (.cells #[.int .i64 N, .int .i64 E] 45 (0, 0)) from (by rw [← hW]; exact heap_alloc_new wr _))
        have hWd : W.heap[d]? = wr.heap[d]? := by rw [← hW]; exact Below.heap_alloc wr _ d hdr
        have HDW := Lib.hid (hWd.trans HD.out)
        have HOW := Lib.hid (show Only (fun x => x = d) w W from (by rw [← hW]; exact (HO.out.alloc _).drewN _))
        have k3 : W.cell? ⟨wr.heap.size, 1, none⟩ = some (.int .i64 E) := (cell_of_row W _ 1 _ _ (0, 0) hbx.out).trans rfl
        have k4 : W.cell? ⟨d, 4, none⟩ = some (.bool s.on) := (cell_of_row W d 4 _ _ (0, 0) HDW.out).trans rfl
        have f4W : W.frozen? ⟨d, 4, none⟩ = false := by simp [World.frozen?, HDW.out]
        have hdn : d ≠ wr.heap.size := by omega
        clear hW hWd f4 c4 c7 k1 k2
        go_wp2_with fail
        go_roundg (n - (j + 1))
        case measure => omega
        case rel =>
          refine ⟨j + 1, rfl, by omega, by go_num, Lib.hid ?_, HDW, HOW⟩
          intro x hx
          rw [List.take_succ_eq_append_getElem (by rw [← HN.out]; exact hjn), List.mem_append, List.mem_singleton] at hx
          rcases hx with hx | rfl
          · exact HF.out x hx
          · rw [← HNE.out, ← HT.out]; exact HE.out
    · obtain rfl : j = n := by omega
      go_wp2_with fail
      go_ret
      have hnone := tried_none (s := s) (by have := HF.out; rw [HN.out, List.take_length] at this; exact this)
      refine ⟨congrArg Ending.returned (by rw [hnone]; rfl), ?_, HO.out⟩
      rw [hnone]
      exact H.out.header (t := { s with tries := s.tries + 1 }) HO.out (HD.out.trans (by rw [HT.out])) rfl rfl rfl rfl rfl
end
end Go.Proofs.Ytfommpbblpnljaa
