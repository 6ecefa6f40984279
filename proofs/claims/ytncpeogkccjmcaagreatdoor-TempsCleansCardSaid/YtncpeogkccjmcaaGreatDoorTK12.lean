/- Texts that lead to the claim, one behind the other: Is there power, are these names, is there the file: the walks of (disk.Disk).ours and looked. Condition: none. | The next try: the walk of (disk.Disk).tried. Condition: the count of tries is below 2^62. | The looks ahead of every call. Condition: the counts are below 2^40. | A disk of files: how far its counts go; a small disk, call by call. No program in sight. No conditions. | A disk of the call's own. No conditions. -/
import Derived.Test.YtncpeogkccjmcaaGreatDoorTK9
import Derived.Test.YtncpeogkccjmcaaGreatDoorTK11
import Derived.Test.YtncpeogkccjmcaaGreatDoorTK1
namespace Go.Proofs.YtncpeogkccjmcaaGreatDoor
open Go.RowKit Go.ChangeShapes Go.WideShapes Go.Deep

section
variable {w w' : World} {F G : Blocks} {d : Nat} {s : Disk.St} {loc : Nat → Nat} {blk : Nat → Option Nat} {bn bo : Nat} {rowv : Value} {pA : Option Addr} {pC : Nat}
theorem ours_d (hc : w.cell? ⟨d, 3, none⟩ = some (.bool true)) : Calls Tryz.prog 84 #[.pointer (some ⟨d, 0, none⟩)] w fun e w' => e = .returned (.bool true) ∧ w = w' := by
  go_enter Tryz.func84, Tryz.ntmps84
  go_wp2
  go_ret
  exact ⟨rfl, rfl⟩
/-- What a look answers. -/
def lookV (s : Disk.St) (loc : Nat → Nat) (has : List UInt8) (names : List (List UInt8)) : Value := .tuple #[if s.looked has names = 0 then Disk.ptrOf s.now loc has else .pointer none, .int .i64 (s.looked has names)]
theorem lookV_off {has : List UInt8} {names : List (List UInt8)} (h : s.on = false) : lookV s loc has names = .tuple #[.pointer none, .int .i64 24] := by
  simp [lookV, Disk.St.looked, h]
theorem lookV_bad {has : List UInt8} {names : List (List UInt8)} (h : s.on = true) {n : List UInt8} (hn : n ∈ names) (hb : Disk.isName n = false) : lookV s loc has names = .tuple #[.pointer none, .int .i64 20] := by
  have : (names.any fun n => !Disk.isName n) = true := List.any_eq_true.2 ⟨n, hn, by simp [hb]⟩
  simp [lookV, Disk.St.looked, h, this]
theorem looked_good {has : List UInt8} {names : List (List UInt8)} (h : s.on = true) (hn : ∀ n ∈ names, Disk.isName n = true) : s.looked has names = if has ≠ [] ∧ Disk.find s.now has = none then 21 else 0 := by
  have : (names.any fun n => !Disk.isName n) = false := by
    rw [← Bool.not_eq_true]
    intro hm
    obtain ⟨n, h1, h2⟩ := List.any_eq_true.1 hm
    rw [hn n h1] at h2
    cases h2
  simp [Disk.St.looked, h, this]
theorem lookV_gone {has : List UInt8} {names : List (List UInt8)} (h : s.on = true) (hn : ∀ n ∈ names, Disk.isName n = true) (h0 : has ≠ []) (hf : Disk.find s.now has = none) : lookV s loc has names = .tuple #[.pointer none, .int .i64 21] := by
  simp [lookV, looked_good h hn, h0, hf]
theorem lookV_ok {has : List UInt8} {names : List (List UInt8)} (h : s.on = true) (hn : ∀ n ∈ names, Disk.isName n = true) (h0 : has = [] ∨ Disk.find s.now has ≠ none) : lookV s loc has names = .tuple #[Disk.ptrOf s.now loc has, .int .i64 0] := by
  have : ¬ (has ≠ [] ∧ Disk.find s.now has = none) := fun ⟨a, b⟩ => h0.elim a fun h => h b
  simp [lookV, looked_good h hn, this]
/-- Names in memory. -/
def asNm (l : List ByteArray) : List (List UInt8) := l.map fun s => s.data.toList
set_option maxRecDepth 100000 in
set_option maxHeartbeats 1000000 in
theorem looked_any (has : ByteArray) (A : Option Addr) (n c : Nat) (l : List ByteArray) (S : Blocks) (H : Hid (DiskB w F d s loc blk bn bo rowv pA pC)) (hhas : has.size ≤ maxLen) (hn : Hid (n = l.length)) (hl : Hid (SliceAt Rep.str w S A c l)) (hS : Hid (∀ b, S b → b < w.heap.size)) (hnb : n ≤ 1099511627776) :
    Calls Tryz.prog 85 #[.pointer (some ⟨d, 0, none⟩), .string has, .slice A n c] w fun e w' => e = .returned (lookV s loc has.data.toList (asNm l)) ∧ Below w.heap.size w w' := by
  have c3 := H.out.cell 3 _ rfl
  have c4 := H.out.cell 4 _ rfl
  have hdl := H.out.lt d H.out.Fd
  obtain ⟨on, hon⟩ : ∃ b, s.on = b := ⟨_, rfl⟩
  rw [hon] at c4
  have HON := Lib.hid hon
  have hnc : n ≤ c := by rw [hn.out]; exact hl.out.len
  have hcm := hl.out.max
  clear hon
  cases on
  · go_enter Tryz.func85, Tryz.ntmps85
    go_wp2_with (go_at_call 84; refine (ours_d c3).mono ?_; rintro e w1 ⟨rfl, rfl⟩)
    go_ret2
    exact ⟨congrArg Ending.returned (lookV_off HON.out).symm, Below.refl _ _⟩
  · go_enter Tryz.func85, Tryz.ntmps85
    go_wp2_with (go_at_call 84; refine (ours_d c3).mono ?_; rintro e w1 ⟨rfl, rfl⟩)
    go_loopg [21, 9] n (fun k i _ wr => ∃ j : Nat, k = n - j ∧ j ≤ n ∧ i = .int .i64 j ∧ Hid (∀ x ∈ l.take j, Disk.isName x.data.toList = true) ∧ Hid (Below w.heap.size w wr))
    case atStart => exact ⟨0, rfl, by omega, rfl, Lib.hid (by simp), Lib.hid (Below.refl _ _)⟩
    case round =>
      obtain ⟨j, rfl, hj, rfl, HN, HB⟩ := hrel
      by_cases hjn : j < n
      · obtain ⟨g, o, cs, rfl, hg, hc, rfl, hsz⟩ := hl.out.at_ (i := j) (by have := hn.out; omega)
        obtain ⟨x, hx⟩ : ∃ x, x = l[j]'(by have := hn.out; omega) := ⟨_, rfl⟩
        rw [← hx] at hc hsz
        have HX := Lib.hid hx
        have hc1 := hc.one
        rw [show Rep.str.n = 1 from rfl, Nat.mul_one] at hc1
        have hcw : wr.cell? ⟨g, o + j, none⟩ = some (.string x) := (HB.out.cell (p := ⟨g, o + j, none⟩) (hS.out g hg)).trans hc1
        clear hc hc1 hx
        obtain ⟨q, hq⟩ : ∃ q, Disk.isName x.data.toList = q := ⟨_, rfl⟩
        have HQ := Lib.hid hq
        clear hq
        cases q
        · go_wp2_with (go_at_call 19; refine (isName_any x _ hsz).mono ?_; rintro e w2 ⟨rfl, hb2⟩; have HBB := Lib.hid hb2; clear hb2; rw [HQ.out])
          go_ret2
          exact ⟨congrArg Ending.returned (lookV_bad (names := asNm l) HON.out (n := x.data.toList) (List.mem_map.2 ⟨x, by rw [HX.out]; exact List.getElem_mem _, rfl⟩) HQ.out).symm, HB.out.trans (HBB.out.mono HB.out.size)⟩
        · go_wp2_with (go_at_call 19; refine (isName_any x _ hsz).mono ?_; rintro e w2 ⟨rfl, hb2⟩; have HBB := Lib.hid hb2; clear hb2; rw [HQ.out])
          go_roundg (n - (j + 1))
          case measure => omega
          case rel =>
            refine ⟨j + 1, rfl, by omega, by go_num, Lib.hid ?_, Lib.hid (HB.out.trans (HBB.out.mono HB.out.size))⟩
            intro y hy
            rw [List.take_succ_eq_append_getElem (by have := hn.out; omega), List.mem_append, List.mem_singleton] at hy
            rcases hy with hy | rfl
            · exact HN.out y hy
            · rw [← HX.out]; exact HQ.out
      · obtain rfl : j = n := by omega
        have hall : Hid (∀ m ∈ asNm l, Disk.isName m = true) := Lib.hid (by
          intro m hm
          obtain ⟨x, hx, rfl⟩ := List.mem_map.1 hm
          exact HN.out x (by rw [hn.out, List.take_length]; exact hx))
        have hlook := H.out.now.same (w' := wr) (HB.out.block bn (H.out.lt bn H.out.Fn))
        have hlk := (hlook.look (t := 34) (e := 80) Tryz.underlying9 Tryz.underlying34 (Tryz.zeroValue80 _) has hhas)
        have c0 : wr.cell? ⟨d, 0, none⟩ = some (.map (some bn)) := (HB.out.cell (p := ⟨d, 0, none⟩) hdl).trans (H.out.cell 0 _ rfl)
        have HL := Lib.hid hlook
        clear hlook c3 c4
        obtain ⟨p, hp⟩ : ∃ p, Disk.ptrOf s.now loc has.data.toList = p := ⟨_, rfl⟩
        rw [hp] at hlk
        by_cases h0 : has.data.toList = []
        · have he : has.toList.isEmpty = true := by rw [ByteArray.toList_eq, h0]; rfl
          have he2 : has.toList = [] := by rw [ByteArray.toList_eq, h0]
          have HP := Lib.hid hp
          have H0 := Lib.hid h0
          clear hp h0
          go_wp2_with fail
          go_ret2
          exact ⟨congrArg Ending.returned (by rw [lookV_ok HON.out hall.out (.inl H0.out), HP.out]; rfl), HB.out⟩
        · have he : has.toList.isEmpty = false := by
            rw [ByteArray.toList_eq]; cases e : has.data.toList with
            | nil => exact absurd e h0
            | cons => rfl
          have he2 : has.toList ≠ [] := by rw [ByteArray.toList_eq]; exact h0
          cases hf : Disk.find s.now has.data.toList with
          | none =>
            obtain rfl : p = .pointer none := by rw [← hp]; simp [Disk.ptrOf, hf]
            have HF := Lib.hid hf
            have H0 := Lib.hid h0
            clear hp h0 hf
            go_wp2_with fail
            go_ret2
            exact ⟨congrArg Ending.returned (lookV_gone HON.out hall.out H0.out HF.out).symm, HB.out⟩
          | some i =>
            obtain rfl : p = .pointer (some ⟨loc i, 0, none⟩) := by rw [← hp]; simp [Disk.ptrOf, hf]
            have HF := Lib.hid hf
            have H0 := Lib.hid h0
            have HP := Lib.hid hp
            clear hp h0 hf
            go_wp2_with fail
            go_ret2
            exact ⟨congrArg Ending.returned (by rw [lookV_ok HON.out hall.out (.inr (by rw [HF.out]; simp)), HP.out]; rfl), HB.out⟩
end
end Go.Proofs.YtncpeogkccjmcaaGreatDoor
namespace Go.Proofs.YtncpeogkccjmcaaGreatDoor
open Go.RowKit Go.ChangeShapes Go.WideShapes Go.Deep

section
variable {w w' : World} {F G : Blocks} {d : Nat} {s : Disk.St} {loc : Nat → Nat} {blk : Nat → Option Nat} {bn bo : Nat} {rowv : Value} {pA : Option Addr} {pC : Nat}
theorem tried_none (h : ∀ x ∈ s.plan, x.1 ≠ s.tries + 1) : s.tried = ({ s with tries := s.tries + 1 }, 0) := by
  have : s.plan.find? (fun f => f.1 == s.tries + 1) = none := by
    rw [List.find?_eq_none]
    intro x hx
    simpa using h x hx
  simp [Disk.St.tried, this]
theorem tried_some {j : Nat} (hj : j < s.plan.length) (h : ∀ x ∈ s.plan.take j, x.1 ≠ s.tries + 1) (he : (s.plan[j]).1 = s.tries + 1) : s.tried = ({ s with tries := s.tries + 1, on := s.on && (s.plan[j]).2 != 24 }, (s.plan[j]).2) := by
  have : s.plan.find? (fun f => f.1 == s.tries + 1) = some s.plan[j] := by
    rw [List.find?_eq_some_iff_append]
    refine ⟨by simpa using he, s.plan.take j, s.plan.drop (j + 1), ?_, fun x hx => by simpa using h x hx⟩
    rw [← List.drop_eq_getElem_cons hj, List.take_append_drop]
  simp [Disk.St.tried, this]
set_option maxRecDepth 100000 in
set_option maxHeartbeats 1000000 in
theorem tried_b (H : Hid (DiskB w F d s loc blk bn bo rowv pA pC)) (ht : -4611686018427387904 ≤ s.tries ∧ s.tries ≤ 4611686018427387904) :
    Calls Tryz.prog 86 #[.pointer (some ⟨d, 0, none⟩)] w fun e w' => e = .returned (.int .i64 s.tried.2) ∧ DiskB w' F d s.tried.1 loc blk bn bo rowv pA pC ∧ Only (fun x => x = d) w w' := by
  have c6 := H.out.cell 6 _ rfl
  have c7 := H.out.cell 7 _ rfl
  have f7 := H.out.frozen 7
  have hdl := H.out.lt d H.out.Fd
  obtain ⟨n, hn⟩ : ∃ n, n = s.plan.length := ⟨_, rfl⟩
  rw [← hn] at c6
  have HN := Lib.hid hn
  have hsl := Lib.hid H.out.plan.slice
  have hnc : n ≤ pC := by rw [hn]; exact hsl.out.len
  have hcm := hsl.out.max
  obtain ⟨t, hT⟩ : ∃ t, t = s.tries := ⟨_, rfl⟩
  rw [← hT] at c7 ht
  have HT := Lib.hid hT
  clear hn hT
  obtain ⟨ht1, ht2⟩ := ht
  go_enter Tryz.func86, Tryz.ntmps86
  go_wp2_with fail
  have hd1 : Hid ((w.setCell ⟨d, 7, none⟩ (.int .i64 (t + 1))).heap[d]? = some (.cells #[.map (some bn), .map (some bo), rowv, .bool true, .bool s.on, .int .i64 s.room, .slice pA s.plan.length pC, .int .i64 (t + 1), .int .i64 s.done] 40 (0, 0))) := Lib.hid (by simp [World.setCell, Array.getElem?_modify, H.out.hd])
  have hO1 : Hid (Only (fun x => x = d) w (w.setCell ⟨d, 7, none⟩ (.int .i64 (t + 1)))) := Lib.hid (Only.setCell (Only.refl (fun x => x = d) w) (.inl rfl) _)
  go_loopg [4, 17] n (fun k _ i wr => ∃ j : Nat, k = n - j ∧ j ≤ n ∧ i = .int .i64 j ∧ Hid (∀ x ∈ s.plan.take j, x.1 ≠ s.tries + 1) ∧ Hid (wr.heap[d]? = some (.cells #[.map (some bn), .map (some bo), rowv, .bool true, .bool s.on, .int .i64 s.room, .slice pA s.plan.length pC, .int .i64 (t + 1), .int .i64 s.done] 40 (0, 0))) ∧ Hid (Only (fun x => x = d) w wr))
  case atStart => exact ⟨0, rfl, by omega, rfl, Lib.hid (by simp), hd1, hO1⟩
  case round =>
    obtain ⟨j, rfl, hj, rfl, HF, HD, HO⟩ := hrel
    clear c6 c7 f7 hd1 hO1
    by_cases hjn : j < n
    · have hpl := (H.out.plan.other HO.out (.one H.out.hd (by decide))).slice
      obtain ⟨g, o, cs, rfl, hg, hc, rfl, hw1, hw2⟩ := hpl.at_ (i := j) (by rw [← HN.out]; exact hjn)
      obtain ⟨N, hNe⟩ : ∃ N, N = (s.plan[j]'(by rw [← HN.out]; exact hjn)).1 := ⟨_, rfl⟩
      obtain ⟨E, hEe⟩ : ∃ E, E = (s.plan[j]'(by rw [← HN.out]; exact hjn)).2 := ⟨_, rfl⟩
      rw [← hNe] at hw1
      rw [← hEe] at hw2
      rw [← hNe, ← hEe] at hc
      obtain ⟨k1, k2⟩ := hc.two
      rw [show Rep.fault.n = 2 from rfl] at k1 k2
      have HNE := Lib.hid hNe
      have HEE := Lib.hid hEe
      have c7 : wr.cell? ⟨d, 7, none⟩ = some (.int .i64 (t + 1)) := (cell_of_row wr d 7 _ _ (0, 0) HD.out).trans rfl
      have f4 : wr.frozen? ⟨d, 4, none⟩ = false := by simp [World.frozen?, HD.out]
      have c4 : wr.cell? ⟨d, 4, none⟩ = some (.bool s.on) := (cell_of_row wr d 4 _ _ (0, 0) HD.out).trans rfl
      have hdr : d < wr.heap.size := (Array.getElem?_eq_some_iff.1 HD.out).1
      clear hNe hEe hc hpl
      by_cases he : N = t + 1
      · have he1 : (N == t + 1) = true := by rw [he]; simp
        subst he
        obtain ⟨q, hq⟩ : ∃ q, (E == 24) = q := ⟨_, rfl⟩
        have hts := tried_some (s := s) (j := j) (by rw [← HN.out]; exact hjn) HF.out (by rw [← HNE.out, HT.out])
        rw [← HEE.out] at hts
        have HTS := Lib.hid hts
        clear hts he1
        go_wp2_with fail
        go_quiet (fail)
        generalize hW : World.drewN _ _ = W
        have hbx := Lib.hid (show W.heap[wr.heap.size]? = some (.cells #[.int .i64 (t + 1), .int .i64 E] 123 (0, 0)) from (by rw [← hW]; exact heap_alloc_new wr _))
        have hWd : W.heap[d]? = wr.heap[d]? := by rw [← hW]; exact Below.heap_alloc wr _ d hdr
        have HDW := Lib.hid (hWd.trans HD.out)
        have HOW := Lib.hid (show Only (fun x => x = d) w W from (by rw [← hW]; exact (HO.out.alloc _).drewN _))
        have k3 : W.cell? ⟨wr.heap.size, 1, none⟩ = some (.int .i64 E) := (cell_of_row W _ 1 _ _ (0, 0) hbx.out).trans rfl
        have k4 : W.cell? ⟨d, 4, none⟩ = some (.bool s.on) := (cell_of_row W d 4 _ _ (0, 0) HDW.out).trans rfl
        have f4W : W.frozen? ⟨d, 4, none⟩ = false := by simp [World.frozen?, HDW.out]
        have hdn : d ≠ wr.heap.size := by omega
        clear hW hWd f4 c4 c7 k1 k2
        cases q
        · go_wp2_with fail
          go_ret
          refine ⟨congrArg Ending.returned (by rw [HTS.out]; rfl), ?_, HOW.out⟩
          rw [HTS.out]
          have hE : (E != 24) = true := by rw [bne, hq]; rfl
          exact H.out.header (t := { s with tries := s.tries + 1, on := s.on && E != 24 }) HOW.out (HDW.out.trans (by rw [HT.out, hE, Bool.and_true])) rfl rfl rfl rfl rfl
        · go_wp2_with fail
          go_ret
          have hO2 : Only (fun x => x = d) w (W.setCell ⟨d, 4, none⟩ (.bool false)) := HOW.out.setCell (.inl rfl) _
          refine ⟨congrArg Ending.returned (by rw [HTS.out]; rfl), ?_, hO2⟩
          rw [HTS.out]
          have hE : (E != 24) = false := by rw [bne, hq]; rfl
          refine H.out.header (t := { s with tries := s.tries + 1, on := s.on && E != 24 }) hO2 ?_ rfl rfl rfl rfl rfl
          rw [hE, Bool.and_false]
          simp [World.setCell, Array.getElem?_modify, HDW.out, HT.out]
      · have he1 : (N == t + 1) = false := beq_eq_false_iff_ne.2 he
        have HE := Lib.hid he
        clear he
        go_wp2_with fail
        go_quiet (fail)
        generalize hW : World.drewN _ _ = W
        have hbx := Lib.hid (show W.heap[wr.heap.size]? = some (.cells #[.int .i64 N, .int .i64 E] 123 (0, 0)) from (by rw [← hW]; exact heap_alloc_new wr _))
        have hWd : W.heap[d]? = wr.heap[d]? := by rw [← hW]; exact Below.heap_alloc wr _ d hdr
        have HDW := Lib.hid (hWd.trans HD.out)
        have HOW := Lib.hid (show Only (fun x => x = d) w W from (by rw [← hW]; exact (HO.out.alloc _).drewN _))
        have k3 : W.cell? ⟨wr.heap.size, 1, none⟩ = some (.int .i64 E) := (cell_of_row W _ 1 _ _ (0, 0) hbx.out).trans rfl
        have k4 : W.cell? ⟨d, 4, none⟩ = some (.bool s.on) := (cell_of_row W d 4 _ _ (0, 0) HDW.out).trans rfl
        have f4W : W.frozen? ⟨d, 4, none⟩ = false := by simp [World.frozen?, HDW.out]
        have hdn : d ≠ wr.heap.size := by omega
        clear hW hWd f4 c4 c7 k1 k2
        go_wp2_with fail
        go_roundg (n - (j + 1))
        case measure => omega
        case rel =>
          refine ⟨j + 1, rfl, by omega, by go_num, Lib.hid ?_, HDW, HOW⟩
          intro x hx
          rw [List.take_succ_eq_append_getElem (by rw [← HN.out]; exact hjn), List.mem_append, List.mem_singleton] at hx
          rcases hx with hx | rfl
          · exact HF.out x hx
          · rw [← HNE.out, ← HT.out]; exact HE.out
    · obtain rfl : j = n := by omega
      go_wp2_with fail
      go_ret
      have hnone := tried_none (s := s) (by have := HF.out; rw [HN.out, List.take_length] at this; exact this)
      refine ⟨congrArg Ending.returned (by rw [hnone]; rfl), ?_, HO.out⟩
      rw [hnone]
      exact H.out.header (t := { s with tries := s.tries + 1 }) HO.out (HD.out.trans (by rw [HT.out])) rfl rfl rfl rfl rfl
end
end Go.Proofs.YtncpeogkccjmcaaGreatDoor
namespace Go.Proofs.YtncpeogkccjmcaaGreatDoor
open Go.RowKit Go.ChangeShapes Go.WideShapes Go.Deep

namespace Disk
/-- The counts of a disk that has seen k calls at most. -/
def Small (k : Nat) (s : St) : Prop := 0 ≤ s.tries ∧ s.tries ≤ 8 * k ∧ 0 ≤ s.done ∧ s.done ≤ 8 * k ∧ s.row.length ≤ k
theorem Small.tried {k : Nat} {s : St} (h : Small k s) : 0 ≤ s.tried.1.tries ∧ s.tried.1.tries ≤ 8 * k + 1 ∧ s.tried.1.done = s.done ∧ s.tried.1.row = s.row := by
  obtain ⟨h1, h2, h3, h4, h5⟩ := h
  have ⟨a1, a2, _⟩ := tried_kept s
  have b := (tried_tries s).1
  refine ⟨?_, ?_, a2, a1⟩ <;> omega
theorem call_1 {s : St} {names : List Nm} {has : Nm} {f : St → St × Int} (h : s.looked [] names ≠ 0) : s.call names has f = (s, s.looked [] names) := by unfold St.call; rw [if_pos h]
theorem call_2 {s : St} {names : List Nm} {has : Nm} {f : St → St × Int} (h : s.looked [] names = 0) (h2 : s.looked has [] ≠ 0) : s.call names has f = (s, s.looked has []) := by
  unfold St.call; rw [if_neg (by simpa using h), if_pos h2]
theorem call_3 {s : St} {names : List Nm} {has : Nm} {f : St → St × Int} (h : s.looked [] names = 0) (h2 : s.looked has [] = 0) (h3 : s.tried.2 ≠ 0) : s.call names has f = s.tried := by
  rw [call_go h h2, if_pos h3]
theorem call_4 {s : St} {names : List Nm} {has : Nm} {f : St → St × Int} (h : s.looked [] names = 0) (h2 : s.looked has [] = 0) (h3 : s.tried.2 = 0) : s.call names has f = f s.tried.1 := by
  rw [call_go h h2, if_neg (by simpa using h3)]
theorem names_of {s : St} {names : List Nm} (h : s.looked [] names = 0) : s.on = true ∧ ∀ n ∈ names, isName n = true := by
  refine ⟨?_, looked_name h⟩
  cases e : s.on
  · simp [St.looked, e] at h
  · rfl
theorem looked_nil {s : St} {has : Nm} (h : s.looked has [] = 0) : s.on = true := by
  cases e : s.on
  · simp [St.looked, e] at h
  · rfl
end Disk
/-- What a call that answers a number leaves. -/
def DiskCall (w : World) (F : Blocks) (d : Nat) (r : Disk.St × Int) (e : Ending) (w' : World) : Prop := e = .returned (.int .i64 r.2) ∧ DiskAt w' (grow F w w') d r.1 ∧ Only F w w'

section
variable {w w' : World} {F G : Blocks} {d : Nat} {s : Disk.St} {loc : Nat → Nat} {blk : Nat → Option Nat} {bn bo : Nat} {rowv : Value} {pA : Option Addr} {pC : Nat}
theorem DiskB.at_ (h : DiskB w F d s loc blk bn bo rowv pA pC) : DiskAt w F d s := ⟨loc, blk, bn, bo, rowv, pA, pC, h⟩
/-- A disk behind a call, its blocks those of before and new ones. -/
theorem DiskB.ends {w0 w1 : World} (h : DiskB w (grow F w1 w') d s loc blk bn bo rowv pA pC) (h0 : ∀ b, F b → b < w0.heap.size) (h1 : w0.heap.size ≤ w1.heap.size) (h2 : w'.heap.size ≤ w.heap.size) (h3 : w0.heap.size ≤ w.heap.size) : DiskAt w (grow F w0 w) d s :=
  (h.up (G := grow F w0 w) (fun _ hb => hb.elim .inl fun ⟨a, c⟩ => .inr ⟨Nat.le_trans h1 a, Nat.lt_of_lt_of_le c h2⟩) (grow_lt h0 h3)).at_
theorem DiskB.ends0 {w0 : World} (h : DiskB w F d s loc blk bn bo rowv pA pC) (h0 : ∀ b, F b → b < w0.heap.size) (h3 : w0.heap.size ≤ w.heap.size) : DiskAt w (grow F w0 w) d s :=
  (h.up (G := grow F w0 w) (fun _ hb => .inl hb) (grow_lt h0 h3)).at_
/-- One thing more is done. -/
theorem DiskB.more (h : DiskB w F d s loc blk bn bo rowv pA pC) : DiskB (w.setCell ⟨d, 8, none⟩ (.int .i64 (s.done + 1))) F d s.more loc blk bn bo rowv pA pC :=
  h.header (Only.setCell (Only.refl (fun x => x = d) w) (.inl rfl) _) (by simp [World.setCell, Array.getElem?_modify, h.hd, Disk.St.more]) rfl rfl rfl rfl rfl

section
variable (n : ByteArray) (H : Hid (DiskB w F d s loc blk bn bo rowv pA pC)) (hn : n.size ≤ maxLen)
include H hn
theorem look1_any (W : World) (hW : Below w.heap.size w W) : Calls Tryz.prog 85 #[.pointer (some ⟨d, 0, none⟩), .string ⟨#[]⟩, .slice (some ⟨W.heap.size, 0, none⟩) 1 1] (W.alloc (.cells #[.string n] 9)) fun e w' =>
    e = .returned (lookV s loc [] [n.data.toList]) ∧ Below w.heap.size w w' := by
  have hb := hW.alloc hW.size (.cells #[.string n] 9)
  refine (looked_any (w := W.alloc (.cells #[.string n] 9)) ⟨#[]⟩ _ 1 1 [n] _ (Lib.hid (H.out.far hb)) (by decide) (Lib.hid rfl) (Lib.hid (SliceAt.new1 Rep.str W 9 #[.string n] n nob ⟨rfl, hn⟩ fun _ h => h.elim)) (Lib.hid ?_) (by omega)).mono ?_
  · rintro b (rfl | h)
    · simp
    · exact h.elim
  · rintro e w' ⟨he, h⟩
    exact ⟨he, hb.trans (h.mono hb.size)⟩
theorem look1_bad {q : Int} (hq : s.looked [] [n.data.toList] = q) (h0 : q ≠ 0) (W : World) (hW : Below w.heap.size w W) : Calls Tryz.prog 85 #[.pointer (some ⟨d, 0, none⟩), .string ⟨#[]⟩, .slice (some ⟨W.heap.size, 0, none⟩) 1 1] (W.alloc (.cells #[.string n] 9)) fun e w' =>
    e = .returned (.tuple #[.pointer none, .int .i64 q]) ∧ Below w.heap.size w w' :=
  (look1_any n H hn W hW).mono fun e w' ⟨he, h⟩ => ⟨by rw [he]; simp [lookV, hq, h0], h⟩
theorem look1_ok (hq : s.looked [] [n.data.toList] = 0) (W : World) (hW : Below w.heap.size w W) : Calls Tryz.prog 85 #[.pointer (some ⟨d, 0, none⟩), .string ⟨#[]⟩, .slice (some ⟨W.heap.size, 0, none⟩) 1 1] (W.alloc (.cells #[.string n] 9)) fun e w' =>
    e = .returned (.tuple #[Disk.ptrOf s.now loc [], .int .i64 0]) ∧ Below w.heap.size w w' :=
  (look1_any n H hn W hW).mono fun e w' ⟨he, h⟩ => ⟨by rw [he]; simp [lookV, hq], h⟩
theorem look2_any (W : World) (hW : Below w.heap.size w W) : Calls Tryz.prog 85 #[.pointer (some ⟨d, 0, none⟩), .string n, .slice none 0 0] W fun e w' =>
    e = .returned (lookV s loc n.data.toList []) ∧ Below w.heap.size w w' := by
  refine (looked_any (w := W) n none 0 0 [] nob (Lib.hid (H.out.far hW)) hn (Lib.hid rfl) (Lib.hid (SliceAt.nil _ _ _)) (Lib.hid fun _ h => h.elim) (by omega)).mono ?_
  rintro e w' ⟨he, h⟩
  exact ⟨he, hW.trans (h.mono hW.size)⟩
theorem look2_bad {q : Int} (hq : s.looked n.data.toList [] = q) (h0 : q ≠ 0) (W : World) (hW : Below w.heap.size w W) : Calls Tryz.prog 85 #[.pointer (some ⟨d, 0, none⟩), .string n, .slice none 0 0] W fun e w' =>
    e = .returned (.tuple #[.pointer none, .int .i64 q]) ∧ Below w.heap.size w w' :=
  (look2_any n H hn W hW).mono fun e w' ⟨he, h⟩ => ⟨by rw [he]; simp [lookV, hq, h0], h⟩
theorem look2_ok (hq : s.looked n.data.toList [] = 0) {i : Nat} (hi : Disk.find s.now n.data.toList = some i) (W : World) (hW : Below w.heap.size w W) : Calls Tryz.prog 85 #[.pointer (some ⟨d, 0, none⟩), .string n, .slice none 0 0] W fun e w' =>
    e = .returned (.tuple #[.pointer (some ⟨loc i, 0, none⟩), .int .i64 0]) ∧ Below w.heap.size w w' :=
  (look2_any n H hn W hW).mono fun e w' ⟨he, h⟩ => ⟨by rw [he]; simp [lookV, hq, Disk.ptrOf, hi], h⟩
end
/-- What the tries make of the disk, in letters. -/
structure Tried (s s3 : Disk.St) (q : Int) : Prop where
  eq : s.tried = (s3, q)
  all : s3.all = s.all
  now : s3.now = s.now
  old : s3.old = s.old
  row : s3.row = s.row
  done : s3.done = s.done
  room : s3.room = s.room
theorem Tried.mk' (s : Disk.St) : ∃ s3 q, Tried s s3 q := by
  obtain ⟨h1, h2, h3, h4, h5, h6, h7, h8⟩ := Disk.tried_kept s
  exact ⟨_, _, rfl, h3, h4, h5, h1, h2, h6⟩
theorem tried_at (H : Hid (DiskB w F d s loc blk bn bo rowv pA pC)) {k : Nat} (hk : Hid (Disk.Small k s)) (hkb : k ≤ 1099511627776) {s3 : Disk.St} {q : Int} (hT : Hid (Tried s s3 q)) (W : World) (hW : Below w.heap.size w W) :
    Calls Tryz.prog 86 #[.pointer (some ⟨d, 0, none⟩)] W fun e w' => e = .returned (.int .i64 q) ∧ DiskB w' F d s3 loc blk bn bo rowv pA pC ∧ Only F w w' := by
  obtain ⟨a1, a2, -⟩ := hk.out
  refine (tried_b (Lib.hid (H.out.far hW)) (by omega)).mono ?_
  rintro e w' ⟨he, hd, ho⟩
  rw [hT.out.eq] at he hd
  exact ⟨he, hd, (Only.of_below hW F).trans ho fun x hx => .inl (hx ▸ H.out.Fd)⟩


section
variable (n m : ByteArray) (H : Hid (DiskB w F d s loc blk bn bo rowv pA pC)) (hn : n.size ≤ maxLen) (hm : m.size ≤ maxLen)
include H hn hm
theorem look1b_any (W : World) (hW : Below w.heap.size w W) : Calls Tryz.prog 85 #[.pointer (some ⟨d, 0, none⟩), .string ⟨#[]⟩, .slice (some ⟨W.heap.size, 0, none⟩) 2 2] (W.alloc (.cells #[.string n, .string m] 9)) fun e w' =>
    e = .returned (lookV s loc [] [n.data.toList, m.data.toList]) ∧ Below w.heap.size w w' := by
  have hb := hW.alloc hW.size (.cells #[.string n, .string m] 9)
  refine (looked_any (w := W.alloc (.cells #[.string n, .string m] 9)) ⟨#[]⟩ _ 2 2 [n, m] _ (Lib.hid (H.out.far hb)) (by decide) (Lib.hid rfl) (Lib.hid (SliceAt.newRow Rep.str W 9 #[.string n, .string m] [n, m] nob 2 2 rfl (Nat.le_refl _) (by decide) (fun i hi => ?_) fun _ h => h.elim)) (Lib.hid ?_) (by omega)).mono ?_
  · match i, hi with
    | 0, _ => exact ⟨rfl, hn⟩
    | 1, _ => exact ⟨rfl, hm⟩
  · rintro b (rfl | h)
    · simp
    · exact h.elim
  · rintro e w' ⟨he, h⟩
    exact ⟨he, hb.trans (h.mono hb.size)⟩
theorem look1b_bad {q : Int} (hq : s.looked [] [n.data.toList, m.data.toList] = q) (h0 : q ≠ 0) (W : World) (hW : Below w.heap.size w W) : Calls Tryz.prog 85 #[.pointer (some ⟨d, 0, none⟩), .string ⟨#[]⟩, .slice (some ⟨W.heap.size, 0, none⟩) 2 2] (W.alloc (.cells #[.string n, .string m] 9)) fun e w' =>
    e = .returned (.tuple #[.pointer none, .int .i64 q]) ∧ Below w.heap.size w w' :=
  (look1b_any n m H hn hm W hW).mono fun e w' ⟨he, h⟩ => ⟨by rw [he]; simp [lookV, hq, h0], h⟩
theorem look1b_ok (hq : s.looked [] [n.data.toList, m.data.toList] = 0) (W : World) (hW : Below w.heap.size w W) : Calls Tryz.prog 85 #[.pointer (some ⟨d, 0, none⟩), .string ⟨#[]⟩, .slice (some ⟨W.heap.size, 0, none⟩) 2 2] (W.alloc (.cells #[.string n, .string m] 9)) fun e w' =>
    e = .returned (.tuple #[Disk.ptrOf s.now loc [], .int .i64 0]) ∧ Below w.heap.size w w' :=
  (look1b_any n m H hn hm W hW).mono fun e w' ⟨he, h⟩ => ⟨by rw [he]; simp [lookV, hq], h⟩
end
section
variable (H : Hid (DiskB w F d s loc blk bn bo rowv pA pC))
include H
theorem look0_bad {q : Int} (hq : s.looked [] [] = q) (h0 : q ≠ 0) (W : World) (hW : Below w.heap.size w W) : Calls Tryz.prog 85 #[.pointer (some ⟨d, 0, none⟩), .string ⟨#[]⟩, .slice none 0 0] W fun e w' =>
    e = .returned (.tuple #[.pointer none, .int .i64 q]) ∧ Below w.heap.size w w' :=
  (look2_any ⟨#[]⟩ H (by decide) W hW).mono fun e w' ⟨he, h⟩ => ⟨by rw [he]; simp [lookV, hq, h0], h⟩
theorem look0_ok (hq : s.looked [] [] = 0) (W : World) (hW : Below w.heap.size w W) : Calls Tryz.prog 85 #[.pointer (some ⟨d, 0, none⟩), .string ⟨#[]⟩, .slice none 0 0] W fun e w' =>
    e = .returned (.tuple #[Disk.ptrOf s.now loc [], .int .i64 0]) ∧ Below w.heap.size w w' :=
  (look2_any ⟨#[]⟩ H (by decide) W hW).mono fun e w' ⟨he, h⟩ => ⟨by rw [he]; simp [lookV, hq], h⟩
end
namespace Disk
theorem remove_1 {s : St} {n : Nm} (h : s.looked [] [n] ≠ 0) : s.remove n = (s, s.looked [] [n]) := by unfold St.remove; rw [if_pos h]
theorem remove_2 {s : St} {n : Nm} (h : s.looked [] [n] = 0) (h2 : s.looked n [] ≠ 0) : s.remove n = (s, s.looked n []) := by unfold St.remove; rw [if_neg (by simpa using h), if_pos h2]
theorem remove_3 {s : St} {n : Nm} (h : s.looked [] [n] = 0) (h2 : s.looked n [] = 0) (h3 : s.tried.2 = 24) : s.remove n = s.tried := by unfold St.remove; rw [if_neg (by simpa using h), if_neg (by simpa using h2), if_pos h3]
theorem remove_4 {s : St} {n : Nm} (h : s.looked [] [n] = 0) (h2 : s.looked n [] = 0) (h3 : s.tried.2 ≠ 24) : s.remove n = ((s.tried.1.changes ⟨n, [], 0⟩).more, 0) := by unfold St.remove; rw [if_neg (by simpa using h), if_neg (by simpa using h2), if_neg h3]
end Disk
theorem sv_str (n : ByteArray) : sv n.data.toList = .string n := rfl
theorem nm_len {n : ByteArray} (h : n.size ≤ maxLen) : n.data.toList.length ≤ maxLen := by rw [Array.length_toList]; exact h
theorem changes_from (n : ByteArray) (hn : n.size ≤ maxLen) (h0 : n.data.toList ≠ []) (H : Hid (DiskB w F d s loc blk bn bo rowv pA pC)) (hf : Hid (Disk.Fine s)) (hrow : s.row.length ≤ 1099511627776) :
    Calls Tryz.prog 88 #[.pointer (some ⟨d, 0, none⟩), .agg #[.string n, .string ⟨#[]⟩, .pointer none]] w fun e w' => e = .returned (.tuple #[]) ∧ (∃ rowv', DiskB w' (grow F w w') d (s.changes ⟨n.data.toList, [], 0⟩) loc blk bn bo rowv' pA pC) ∧ Only F w w' :=
  changes_b ⟨n.data.toList, [], 0⟩ H hf (nm_len hn) (Nat.zero_le _) (Lib.hid (.inl h0)) hrow
theorem changes_mv (n m : ByteArray) (i : Nat) (hn : n.size ≤ maxLen) (hm : m.size ≤ maxLen) (h0 : n.data.toList ≠ []) (h1 : m.data.toList ≠ []) (H : Hid (DiskB w F d s loc blk bn bo rowv pA pC)) (hf : Hid (Disk.Fine s)) (hrow : s.row.length ≤ 1099511627776) :
    Calls Tryz.prog 88 #[.pointer (some ⟨d, 0, none⟩), .agg #[.string n, .string m, .pointer (some ⟨loc i, 0, none⟩)]] w fun e w' => e = .returned (.tuple #[]) ∧ (∃ rowv', DiskB w' (grow F w w') d (s.changes ⟨n.data.toList, m.data.toList, i⟩) loc blk bn bo rowv' pA pC) ∧ Only F w w' := by
  have := changes_b ⟨n.data.toList, m.data.toList, i⟩ H hf (nm_len hn) (nm_len hm) (Lib.hid (.inl h0)) hrow
  simp only [ptrTo, if_neg h1] at this
  exact this
/-- A new file that comes to stand under a name. -/
theorem changes_new (n : ByteArray) (hn : n.size ≤ maxLen) (h1 : n.data.toList ≠ []) (H : Hid (DiskB w F d s loc blk bn bo rowv pA pC)) (hf : Hid (Disk.Fine s)) (hrow : s.row.length ≤ 1099511627776) :
    Calls Tryz.prog 88 #[.pointer (some ⟨d, 0, none⟩), .agg #[.string ⟨#[]⟩, .string n, .pointer (some ⟨w.heap.size, 0, none⟩)]] (w.alloc (.cells #[.slice none 0 0, .int .i64 0, .bool false] 84)) fun e w' =>
      e = .returned (.tuple #[]) ∧ (∃ loc' blk' rowv', DiskB w' (grow F w w') d (Disk.St.changes { s with all := s.all ++ [⟨[], 0, false⟩] } ⟨[], n.data.toList, s.all.length⟩) loc' blk' bn bo rowv' pA pC) ∧ Only F w w' := by
  have h4 := H.out.newFile hf.out rfl
  obtain ⟨W, hW⟩ : ∃ W, W = w.alloc (.cells #[.slice none 0 0, .int .i64 0, .bool false] 84) := ⟨_, rfl⟩
  rw [← hW] at h4 ⊢
  have hs : w.heap.size ≤ W.heap.size := by rw [hW]; simp
  have hO : Only F w W := by rw [hW]; exact (Only.refl F w).alloc _
  have := changes_b ⟨[], n.data.toList, s.all.length⟩ (Lib.hid h4) (Lib.hid (Disk.fine_new hf.out)) (Nat.zero_le _) (nm_len hn) (Lib.hid (.inr h1)) hrow
  simp only [ptrTo, if_neg h1, if_true] at this
  refine Calls.mono this ?_
  rintro e w' ⟨he, ⟨rowv', hd⟩, ho⟩
  have hs2 := ho.size
  refine ⟨he, ⟨_, _, rowv', hd.up (fun b hb => ?_) (grow_lt H.out.lt (Nat.le_trans hs hs2))⟩, hO.trans ho fun x hx => ?_⟩
  · rcases hb with (hb | ⟨h1, h2⟩) | ⟨h1, h2⟩
    · exact .inl hb
    · exact .inr ⟨h1, Nat.lt_of_lt_of_le h2 hs2⟩
    · exact .inr ⟨Nat.le_trans hs h1, h2⟩
  · rcases hx with hx | ⟨hx, -⟩
    · exact .inl hx
    · exact .inr hx
theorem Tried.fine {s3 : Disk.St} {q : Int} (h : Tried s s3 q) (hf : Disk.Fine s) : Disk.Fine s3 := by
  have := Disk.fine_tried hf
  rwa [h.eq] at this
def szOf (s : Disk.St) (i : Nat) : Nat := (s.all[i]?.map (·.bytes.length)).getD 0
theorem sum_le (f : Disk.Nm → Nat) (hf : ∀ k, f k ≤ 16777216) : ∀ l : List Disk.Nm, (l.map f).sum ≤ l.length * 16777216
  | [] => by simp
  | k :: l => by
    have := sum_le f hf l
    have := hf k
    simp only [List.map_cons, List.sum_cons, List.length_cons]
    omega
theorem sum_bound (hf : Disk.Fine s) (seen : List Disk.Nm) (hn : seen.Nodup) (hm : ∀ k ∈ seen, k ∈ Disk.keys s.now) : (seen.map (szAt s.now (szOf s))).sum ≤ 1073741824 := by
  have h1 : seen.length ≤ 64 := by
    have h := hn.length_le_of_subset (l₂ := Disk.keys s.now) hm
    have : (Disk.keys s.now).length = s.now.length := by simp [Disk.keys]
    have := hf.nowL
    omega
  have h2 := sum_le (szAt s.now (szOf s)) (fun k => by
    unfold szAt szOf
    cases e : Disk.find s.now k with
    | none => simp
    | some i =>
      cases e2 : s.all[i]? with
      | none => simp [e2]
      | some d => simpa [e2] using hf.big d (List.mem_of_getElem? e2)) seen
  omega
theorem sum_d (H : DiskB w F d s loc blk bn bo rowv pA pC) (hf : Disk.Fine s) :
    Calls Tryz.prog 20 #[.pointer (some ⟨d, 0, none⟩)] w fun e w' => e = .returned (.int .i64 (s.size s.now : Nat)) ∧ Below w.heap.size w w' := by
  refine (sum_any d bn _ s.now loc (szOf s) w (Lib.hid H.now) (H.cell 0 _ rfl) (Lib.hid fun i hi => ?_) (H.lt d H.Fd) (Lib.hid fun seen a b => Nat.le_trans (sum_bound hf seen a b) (by omega))).mono ?_
  · have hl := hf.nowI i hi
    obtain ⟨A, c, h1, -⟩ := H.files i s.all[i] (List.getElem?_eq_getElem hl)
    refine ⟨H.lt _ (H.Fl i hl), A, c, ?_⟩
    have : szOf s i = s.all[i].bytes.length := by simp [szOf, List.getElem?_eq_getElem hl]
    rw [this]
    exact (cell_of_row w _ 0 _ _ (0, 0) h1).trans rfl
  · rintro e w' ⟨seen, a1, a2, a3, rfl, hb⟩
    refine ⟨?_, hb⟩
    have : (seen.map (szAt s.now (szOf s))).sum = s.size s.now := by
      rw [← Disk.sum_size hf.good.nowR a1 a2 a3]
      congr 1
      refine List.map_congr_left fun k _ => ?_
      unfold szAt Disk.sizeAt szOf
      cases Disk.find s.now k <;> rfl
    rw [this]
theorem size_le (hf : Disk.Fine s) : s.size s.now ≤ 1073741824 := by
  have hn : (Disk.keys s.now).Nodup := by
    unfold Disk.keys List.Nodup
    rw [List.pairwise_map]
    exact hf.good.nowR.imp fun hab e => by rw [e] at hab; exact Disk.lt_irrefl _ hab
  rw [← Disk.sum_size hf.good.nowR hn (fun _ h => h) (fun _ h => h)]
  have := sum_bound hf _ hn (fun _ h => h)
  refine Nat.le_trans (Nat.le_of_eq ?_) this
  congr 1
  refine List.map_congr_left fun k _ => ?_
  unfold szAt Disk.sizeAt szOf
  cases Disk.find s.now k <;> rfl
end
end Go.Proofs.YtncpeogkccjmcaaGreatDoor
namespace Go.Proofs.YtncpeogkccjmcaaGreatDoor
namespace Disk
theorem small_mono {k l : Nat} {s : St} (h : Small k s) (hl : k ≤ l) : Small l s := by
  obtain ⟨h1, h2, h3, h4, h5⟩ := h
  refine ⟨h1, ?_, h3, ?_, ?_⟩ <;> omega
theorem small_tried {k : Nat} {s : St} (h : Small k s) : Small (k + 1) s.tried.1 := by
  obtain ⟨a, b, c, d⟩ := h.tried
  obtain ⟨h1, h2, h3, h4, h5⟩ := h
  refine ⟨a, by omega, by rw [c]; exact h3, by rw [c]; omega, by rw [d]; omega⟩
theorem small_call {k : Nat} {s : St} {names : List Nm} {has : Nm} {f : St → St × Int} (h : Small k s) (hf : ∀ t : St, 0 ≤ t.tries → t.tries ≤ 8 * (k : Int) + 1 → 0 ≤ t.done → t.done ≤ 8 * (k : Int) → t.row.length ≤ k → Small (k + 1) (f t).1) : Small (k + 1) (s.call names has f).1 := by
  unfold St.call
  split
  · exact small_mono h (Nat.le_succ _)
  · split
    · exact small_mono h (Nat.le_succ _)
    · split
      · exact small_tried h
      · obtain ⟨a, b, c, d⟩ := h.tried
        obtain ⟨h1, h2, h3, h4, h5⟩ := h
        exact hf _ a b (by rw [c]; exact h3) (by rw [c]; exact h4) (by rw [d]; exact h5)
/-- One call more. -/
theorem small_act {k : Nat} {s : St} (h : Small k s) (o : Do) : Small (k + 1) (s.act o).1 := by
  have hm := small_mono h (Nat.le_succ k)
  cases o with
  | make n =>
    refine small_call h fun t a b c d e => ?_
    split
    · show Small (k + 1) t
      exact ⟨a, by omega, c, by omega, by omega⟩
    · refine ⟨a, by simp [St.more, St.changes]; omega, ?_, ?_, ?_⟩ <;> simp [St.more, St.changes] <;> omega
  | append n b =>
    refine small_call h fun t a b c d e => ?_
    split
    · show Small (k + 1) t
      exact ⟨a, by omega, c, by omega, by omega⟩
    · refine ⟨a, by simp [St.more, St.setNd]; omega, ?_, ?_, ?_⟩ <;> simp [St.more, St.setNd] <;> omega
  | sync n => exact small_call h fun t a b c d e => by refine ⟨a, by simp [St.more, St.setNd]; omega, ?_, ?_, ?_⟩ <;> simp [St.more, St.setNd] <;> omega
  | rename n m =>
    refine small_call h fun t a b c d e => ?_
    split
    · refine ⟨a, by simp [St.more]; omega, ?_, ?_, ?_⟩ <;> simp [St.more] <;> omega
    · refine ⟨a, by simp [St.more, St.changes]; omega, ?_, ?_, ?_⟩ <;> simp [St.more, St.changes] <;> omega
  | remove n =>
    show Small (k + 1) (s.remove n).1
    unfold St.remove
    split
    · exact hm
    · split
      · exact hm
      · split
        · exact small_tried h
        · obtain ⟨a, b, c, d⟩ := h.tried
          obtain ⟨h1, h2, h3, h4, h5⟩ := h
          refine ⟨a, by simp [St.more, St.changes]; omega, ?_, ?_, ?_⟩ <;> simp [St.more, St.changes, c, d] <;> omega
  | syncDir => exact small_call h fun t a b c d e => by refine ⟨a, by simp [St.more, St.settled]; omega, ?_, ?_, ?_⟩ <;> simp [St.more, St.settled] <;> omega
  | read n => exact hm
  | spoil n b =>
    show Small (k + 1) (s.spoil n b).1
    unfold St.spoil
    split
    · exact hm
    · exact hm
  | plan l =>
    show Small (k + 1) (s.plan_ l).1
    unfold St.plan_
    obtain ⟨h1, h2, h3, h4, h5⟩ := h
    split
    · exact ⟨Int.le_refl _, by simp; omega, h3, by simp; omega, by simp; omega⟩
    · exact hm
  | off => exact hm
  | none => exact hm
  | start d kp =>
    show Small (k + 1) (s.start d kp)
    unfold St.start
    split
    · exact hm
    · obtain ⟨h1, h2, h3, h4, h5⟩ := h
      exact ⟨h1, by simp; omega, h3, by simp; omega, by simp⟩
theorem small_from (room : Int) (fs : List Fin_) : Small 0 (fromSt room fs) := ⟨by simp [fromSt], by simp [fromSt], by simp [fromSt], by simp [fromSt], by simp [fromSt]⟩

/-! ### the law's own disk -/
def lv0 : St := fromSt 10 []
def lv1 : St := (lv0.make [97]).1
def lv2 : St := (lv1.append [97] [1, 2]).1
def lv3 : St := (lv2.sync [98]).1
theorem lv_facts : fromErr 10 [] = 0 ∧ (lv0.make [97]).2 = 0 ∧ (lv1.append [97] [1, 2]).2 = 0 ∧ (lv2.sync [98]).2 = 21 ∧ lv3.read [97] = ([1, 2], 0) ∧ lv3.row.length = 1 ∧ lv3.done = 2 := by
  refine ⟨by decide, by decide, by decide, by decide, by decide, by decide, by decide⟩
theorem lv_fine : Fine lv0 ∧ Fine lv1 ∧ Fine lv2 ∧ Fine lv3 := by
  have h0 : Fine lv0 := fine_from (by decide)
  have h1 : Fine lv1 := fine_act h0 (.make [97])
  have h2 : Fine lv2 := fine_act h1 (.append [97] [1, 2])
  exact ⟨h0, h1, h2, fine_act h2 (.sync [98])⟩
theorem lv_small : Small 0 lv0 ∧ Small 1 lv1 ∧ Small 2 lv2 ∧ Small 3 lv3 := by
  have h0 : Small 0 lv0 := small_from _ _
  have h1 : Small 1 lv1 := small_act h0 (.make [97])
  have h2 : Small 2 lv2 := small_act h1 (.append [97] [1, 2])
  exact ⟨h0, h1, h2, small_act h2 (.sync [98])⟩
end Disk
end Go.Proofs.YtncpeogkccjmcaaGreatDoor
namespace Go.Proofs.YtncpeogkccjmcaaGreatDoor
open Go.RowKit Go.ChangeShapes Go.WideShapes Go.Deep

theorem grow_base {F : Blocks} {B : Nat} {w w' : World} (h : ∀ b, F b → B ≤ b) (hw : B ≤ w.heap.size) : ∀ b, grow F w w' b → B ≤ b := fun b hb => hb.elim (h b) fun h => Nat.le_trans hw h.1
/-- A disk of the call's own. -/
structure Kd (w0 w : World) (F : Blocks) (d : Nat) (s : Disk.St) : Prop where
  at_ : DiskAt w F d s
  below : Below w0.heap.size w0 w
  base : ∀ b, F b → w0.heap.size ≤ b
theorem Kd.call {w0 w w' : World} {F : Blocks} {d : Nat} {s : Disk.St} {r : Disk.St × Int} {e : Ending} (h : Kd w0 w F d s) (hc : DiskCall w F d r e w') : e = .returned (.int .i64 r.2) ∧ Kd w0 w' (grow F w w') d r.1 :=
  ⟨hc.1, hc.2.1, h.below.trans (hc.2.2.below h.below.size h.base), grow_base h.base h.below.size⟩
theorem Kd.far {w0 w w' : World} {F : Blocks} {d : Nat} {s : Disk.St} (h : Kd w0 w F d s) (hb : Below w.heap.size w w') : Kd w0 w' F d s := by
  obtain ⟨loc, blk, bn, bo, rowv, pA, pC, hB⟩ := h.at_
  exact ⟨(hB.far hb).at_, h.below.trans (hb.mono h.below.size), h.base⟩
theorem Kd.next {w0 w w' : World} {F : Blocks} {d : Nat} {s t : Disk.St} (h : Kd w0 w F d s) (h1 : DiskAt w' (grow F w w') d t) (h2 : Only F w w') : Kd w0 w' (grow F w w') d t :=
  ⟨h1, h.below.trans (h2.below h.below.size h.base), grow_base h.base h.below.size⟩
end Go.Proofs.YtncpeogkccjmcaaGreatDoor
