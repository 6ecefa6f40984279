/- There and back: the walk of galleylaw16.FillBack. Condition: what comes in is at most 2^30. -/
import Derived.Test.YtebbilkkacbfjaaProg
import Derived.Test.YtebbilkkacbfjaaBack16
import Derived.WalkKit
import Derived.WalkSpells
import Derived.Deep.QuietTactic
import Derived.BigQuiet
import Derived.Lib.Hide
import Derived.Deep.DeepMust
namespace Go.Proofs.Ytebbilkkacbfjaa
open Go.RowKit

set_option maxHeartbeats 1000000 in
theorem long_no (x : Int) (w : World) (h : x ≤ 2147483647) : Calls Try.prog 10 #[.int .i64 x] w fun e w' => e = .returned (.bool false) ∧ Below w.heap.size w w' := by
  have h' : decide ((2147483647 : Int) < x) = false := by simp; omega
  go_enter Try.func10, Try.ntmps10
  go_wp2
  go_ret
  exact ⟨rfl, Below.refl _ _⟩
theorem parse_none (A : Option Addr) (n c : Nat) (l : List Mark) (w : World) (hn : Hid (n = l.length)) (hl : SliceAt Rep.mark w (under w.heap.size) A c l) (hb : l.length ≤ 4294967296) (hq : parse l = none) :
    Calls Try.prog 11 #[.slice A n c] w fun e w' => e = .returned (.tuple #[.slice none 0 0, .int .i64 61, .int .i64 ((n : Int) - 1)]) ∧ Below w.heap.size w w' := by
  refine (parse_n A n c l w hn.out hl hb).mono fun e w' ⟨hp, hb⟩ => ?_
  rw [hq] at hp
  exact ⟨hp, hb⟩
theorem print_none (A : Option Addr) (n c : Nat) (l : List Piece) (w : World) (hn : Hid (n = l.length)) (hl : SliceAt Rep.piece w (under w.heap.size) A c l) (hq : shaped l = false) :
    Calls Try.prog 14 #[.slice A n c] w fun e w' => e = .returned (.tuple #[.slice none 0 0, .int .i64 61]) ∧ Below w.heap.size w w' := by
  rw [hn.out]; exact print_bad A c l w hl hq

section
variable (L A : Option Addr) (n ca m cb : Nat) (l : List Mark) (ps : List Piece) (w : World) (hn : Hid (n = l.length)) (hm : Hid (m = ps.length))
    (hl : Hid (SliceAt Rep.mark w (under w.heap.size) L ca l)) (hp : Hid (SliceAt Rep.piece w (under w.heap.size) A cb ps))
    (hn1 : n ≤ ca) (hn2 : ca ≤ 9223372036854775807) (hm1 : m ≤ cb) (hm2 : cb ≤ 9223372036854775807) (hb1 : n ≤ 1073741823) (hb2 : m ≤ 1073741823) (hw : Hid (wt ps ≤ 1073741823))
include hn hm hl hp hn1 hn2 hm1 hm2 hb1 hb2 hw

omit hn2 hm1 hm2 in
set_option maxRecDepth 100000 in
set_option maxHeartbeats 4000000 in
theorem fillBack_ns (hq : parse l = none) (hs : shaped ps = true) : Calls Try.prog 4 #[.slice L n ca, .slice A m cb] w fun e w' => e = .returned (.bool true) ∧ Below w.heap.size w w' := by
  have hls : l.length ≤ 4294967296 := by have := hn.out; omega
  have HLS := Lib.hid hls
  clear hls
  obtain ⟨k, rfl⟩ : ∃ k, n = k + 1 := by
    obtain ⟨l0, e⟩ := parse_bad _ _ hq
    have := hn.out
    rw [e] at this
    exact ⟨l0.length, by simpa using this⟩
  have hkl : k < l.length := by have := hn.out; omega
  obtain ⟨gl, ol, rfl, hc0, hc1⟩ := mark_at hl.out (Same.refl _ _) hkl
  have hlast : l[k] = ⟨92, false⟩ := by
    obtain ⟨l0, e⟩ := parse_bad _ _ hq
    have h := hn.out
    rw [e] at h
    simp at h
    simp [e, h]
  rw [hlast] at hc0 hc1
  have HC0 := Lib.hid hc0
  have HC1 := Lib.hid hc1
  have hk1 : ((k + 1 : Nat) : Int) - 1 = k := by omega
  have hk2 : (((k + 1 : Nat) : Int) == 0) = false := by rw [beq_eq_false_iff_ne]; omega
  have hk3 : ((k : Int) + 1) - 1 = k := by omega
  have hk4 : (((k : Int) + 1) == 0) = false := by rw [beq_eq_false_iff_ne]; omega
  clear hc0 hc1 hlast
  have HQ := Lib.hid hq
  have HS := Lib.hid hs
  have hlong : ((k + 1 : Nat) : Int) + (m : Int) ≤ 2147483647 := by omega
  have HLONG := Lib.hid hlong
  clear hq hs
  go_enter Try.func4, Try.ntmps4
  go_wp2_with fail
  refine (works_any _).mono ?_
  rintro e w1 ⟨rfl, hb1'⟩
  have HB1 := Lib.hid hb1'
  clear hb1'
  go_wp2_with fail
  refine (long_no _ _ HLONG.out).mono ?_
  rintro e w2 ⟨rfl, hb2'⟩
  have h12 := HB1.out.trans (hb2'.mono HB1.out.size)
  have HB2 := Lib.hid h12
  clear hb2' HB1 h12
  go_wp2_with fail
  refine (parse_none _ _ _ l _ hn (hl.out.grow' HB2.out) HLS.out HQ.out).mono ?_
  rintro e w3 ⟨rfl, hb3'⟩
  have h13 := HB2.out.trans (hb3'.mono HB2.out.size)
  have HB3 := Lib.hid h13
  have hcc := (h13.cell (p := ⟨gl, ol + k * 2, none⟩) (World.block_lt_of_cell? w _ HC0.out)).trans HC0.out
  have hcd := (h13.cell (p := ⟨gl, ol + k * 2 + 1, none⟩) (World.block_lt_of_cell? w _ HC1.out)).trans HC1.out
  clear hb3' h13
  go_wp2_with fail
  refine (shaped_n _ _ _ ps _ true hm (hp.out.grow' HB3.out) HS.out).mono ?_
  rintro e w4 ⟨rfl, hb4'⟩
  have h14 := HB3.out.trans (hb4'.mono HB3.out.size)
  have HB4 := Lib.hid h14
  clear hb4' h14
  go_wp2_with fail
  refine (back_any _ _ _ ps _ hm (hp.out.grow' HB4.out) HS.out (by have := hw.out; omega)).mono ?_
  rintro e w5 ⟨rfl, hb5'⟩
  have h15 := HB4.out.trans (hb5'.mono HB4.out.size)
  have HB5 := Lib.hid h15
  clear hb5' h15
  go_wp2_with fail
  go_ret
  exact ⟨rfl, HB5.out⟩

omit hw hn2 hm1 hm2 in
set_option maxRecDepth 100000 in
set_option maxHeartbeats 4000000 in
theorem fillBack_nu (hq : parse l = none) (hs : shaped ps = false) : Calls Try.prog 4 #[.slice L n ca, .slice A m cb] w fun e w' => e = .returned (.bool true) ∧ Below w.heap.size w w' := by
  have hls : l.length ≤ 4294967296 := by have := hn.out; omega
  have HLS := Lib.hid hls
  clear hls
  obtain ⟨k, rfl⟩ : ∃ k, n = k + 1 := by
    obtain ⟨l0, e⟩ := parse_bad _ _ hq
    have := hn.out
    rw [e] at this
    exact ⟨l0.length, by simpa using this⟩
  have hkl : k < l.length := by have := hn.out; omega
  obtain ⟨gl, ol, rfl, hc0, hc1⟩ := mark_at hl.out (Same.refl _ _) hkl
  have hlast : l[k] = ⟨92, false⟩ := by
    obtain ⟨l0, e⟩ := parse_bad _ _ hq
    have h := hn.out
    rw [e] at h
    simp at h
    simp [e, h]
  rw [hlast] at hc0 hc1
  have HC0 := Lib.hid hc0
  have HC1 := Lib.hid hc1
  have hk1 : ((k + 1 : Nat) : Int) - 1 = k := by omega
  have hk2 : (((k + 1 : Nat) : Int) == 0) = false := by rw [beq_eq_false_iff_ne]; omega
  have hk3 : ((k : Int) + 1) - 1 = k := by omega
  have hk4 : (((k : Int) + 1) == 0) = false := by rw [beq_eq_false_iff_ne]; omega
  clear hc0 hc1 hlast
  have HQ := Lib.hid hq
  have HS := Lib.hid hs
  have hlong : ((k + 1 : Nat) : Int) + (m : Int) ≤ 2147483647 := by omega
  have HLONG := Lib.hid hlong
  clear hq hs
  go_enter Try.func4, Try.ntmps4
  go_wp2_with fail
  refine (works_any _).mono ?_
  rintro e w1 ⟨rfl, hb1'⟩
  have HB1 := Lib.hid hb1'
  clear hb1'
  go_wp2_with fail
  refine (long_no _ _ HLONG.out).mono ?_
  rintro e w2 ⟨rfl, hb2'⟩
  have h12 := HB1.out.trans (hb2'.mono HB1.out.size)
  have HB2 := Lib.hid h12
  clear hb2' HB1 h12
  go_wp2_with fail
  refine (parse_none _ _ _ l _ hn (hl.out.grow' HB2.out) HLS.out HQ.out).mono ?_
  rintro e w3 ⟨rfl, hb3'⟩
  have h13 := HB2.out.trans (hb3'.mono HB2.out.size)
  have HB3 := Lib.hid h13
  have hcc := (h13.cell (p := ⟨gl, ol + k * 2, none⟩) (World.block_lt_of_cell? w _ HC0.out)).trans HC0.out
  have hcd := (h13.cell (p := ⟨gl, ol + k * 2 + 1, none⟩) (World.block_lt_of_cell? w _ HC1.out)).trans HC1.out
  clear hb3' h13
  go_wp2_with fail
  refine (shaped_n _ _ _ ps _ false hm (hp.out.grow' HB3.out) HS.out).mono ?_
  rintro e w4 ⟨rfl, hb4'⟩
  have h14 := HB3.out.trans (hb4'.mono HB3.out.size)
  have HB4 := Lib.hid h14
  clear hb4' h14
  go_wp2_with fail
  refine (print_none _ _ _ ps _ hm (hp.out.grow' HB4.out) HS.out).mono ?_
  rintro e w5 ⟨rfl, hb5'⟩
  have h15 := HB4.out.trans (hb5'.mono HB4.out.size)
  have HB5 := Lib.hid h15
  clear hb5' h15
  go_wp2_with fail
  go_ret
  exact ⟨rfl, HB5.out⟩

omit hn1 hn2 hm1 hm2 in
set_option maxRecDepth 100000 in
set_option maxHeartbeats 4000000 in
theorem fillBack_ss (q : List Piece) (hq : parse l = some q) (hs : shaped ps = true) : Calls Try.prog 4 #[.slice L n ca, .slice A m cb] w fun e w' => e = .returned (.bool true) ∧ Below w.heap.size w w' := by
  have HQ := Lib.hid hq
  have HS := Lib.hid hs
  have hlong : (n : Int) + (m : Int) ≤ 2147483647 := by omega
  have HLONG := Lib.hid hlong
  have hls : l.length ≤ 4294967296 := by have := hn.out; omega
  have HLS := Lib.hid hls
  clear hls
  clear hq hs
  go_enter Try.func4, Try.ntmps4
  go_wp2_with fail
  refine (works_any _).mono ?_
  rintro e w1 ⟨rfl, hb1'⟩
  have HB1 := Lib.hid hb1'
  clear hb1'
  go_wp2_with fail
  refine (long_no _ _ HLONG.out).mono ?_
  rintro e w2 ⟨rfl, hb2'⟩
  have h12 := HB1.out.trans (hb2'.mono HB1.out.size)
  have HB2 := Lib.hid h12
  clear hb2' HB1 h12
  go_wp2_with fail
  refine (parse_some _ _ _ l q _ hn (hl.out.grow' HB2.out) HLS.out HQ.out).mono ?_
  rintro e w3 ⟨Aq, nq, cq, rfl, hnq, hq1, hq2, hsq, hb3'⟩
  have h13 := HB2.out.trans (hb3'.mono HB2.out.size)
  have HB3' := Lib.hid h13
  have HSQ := Lib.hid hsq
  clear hb3' h13 hsq
  go_wp2_with fail
  refine (back_any _ _ _ q _ hnq HSQ.out (shaped_parse _ _ HQ.out) (by have h1 := parse_wt _ _ _ HQ.out; have h2 := hn.out; have h3 : wt [] = 0 := rfl; omega)).mono ?_
  rintro e w3b ⟨rfl, hb3'⟩
  have h13 := HB3'.out.trans (hb3'.mono HB3'.out.size)
  have HB3 := Lib.hid h13
  clear hb3' h13 HB3'
  go_wp2_with fail
  refine (shaped_n _ _ _ ps _ true hm (hp.out.grow' HB3.out) HS.out).mono ?_
  rintro e w4 ⟨rfl, hb4'⟩
  have h14 := HB3.out.trans (hb4'.mono HB3.out.size)
  have HB4 := Lib.hid h14
  clear hb4' h14
  go_wp2_with fail
  refine (back_any _ _ _ ps _ hm (hp.out.grow' HB4.out) HS.out (by have := hw.out; omega)).mono ?_
  rintro e w5 ⟨rfl, hb5'⟩
  have h15 := HB4.out.trans (hb5'.mono HB4.out.size)
  have HB5 := Lib.hid h15
  clear hb5' h15
  go_wp2_with fail
  go_ret
  exact ⟨rfl, HB5.out⟩

omit hw hn1 hn2 hm1 hm2 in
set_option maxRecDepth 100000 in
set_option maxHeartbeats 4000000 in
theorem fillBack_su (q : List Piece) (hq : parse l = some q) (hs : shaped ps = false) : Calls Try.prog 4 #[.slice L n ca, .slice A m cb] w fun e w' => e = .returned (.bool true) ∧ Below w.heap.size w w' := by
  have HQ := Lib.hid hq
  have HS := Lib.hid hs
  have hlong : (n : Int) + (m : Int) ≤ 2147483647 := by omega
  have HLONG := Lib.hid hlong
  have hls : l.length ≤ 4294967296 := by have := hn.out; omega
  have HLS := Lib.hid hls
  clear hls
  clear hq hs
  go_enter Try.func4, Try.ntmps4
  go_wp2_with fail
  refine (works_any _).mono ?_
  rintro e w1 ⟨rfl, hb1'⟩
  have HB1 := Lib.hid hb1'
  clear hb1'
  go_wp2_with fail
  refine (long_no _ _ HLONG.out).mono ?_
  rintro e w2 ⟨rfl, hb2'⟩
  have h12 := HB1.out.trans (hb2'.mono HB1.out.size)
  have HB2 := Lib.hid h12
  clear hb2' HB1 h12
  go_wp2_with fail
  refine (parse_some _ _ _ l q _ hn (hl.out.grow' HB2.out) HLS.out HQ.out).mono ?_
  rintro e w3 ⟨Aq, nq, cq, rfl, hnq, hq1, hq2, hsq, hb3'⟩
  have h13 := HB2.out.trans (hb3'.mono HB2.out.size)
  have HB3' := Lib.hid h13
  have HSQ := Lib.hid hsq
  clear hb3' h13 hsq
  go_wp2_with fail
  refine (back_any _ _ _ q _ hnq HSQ.out (shaped_parse _ _ HQ.out) (by have h1 := parse_wt _ _ _ HQ.out; have h2 := hn.out; have h3 : wt [] = 0 := rfl; omega)).mono ?_
  rintro e w3b ⟨rfl, hb3'⟩
  have h13 := HB3'.out.trans (hb3'.mono HB3'.out.size)
  have HB3 := Lib.hid h13
  clear hb3' h13 HB3'
  go_wp2_with fail
  refine (shaped_n _ _ _ ps _ false hm (hp.out.grow' HB3.out) HS.out).mono ?_
  rintro e w4 ⟨rfl, hb4'⟩
  have h14 := HB3.out.trans (hb4'.mono HB3.out.size)
  have HB4 := Lib.hid h14
  clear hb4' h14
  go_wp2_with fail
  refine (print_none _ _ _ ps _ hm (hp.out.grow' HB4.out) HS.out).mono ?_
  rintro e w5 ⟨rfl, hb5'⟩
  have h15 := HB4.out.trans (hb5'.mono HB4.out.size)
  have HB5 := Lib.hid h15
  clear hb5' h15
  go_wp2_with fail
  go_ret
  exact ⟨rfl, HB5.out⟩
end
end Go.Proofs.Ytebbilkkacbfjaa
