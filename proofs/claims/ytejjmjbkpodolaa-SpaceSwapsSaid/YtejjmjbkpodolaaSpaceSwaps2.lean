/- The walk of the law SpaceSwaps, all its ways. Condition: room. -/
import Derived.Test.YtejjmjbkpodolaaSpaceSwaps
namespace Go.Proofs.Ytejjmjbkpodolaa
open Go.RowKit Go.ChangeShapes Go.WideShapes Go.Deep

set_option maxRecDepth 100000 in
set_option maxHeartbeats 4000000 in
theorem spaceSwaps_any (w : World) (A B : Option Addr) (n c k d : Nat) (most : Int) (p h : List UInt8) (HP0 : Hid (SliceAt Rep.byte w (under w.heap.size) A c p)) (HH0 : Hid (SliceAt Rep.byte w (under w.heap.size) B d h)) (hn : Hid (n = p.length)) (hk : Hid (k = h.length)) (hnb : n ≤ 140737488355328) (hkb : k ≤ 140737488355328) :
    Calls Try.prog 3 #[.int .i64 most, .slice A n c, .slice B k d] w fun e w' => e = .returned (.bool true) ∧ Below w.heap.size w w' := by
  have hnc := HP0.out.len
  have hcm := HP0.out.max
  rw [← hn.out] at hnc
  have hkd := HH0.out.len
  have hdm := HH0.out.max
  rw [← hk.out] at hkd
  by_cases hbig : 16777216 < n + k
  · have d1 : decide ((16777216 : Int) < (n : Int) + (k : Int)) = true := decide_eq_true (by omega)
    go_enter Try.func3, Try.ntmps3
    go_wp2_with fail
    refine (works25_any w).mono ?_
    rintro e w1 ⟨rfl, hb1⟩
    have HB1 := Lib.hid hb1
    clear hb1
    go_wp2_with fail
    go_ret
    exact ⟨rfl, HB1.out⟩
  have d1 : decide ((16777216 : Int) < (n : Int) + (k : Int)) = false := decide_eq_false (by omega)
  by_cases hno : most < 0 ∨ 1048576 < most
  · go_enter Try.func3, Try.ntmps3
    go_wp2_with fail
    refine (works25_any w).mono ?_
    rintro e w1 ⟨rfl, hb1⟩
    have HB1 := Lib.hid hb1
    clear hb1
    go_wp2_with fail
    refine (new_no w1 most hno).mono ?_
    rintro e w2 ⟨rfl, rfl⟩
    go_wp2_with fail
    go_ret
    exact ⟨rfl, HB1.out⟩
  obtain ⟨m, rfl⟩ := Int.eq_ofNat_of_zero_le (a := most) (by omega)
  have hm : m ≤ 1048576 := by omega
  clear hno
  by_cases h1 : m < n
  · have d2 : decide ((m : Int) < (n : Int)) = true := decide_eq_true (by omega)
    go_enter Try.func3, Try.ntmps3
    go_wp2_with fail
    refine (works25_any w).mono ?_
    rintro e w1 ⟨rfl, hb1⟩
    have HB1 := Lib.hid hb1
    clear hb1
    go_wp2_with fail
    refine (xnew w1 m hm).mono ?_
    rintro e w2 ⟨g, rfl, hg, HS, HB2⟩
    go_wp2_with fail
    go_ret
    exact ⟨rfl, bfar HB1.out HB2.out⟩
  by_cases h2 : m < k
  · have d2 : decide ((m : Int) < (n : Int)) = false := decide_eq_false (by omega)
    have d3 : decide ((m : Int) < (k : Int)) = true := decide_eq_true (by omega)
    go_enter Try.func3, Try.ntmps3
    go_wp2_with fail
    refine (works25_any w).mono ?_
    rintro e w1 ⟨rfl, hb1⟩
    have HB1 := Lib.hid hb1
    clear hb1
    go_wp2_with fail
    refine (xnew w1 m hm).mono ?_
    rintro e w2 ⟨g, rfl, hg, HS, HB2⟩
    go_wp2_with fail
    go_ret
    exact ⟨rfl, bfar HB1.out HB2.out⟩
  by_cases h3 : n + 1 + k ≤ m
  · exact swaps_yes w A B n c k d m p h HP0 HH0 hn hk (by omega) (by omega) hm h3
  · exact swaps_no w A B n c k d m p h HP0 HH0 hn hk (by omega) (by omega) hm (by omega)
end Go.Proofs.Ytejjmjbkpodolaa
