/- Texts that lead to the claim, one behind the other: Whether a command writes; whether an address may be one: the walks of resolve.writes and parse.right. No conditions. -/
import Derived.Test.YtnpideapdjomgaaDoorRA15
import Derived.Test.YtnpideapdjomgaaDoorRA21
import Derived.Deep.DeepMust
namespace Go.Proofs.YtnpideapdjomgaaDoor
open Go.RowKit Go.ChangeShapes Go.WideShapes Go.Deep

def writesB (c : Cm) : Bool := c.name == 119 || (c.name == 115 && c.write)
theorem u8_eq (x : UInt8) (k : Nat) (hk : k < 256) : ((x.toNat : Int) == (k : Int)) = (x == UInt8.ofNat k) := by
  rw [Bool.eq_iff_iff, beq_iff_eq, beq_iff_eq]
  constructor
  · intro h
    apply UInt8.toNat_inj.1
    have : x.toNat = k := by omega
    rw [this, UInt8.toNat_ofNat_of_lt' hk]
  · rintro rfl
    rw [UInt8.toNat_ofNat_of_lt' hk]
set_option maxRecDepth 100000 in
set_option maxHeartbeats 4000000 in
theorem writes_any {X : Array Value} {c : Cm} {s : CmS} (HX : Hid (CmX X c s)) (w : World) : Calls Tryd.prog 20 #[.agg X] w fun e w' => e = .returned (.bool (writesB c)) ∧ Below w.heap.size w w' := by
  obtain ⟨w1, hw1⟩ : ∃ w1, w1 = w.alloc (.cells X 44) := ⟨_, rfl⟩
  have hb1 : Below w.heap.size w w1 := by rw [hw1]; exact Below.alloc (Below.refl _ _) (Nat.le_refl _) _
  have hk1 : w1.heap[w.heap.size]? = some (.cells X 44 (0, 0)) := by rw [hw1]; exact heap_alloc_new _ _
  have x7 : w1.cell? ⟨w.heap.size, 7, none⟩ = some (.int .u8 c.name.toNat) := (cm_cell hk1 HX.out (by omega)).trans rfl
  have x15 : w1.cell? ⟨w.heap.size, 15, none⟩ = some (.bool c.write) := (cm_cell hk1 HX.out (by omega)).trans rfl
  have HB1 := Lib.hid hb1
  have HW1 := Lib.hid hw1
  obtain ⟨nm, hnm⟩ : ∃ nm, nm = c.name := ⟨_, rfl⟩
  obtain ⟨wr, hwr⟩ : ∃ wr, wr = c.write := ⟨_, rfl⟩
  have HR : Hid (writesB c = (((nm.toNat : Int) == 119) || (((nm.toNat : Int) == 115) && wr))) := Lib.hid (by rw [hnm, hwr]; show _ = (((c.name.toNat : Int) == ((119 : Nat) : Int)) || (((c.name.toNat : Int) == ((115 : Nat) : Int)) && c.write)); rw [u8_eq _ 119 (by omega), u8_eq _ 115 (by omega)]; rfl)
  rw [← hnm] at x7
  rw [← hwr] at x15
  clear hb1 hw1 hk1 hnm hwr
  go_enter Tryd.func20, Tryd.ntmps20
  go_upto_region 1 with fail
  rw [← HW1.out]
  cases h1 : ((nm.toNat : Int) == 119)
  · cases h2 : ((nm.toNat : Int) == 115)
    · go_wp2_with fail
      go_ret
      exact ⟨by rw [HR.out, h1, h2]; rfl, HB1.out⟩
    · go_wp2_with fail
      go_ret
      exact ⟨by rw [HR.out, h1, h2]; simp, HB1.out⟩
  · go_wp2_with fail
    go_ret
    exact ⟨by rw [HR.out, h1]; rfl, HB1.out⟩

set_option maxRecDepth 100000 in
set_option maxHeartbeats 4000000 in
theorem right_ad {k n : Int} {A : Option Addr} {m c : Nat} {re : List Nd} {w : World} {S : Blocks} (hm : Hid (m = re.length)) (HR : Hid (SliceAt Rep.nd w S A c re)) (HS : Hid (∀ b, S b → b < w.heap.size)) :
    Calls Tryd.prog 30 #[.agg #[.int .i8 k, .int .i64 n, .slice A m c]] w fun e w' => e = .returned (.bool (Cmd.right ⟨k, n, re⟩)) ∧ Below w.heap.size w w' := by
  have hnc : m ≤ c := by rw [hm.out]; exact HR.out.len
  have hcm := HR.out.max
  obtain ⟨w1, hw1⟩ : ∃ w1, w1 = w.alloc (.cells #[.int .i8 k, .int .i64 n, .slice A m c] 38) := ⟨_, rfl⟩
  have hb1 : Below w.heap.size w w1 := by rw [hw1]; exact Below.alloc (Below.refl _ _) (Nat.le_refl _) _
  have hk1 : w1.heap[w.heap.size]? = some (.cells #[.int .i8 k, .int .i64 n, .slice A m c] 38 (0, 0)) := by rw [hw1]; exact heap_alloc_new _ _
  have x0 : w1.cell? ⟨w.heap.size, 0, none⟩ = some (.int .i8 k) := (cell_of_row w1 _ 0 _ _ (0, 0) hk1).trans rfl
  have x1 : w1.cell? ⟨w.heap.size, 1, none⟩ = some (.int .i64 n) := (cell_of_row w1 _ 1 _ _ (0, 0) hk1).trans rfl
  have x2 : w1.cell? ⟨w.heap.size, 2, none⟩ = some (.slice A m c) := (cell_of_row w1 _ 2 _ _ (0, 0) hk1).trans rfl
  have HR1 : Hid (SliceAt Rep.nd w1 S A c re) := Lib.hid (HR.out.keep (fun _ h => h) (Same.of_below hb1 HS.out))
  have HSH := Lib.hid (synShaped_any hm HR1 (Lib.hid fun b hb => Nat.lt_of_lt_of_le (HS.out b hb) hb1.size))
  obtain ⟨sh, hsh⟩ : ∃ sh, sh = Syn.shaped re := ⟨_, rfl⟩
  rw [← hsh] at HSH
  have HB1 := Lib.hid hb1
  have HW1 := Lib.hid hw1
  have HE : Hid (re.isEmpty = ((m : Int) == 0)) := Lib.hid (by
    rw [hm.out]
    cases re with
    | nil => rfl
    | cons a l => rw [List.isEmpty_cons, eq_comm, beq_eq_false_iff_ne, List.length_cons]; omega)
  have HF : Hid (Cmd.right ⟨k, n, re⟩ = if k == 0 || k == 2 then (n == 0 && ((m : Int) == 0)) else if k == 1 then (decide (1 ≤ n) && decide (n ≤ 2147483647) && ((m : Int) == 0)) else if k == 3 then (n == 0 && (((m : Int) == 0) || sh)) else false) := Lib.hid (by rw [hsh, ← HE.out]; rfl)
  clear hb1 hw1 hk1 hsh
  have HX0 := Lib.hid x0
  go_enter Tryd.func30, Tryd.ntmps30
  go_upto_region 1 with fail
  rw [← HW1.out]
  by_cases k0 : k = 0
  · subst k0
    cases hn0 : (n == 0)
    · go_wp2_with fail
      go_ret
      exact ⟨by rw [HF.out, hn0]; rfl, HB1.out⟩
    · go_wp2_with fail
      go_ret
      exact ⟨by rw [HF.out, hn0]; simp, HB1.out⟩
  by_cases k2 : k = 2
  · subst k2
    cases hn0 : (n == 0)
    · go_wp2_with fail
      go_ret
      exact ⟨by rw [HF.out, hn0]; rfl, HB1.out⟩
    · go_wp2_with fail
      go_ret
      exact ⟨by rw [HF.out, hn0]; simp, HB1.out⟩
  by_cases k1 : k = 1
  · subst k1
    cases hn1 : decide (1 ≤ n)
    · go_wp2_with fail
      go_ret
      exact ⟨by rw [HF.out, hn1]; rfl, HB1.out⟩
    · cases hn2 : decide (n ≤ 2147483647)
      · go_wp2_with fail
        go_ret
        exact ⟨by rw [HF.out, hn1, hn2]; rfl, HB1.out⟩
      · go_wp2_with fail
        go_ret
        exact ⟨by rw [HF.out, hn1, hn2]; simp, HB1.out⟩
  by_cases k3 : k = 3
  · subst k3
    cases hn0 : (n == 0)
    · go_wp2_with fail
      go_ret
      exact ⟨by rw [HF.out, hn0]; rfl, HB1.out⟩
    · cases hm0 : ((m : Int) == 0)
      · go_wp2_with (go_at_call 32; refine HSH.out.mono ?_; rintro e w3 ⟨rfl, hb3⟩; have HB3 := Lib.hid hb3; clear hb3)
        go_ret
        exact ⟨by rw [HF.out, hn0, hm0]; simp, HB1.out.trans (HB3.out.mono HB1.out.size)⟩
      · go_wp2_with fail
        go_ret
        exact ⟨by rw [HF.out, hn0, hm0]; rfl, HB1.out⟩
  have e0 : (k == 0) = false := by simpa using k0
  have e1 : (k == 1) = false := by simpa using k1
  have e2 : (k == 2) = false := by simpa using k2
  have e3 : (k == 3) = false := by simpa using k3
  go_wp2_with fail
  go_ret
  exact ⟨by rw [HF.out, e0, e1, e2, e3]; rfl, HB1.out⟩
end Go.Proofs.YtnpideapdjomgaaDoor
