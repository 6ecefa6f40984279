/- Texts that lead to the claim, one behind the other: Whether a text may belong to a command: the walk of parse.said. Condition: the library's variables hold what they hold. Printed by gen/saidcm.py. -/
import Derived.Test.YtnpideapdjomgaaDoorRA32
import Derived.Test.YtnpideapdjomgaaDoorRA22
namespace Go.Proofs.YtnpideapdjomgaaDoor
open Go.RowKit Go.Shelf Go.Deep Go.ChangeShapes Go.WideShapes

set_option maxRecDepth 100000 in
set_option maxHeartbeats 8000000 in
theorem said_any {X : Array Value} {c : Cm} {s : CmS} {w : World} {S : Blocks} (HX : Hid (CmX X c s)) (HL : Hid (CmL w S c s)) (HS : Hid (∀ b, S b → b < w.heap.size)) (HE : Hid (Env22 w)) :
    Calls Tryd.prog 31 #[.agg X] w fun e w' => e = .returned (.bool (Cmd.said c)) ∧ Below w.heap.size w w' := by
  obtain ⟨w1, hw1⟩ : ∃ w1, w1 = w.alloc (.cells X 44) := ⟨_, rfl⟩
  have hb1 : Below w.heap.size w w1 := by rw [hw1]; exact Below.alloc (Below.refl _ _) (Nat.le_refl _) _
  have hk1 : w1.heap[w.heap.size]? = some (.cells X 44 (0, 0)) := by rw [hw1]; exact heap_alloc_new _ _
  have x7 : w1.cell? ⟨w.heap.size, 7, none⟩ = some (.int .u8 c.name.toNat) := (cm_cell hk1 HX.out (by omega)).trans rfl
  have x9 : w1.cell? ⟨w.heap.size, 9, none⟩ = some (.slice s.A3 c.text.length s.c3) := (cm_cell hk1 HX.out (by omega)).trans rfl
  have x15 : w1.cell? ⟨w.heap.size, 15, none⟩ = some (.bool c.write) := (cm_cell hk1 HX.out (by omega)).trans rfl
  have HB1 := Lib.hid hb1
  have HW1 := Lib.hid hw1
  obtain ⟨nm, hnm⟩ : ∃ nm, nm = c.name := ⟨_, rfl⟩
  obtain ⟨wr, hwr⟩ : ∃ wr, wr = c.write := ⟨_, rfl⟩
  obtain ⟨n, hn⟩ : ∃ n, n = c.text.length := ⟨_, rfl⟩
  rw [← hnm] at x7
  rw [← hwr] at x15
  rw [← hn] at x9
  have HN := Lib.hid hn
  have HT1 : Hid (SliceAt Rep.byte w1 S s.A3 s.c3 c.text) := Lib.hid (HL.out.text.keep (fun _ h => h) (Same.of_below hb1 HS.out))
  have HS1 : Hid (∀ b, S b → b < w1.heap.size) := Lib.hid fun b hb => Nat.lt_of_lt_of_le (HS.out b hb) hb1.size
  have HE1 : Hid (Env22 w1) := Lib.hid (HE.out.below hb1)
  have hnc : n ≤ s.c3 := by rw [hn]; exact HL.out.text.len
  have hcm := HL.out.text.max
  have HLB := Lib.hid (isLabel_any HN HT1)
  have HFL := Lib.hid (isFile_any HN HT1 HS1 HE1)
  obtain ⟨lb, hlb⟩ : ∃ lb, lb = Cmd.label c.text := ⟨_, rfl⟩
  obtain ⟨fl, hfl⟩ : ∃ fl, fl = Cmd.file c.text := ⟨_, rfl⟩
  rw [← hlb] at HLB
  rw [← hfl] at HFL
  have HEM : Hid (c.text.isEmpty = ((n : Int) == 0)) := Lib.hid (by
    rw [hn]
    cases c.text with
    | nil => rfl
    | cons a l => rw [List.isEmpty_cons, eq_comm, beq_eq_false_iff_ne, List.length_cons]; omega)
  obtain ⟨A3, hA3⟩ : ∃ A3, A3 = s.A3 := ⟨_, rfl⟩
  obtain ⟨c3, hc3⟩ : ∃ c3, c3 = s.c3 := ⟨_, rfl⟩
  rw [← hA3, ← hc3] at x9 HLB HFL
  rw [← hc3] at hnc hcm
  have HF : Hid (Cmd.said c = if nm == 97 || nm == 99 || nm == 105 then true
    else if nm == 98 || nm == 116 then lb
    else if nm == 58 then !((n : Int) == 0) && lb
    else if nm == 114 || nm == 119 then fl
    else if nm == 115 && wr then fl
    else ((n : Int) == 0)) := Lib.hid (by rw [hnm, hwr, hlb, hfl, ← HEM.out]; rfl)
  have e97 : ((nm.toNat : Int) == 97) = (nm == 97) := u8_eq nm 97 (by omega)
  have e99 : ((nm.toNat : Int) == 99) = (nm == 99) := u8_eq nm 99 (by omega)
  have e105 : ((nm.toNat : Int) == 105) = (nm == 105) := u8_eq nm 105 (by omega)
  have e98 : ((nm.toNat : Int) == 98) = (nm == 98) := u8_eq nm 98 (by omega)
  have e116 : ((nm.toNat : Int) == 116) = (nm == 116) := u8_eq nm 116 (by omega)
  have e58 : ((nm.toNat : Int) == 58) = (nm == 58) := u8_eq nm 58 (by omega)
  have e114 : ((nm.toNat : Int) == 114) = (nm == 114) := u8_eq nm 114 (by omega)
  have e119 : ((nm.toNat : Int) == 119) = (nm == 119) := u8_eq nm 119 (by omega)
  have e115 : ((nm.toNat : Int) == 115) = (nm == 115) := u8_eq nm 115 (by omega)
  clear hw1 hb1 hk1 hnm hwr hn hlb hfl hA3 hc3
  go_enter Tryd.func31, Tryd.ntmps31
  go_upto_region 1 with fail
  rw [← HW1.out]
  cases h97 : (nm == 97) <;> rw [h97] at e97
  case true =>
    go_wp2_with fail
    go_ret
    exact ⟨by rw [HF.out, h97]; first | rfl | simp, HB1.out⟩
  cases h99 : (nm == 99) <;> rw [h99] at e99
  case true =>
    go_wp2_with fail
    go_ret
    exact ⟨by rw [HF.out, h97, h99]; first | rfl | simp, HB1.out⟩
  cases h105 : (nm == 105) <;> rw [h105] at e105
  case true =>
    go_wp2_with fail
    go_ret
    exact ⟨by rw [HF.out, h97, h99, h105]; first | rfl | simp, HB1.out⟩
  cases h98 : (nm == 98) <;> rw [h98] at e98
  case true =>
    go_wp2_with (go_at_call 46; refine HLB.out.mono ?_; rintro _ w3 ⟨rfl, hb3⟩; have HB3 := Lib.hid hb3; clear hb3)
    go_ret
    exact ⟨by rw [HF.out, h97, h99, h105, h98]; first | rfl | simp, HB1.out.trans (HB3.out.mono HB1.out.size)⟩
  cases h116 : (nm == 116) <;> rw [h116] at e116
  case true =>
    go_wp2_with (go_at_call 46; refine HLB.out.mono ?_; rintro _ w3 ⟨rfl, hb3⟩; have HB3 := Lib.hid hb3; clear hb3)
    go_ret
    exact ⟨by rw [HF.out, h97, h99, h105, h98, h116]; first | rfl | simp, HB1.out.trans (HB3.out.mono HB1.out.size)⟩
  cases h58 : (nm == 58) <;> rw [h58] at e58
  case true =>
    by_cases hn0 : n = 0
    · subst hn0
      have hz : Hid ((((0 : Nat) : Int) == 0) = true) := Lib.hid rfl
      go_wp2_with fail
      go_ret
      exact ⟨by rw [HF.out, h97, h99, h105, h98, h116, h58, hz.out]; first | rfl | simp, HB1.out⟩
    · have hg : decide ((0 : Int) < (n : Int)) = true := by simp; omega
      have hg0 : 0 < n := by omega
      have hz : Hid (((n : Int) == 0) = false) := Lib.hid (by rw [beq_eq_false_iff_ne]; omega)
      clear hn0
      go_wp2_with (go_at_call 46; refine HLB.out.mono ?_; rintro _ w3 ⟨rfl, hb3⟩; have HB3 := Lib.hid hb3; clear hb3)
      go_ret
      exact ⟨by rw [HF.out, h97, h99, h105, h98, h116, h58, hz.out]; first | rfl | simp, HB1.out.trans (HB3.out.mono HB1.out.size)⟩
  cases h114 : (nm == 114) <;> rw [h114] at e114
  case true =>
    go_wp2_with (go_at_call 47; refine HFL.out.mono ?_; rintro _ w3 ⟨rfl, hb3⟩; have HB3 := Lib.hid hb3; clear hb3)
    go_ret
    exact ⟨by rw [HF.out, h97, h99, h105, h98, h116, h58, h114]; first | rfl | simp, HB1.out.trans (HB3.out.mono HB1.out.size)⟩
  cases h119 : (nm == 119) <;> rw [h119] at e119
  case true =>
    go_wp2_with (go_at_call 47; refine HFL.out.mono ?_; rintro _ w3 ⟨rfl, hb3⟩; have HB3 := Lib.hid hb3; clear hb3)
    go_ret
    exact ⟨by rw [HF.out, h97, h99, h105, h98, h116, h58, h114, h119]; first | rfl | simp, HB1.out.trans (HB3.out.mono HB1.out.size)⟩
  cases h115 : (nm == 115) <;> rw [h115] at e115
  case true =>
    cases wr
    · go_wp2_with fail
      go_ret
      exact ⟨by rw [HF.out, h97, h99, h105, h98, h116, h58, h114, h119, h115]; first | rfl | simp, HB1.out⟩
    · go_wp2_with (go_at_call 47; refine HFL.out.mono ?_; rintro _ w3 ⟨rfl, hb3⟩; have HB3 := Lib.hid hb3; clear hb3)
      go_ret
      exact ⟨by rw [HF.out, h97, h99, h105, h98, h116, h58, h114, h119, h115]; first | rfl | simp, HB1.out.trans (HB3.out.mono HB1.out.size)⟩
  go_wp2_with fail
  go_ret
  exact ⟨by rw [HF.out, h97, h99, h105, h98, h116, h58, h114, h119, h115]; first | rfl | simp, HB1.out⟩
end Go.Proofs.YtnpideapdjomgaaDoor
