/- Texts that lead to the claim, one behind the other: How many addresses a command may have; whether it writes; whether an address may be one: the walks of parse.Most, resolve.writes, parse.right. No conditions. -/
import Derived.Test.YtnpideapdjomgaaDoorRA15
import Derived.Test.YtnpideapdjomgaaDoorRA21
import Derived.Test.YtnpideapdjomgaaDoorShelf
import Derived.Deep.DeepMust
namespace Go.Proofs.YtnpideapdjomgaaDoor
open Go.RowKit Go.ChangeShapes Go.WideShapes Go.Deep

set_option maxRecDepth 100000 in
set_option maxHeartbeats 4000000 in
theorem most_any (x : UInt8) (w : World) : Calls Tryd.prog 29 #[.int .u8 x.toNat] w fun e w' => e = .returned (.int .i64 (Cmd.most x)) ∧ w = w' := by
  have hx : ((x.toNat : Int)).toNat.toUInt8 = x := by simp
  have k : ∀ (s : ByteArray) W, Calls Tryd.prog 45 #[.string s, .int .u8 x.toNat] W fun e w' => e = .returned (.int .i64 (Lib.indexByte s.data.toList x)) ∧ w' = W := fun s W => (Tryd.strings_IndexByte s _ W).mono fun e w' h => ⟨by rw [h.1, hx], h.2⟩
  have HK := Lib.hid k
  obtain ⟨i1, h1⟩ : ∃ i1, i1 = Lib.indexByte [125, 58] x := ⟨_, rfl⟩
  obtain ⟨i2, h2⟩ : ∃ i2, i2 = Lib.indexByte [61, 97, 105, 113, 114] x := ⟨_, rfl⟩
  obtain ⟨i3, h3⟩ : ∃ i3, i3 = Lib.indexByte [123, 98, 99, 100, 68, 103, 71, 104, 72, 108, 110, 78, 112, 80, 115, 116, 119, 120, 121] x := ⟨_, rfl⟩
  have K1 : Hid (∀ W, Calls Tryd.prog 45 #[.string ⟨#[125, 58]⟩, .int .u8 x.toNat] W fun e w' => e = .returned (.int .i64 i1) ∧ W = w') := Lib.hid fun W => (k ⟨#[125, 58]⟩ W).mono fun e w' h => ⟨by rw [h.1, h1], h.2.symm⟩
  have K2 : Hid (∀ W, Calls Tryd.prog 45 #[.string ⟨#[61, 97, 105, 113, 114]⟩, .int .u8 x.toNat] W fun e w' => e = .returned (.int .i64 i2) ∧ W = w') := Lib.hid fun W => (k ⟨#[61, 97, 105, 113, 114]⟩ W).mono fun e w' h => ⟨by rw [h.1, h2], h.2.symm⟩
  have K3 : Hid (∀ W, Calls Tryd.prog 45 #[.string ⟨#[123, 98, 99, 100, 68, 103, 71, 104, 72, 108, 110, 78, 112, 80, 115, 116, 119, 120, 121]⟩, .int .u8 x.toNat] W fun e w' => e = .returned (.int .i64 i3) ∧ W = w') := Lib.hid fun W => (k ⟨#[123, 98, 99, 100, 68, 103, 71, 104, 72, 108, 110, 78, 112, 80, 115, 116, 119, 120, 121]⟩ W).mono fun e w' h => ⟨by rw [h.1, h3], h.2.symm⟩
  have HM : Hid (Cmd.most x = if decide (0 ≤ i1) then 0 else if decide (0 ≤ i2) then 1 else if decide (0 ≤ i3) then 2 else -1) := Lib.hid (by rw [h1, h2, h3, idx_contains, idx_contains, idx_contains]; rfl)
  clear h1 h2 h3 k hx
  go_enter Tryd.func29, Tryd.ntmps29
  by_cases b1 : 0 ≤ i1
  · have c1 : Hid (decide (0 ≤ i1) = true) := Lib.hid (by simpa using b1)
    go_wp2_with (first | (go_at_call 45; refine (K1.out _).mono ?_; rintro e w2 ⟨rfl, rfl⟩) | fail)
    go_ret
    exact ⟨by rw [HM.out, c1.out]; rfl, rfl⟩
  have c1 : Hid (decide (0 ≤ i1) = false) := Lib.hid (by simpa using b1)
  by_cases b2 : 0 ≤ i2
  · have c2 : Hid (decide (0 ≤ i2) = true) := Lib.hid (by simpa using b2)
    go_wp2_with (go_at_call 45; refine (K1.out _).mono ?_; rintro e w2 ⟨rfl, rfl⟩)
    go_wp2_with (go_at_call 45; refine (K2.out _).mono ?_; rintro e w2 ⟨rfl, rfl⟩)
    go_ret
    exact ⟨by rw [HM.out, c1.out, c2.out]; rfl, rfl⟩
  have c2 : Hid (decide (0 ≤ i2) = false) := Lib.hid (by simpa using b2)
  by_cases b3 : 0 ≤ i3
  · have c3 : Hid (decide (0 ≤ i3) = true) := Lib.hid (by simpa using b3)
    go_wp2_with (go_at_call 45; refine (K1.out _).mono ?_; rintro e w2 ⟨rfl, rfl⟩)
    go_wp2_with (go_at_call 45; refine (K2.out _).mono ?_; rintro e w2 ⟨rfl, rfl⟩)
    go_wp2_with (go_at_call 45; refine (K3.out _).mono ?_; rintro e w2 ⟨rfl, rfl⟩)
    go_ret
    exact ⟨by rw [HM.out, c1.out, c2.out, c3.out]; rfl, rfl⟩
  have c3 : Hid (decide (0 ≤ i3) = false) := Lib.hid (by simpa using b3)
  go_wp2_with (go_at_call 45; refine (K1.out _).mono ?_; rintro e w2 ⟨rfl, rfl⟩)
  go_wp2_with (go_at_call 45; refine (K2.out _).mono ?_; rintro e w2 ⟨rfl, rfl⟩)
  go_wp2_with (go_at_call 45; refine (K3.out _).mono ?_; rintro e w2 ⟨rfl, rfl⟩)
  go_ret
  exact ⟨by rw [HM.out, c1.out, c2.out, c3.out]; rfl, rfl⟩
end Go.Proofs.YtnpideapdjomgaaDoor
