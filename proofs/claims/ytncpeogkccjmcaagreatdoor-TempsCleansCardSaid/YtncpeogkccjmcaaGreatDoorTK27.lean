/- Texts that lead to the claim, one behind the other: temps.Is, temps.Name: the walks. No conditions. -/
import Derived.Test.YtncpeogkccjmcaaGreatDoorTK11
import Derived.Test.YtncpeogkccjmcaaGreatDoorTK22
namespace Go.Proofs.YtncpeogkccjmcaaGreatDoor
open Go.RowKit Go.ChangeShapes Go.WideShapes Go.Deep

namespace Disk
theorem isTmp_long {l : Nm} : isTmp l = (l.take 8 == tmpPre) := by
  rw [Bool.eq_iff_iff]
  unfold isTmp
  rw [List.isPrefixOf_iff_prefix, beq_iff_eq, List.prefix_iff_eq_take]
  exact ⟨fun h => h.symm, fun h => h.symm⟩
theorem isTmp_short {l : Nm} (h : l.length < 8) : isTmp l = false := by
  rw [isTmp_long, beq_eq_false_iff_ne]
  intro e
  have := congrArg List.length e
  rw [List.length_take] at this
  simp [tmpPre] at this
  omega
end Disk
def baT (l : List UInt8) : ByteArray := ⟨l.toArray⟩
theorem toL (s : ByteArray) : s.toList = s.data.toList := by rw [ByteArray.toList_eq]
theorem tmp_cut (s : ByteArray) : ((s.extract 0 8).toList == [46, 103, 97, 108, 108, 101, 121, 45]) = Disk.isTmp s.data.toList := by
  rw [toL, ByteArray.data_extract, Array.toList_extract, List.extract_eq_take_drop, List.drop_zero, Disk.isTmp_long]
  rfl
set_option maxRecDepth 100000 in
theorem is_any (s : ByteArray) (w : World) : Calls Tryz.prog 32 #[.string s] w fun e w' => e = .returned (.bool (Disk.isTmp s.data.toList)) ∧ w = w' := by
  by_cases h : 8 ≤ s.size
  · have e1 : decide ((8 : Int) ≤ (s.size : Int)) = true := decide_eq_true (by omega)
    have hc := tmp_cut s
    obtain ⟨q, hq⟩ : ∃ q, Disk.isTmp s.data.toList = q := ⟨_, rfl⟩
    rw [hq] at hc ⊢
    clear hq
    go_enter Tryz.func32, Tryz.ntmps32
    go_wp2_with fail
    go_ret
    exact ⟨rfl, rfl⟩
  · have e1 : decide ((8 : Int) ≤ (s.size : Int)) = false := decide_eq_false (by omega)
    rw [Disk.isTmp_short (by rw [show s.data.toList.length = s.size from Array.length_toList]; omega)]
    go_enter Tryz.func32, Tryz.ntmps32
    go_wp2_with fail
    go_ret
    exact ⟨rfl, rfl⟩
theorem pre_add (s : ByteArray) : (⟨#[46, 103, 97, 108, 108, 101, 121, 45]⟩ : ByteArray) ++ s = baT (Disk.tmpPre ++ s.data.toList) := by
  apply ByteArray.ext
  apply Array.ext'
  simp [baT, Disk.tmpPre]
/-- What Name answers. -/
def NameAns (l : Disk.Nm) (e : Ending) : Prop := e = .returned (.tuple #[.string (baT (Disk.tmpOf l)), .bool (Disk.hasTmp l)])
theorem ans_no {l : Disk.Nm} (h : Disk.hasTmp l = false) : NameAns l (.returned (.tuple #[.string ⟨#[]⟩, .bool false])) := by
  unfold NameAns Disk.tmpOf
  rw [h]; rfl
theorem ans_yes {s : ByteArray} (h : Disk.hasTmp s.data.toList = true) : NameAns s.data.toList (.returned (.tuple #[.string ((⟨#[46, 103, 97, 108, 108, 101, 121, 45]⟩ : ByteArray) ++ s), .bool true])) := by
  unfold NameAns Disk.tmpOf
  rw [h, pre_add]; rfl
section
variable (s : ByteArray) (w : World)
set_option maxRecDepth 100000 in
theorem tname_any : Calls Tryz.prog 31 #[.string s] w fun e w' => NameAns s.data.toList e ∧ Below w.heap.size w w' := by
  have hl : s.data.toList.length = s.size := Array.length_toList
  have HL := Lib.hid hl
  clear hl
  obtain ⟨q0, hq0⟩ : ∃ q, s.toList.isEmpty = q := ⟨_, rfl⟩
  cases q0
  case true =>
    have h0 : s.data.toList = [] := by rw [← toL]; exact List.isEmpty_iff.1 hq0
    have HA := Lib.hid (ans_no (l := s.data.toList) (by rw [h0]; rfl))
    clear h0
    go_enter Tryz.func31, Tryz.ntmps31
    go_wp2_with fail
    go_ret2
    exact ⟨HA.out, Below.refl _ _⟩
  by_cases h2 : s.size ≤ 56
  · obtain ⟨q, hq⟩ : ∃ q, (s.data.toList.any fun b => b == 0 || b == 10 || b == 47) = q := ⟨_, rfl⟩
    have HQ := Lib.hid hq
    obtain ⟨t, ht⟩ : ∃ t, Disk.isTmp s.data.toList = t := ⟨_, rfl⟩
    have HT := Lib.hid ht
    have hok : Disk.hasTmp s.data.toList = (!q && !t) := by
      have h1 : 1 ≤ s.size := by
        rcases Nat.eq_zero_or_pos s.size with h | h
        · have : s.data.toList = [] := List.eq_nil_of_length_eq_zero (by rw [HL.out]; exact h)
          rw [toL, this] at hq0
          cases hq0
        · exact h
      unfold Disk.hasTmp Disk.isName
      rw [hq, ht, HL.out, decide_eq_true h1, decide_eq_true h2, decide_eq_true (show s.size ≤ 64 by omega)]
      cases q <;> cases t <;> rfl
    have HOK := Lib.hid hok
    clear hq ht hok
    go_enter Tryz.func31, Tryz.ntmps31
    cases q
    case true =>
      have HA := Lib.hid (ans_no (l := s.data.toList) (by rw [HOK.out]; rfl))
      go_wp2_with (go_at_call 82; refine (containsAny_all s _ (by omega)).mono ?_; rintro e w2 ⟨rfl, hb2⟩; have HBB := Lib.hid hb2; clear hb2; rw [HQ.out])
      go_ret2
      exact ⟨HA.out, HBB.out⟩
    case false =>
      cases t
      case true =>
        have HA := Lib.hid (ans_no (l := s.data.toList) (by rw [HOK.out]; rfl))
        go_wp2_with (first
          | (go_at_call 82; refine (containsAny_all s _ (by omega)).mono ?_; rintro e w2 ⟨rfl, hb2⟩; have HBB := Lib.hid hb2; clear hb2; rw [HQ.out])
          | (go_at_call 32; refine (is_any s _).mono ?_; rintro e w3 ⟨rfl, rfl⟩; rw [HT.out]))
        go_ret2
        exact ⟨HA.out, HBB.out⟩
      case false =>
        have HA := Lib.hid (ans_yes (s := s) (by rw [HOK.out]; rfl))
        go_wp2_with (first
          | (go_at_call 82; refine (containsAny_all s _ (by omega)).mono ?_; rintro e w2 ⟨rfl, hb2⟩; have HBB := Lib.hid hb2; clear hb2; rw [HQ.out])
          | (go_at_call 32; refine (is_any s _).mono ?_; rintro e w3 ⟨rfl, rfl⟩; rw [HT.out]))
        go_ret2
        exact ⟨HA.out, HBB.out⟩
  · have HA := Lib.hid (ans_no (l := s.data.toList) (by unfold Disk.hasTmp; rw [HL.out, decide_eq_false h2]; simp))
    go_enter Tryz.func31, Tryz.ntmps31
    go_wp2_with fail
    go_ret2
    exact ⟨HA.out, Below.refl _ _⟩
end
end Go.Proofs.YtncpeogkccjmcaaGreatDoor
