/- Texts that lead to the claim, one behind the other: May a file stand under it? The walk of galleyref03.Name. No conditions. -/
import Derived.Test.YtncpeogkccjmcaaTR33
namespace Go.Proofs.Ytncpeogkccjmcaa
open Go.RowKit Go.ChangeShapes Go.WideShapes Go.Deep
def badC (b : UInt8) : Bool := b == 0 || b == 10 || b == 47
theorem isName_bad {l : List UInt8} {j : Nat} (hj : j < l.length) (h : badC l[j] = true) : Disk.isName l = false := by
  have : (l.any fun b => b == 0 || b == 10 || b == 47) = true := List.any_eq_true.2 ⟨l[j], List.getElem_mem hj, h⟩
  unfold Disk.isName
  rw [this]
  simp
theorem isName_len {l : List UInt8} (h : ∀ j (hj : j < l.length), badC l[j] = false) : Disk.isName l = (decide (1 ≤ l.length) && decide (l.length ≤ 64)) := by
  have : (l.any fun b => b == 0 || b == 10 || b == 47) = false := by
    rw [List.any_eq_false]
    intro b hb
    obtain ⟨j, hj, rfl⟩ := List.getElem_of_mem hb
    have := h j hj
    unfold badC at this
    simpa using this
  unfold Disk.isName
  rw [this]
  simp
theorem str_at {s : ByteArray} {l : List UInt8} (h : l = s.data.toList) {j : Nat} (hj : j < s.size) (hl : j < l.length) : s[j] = l[j] := by
  subst h
  simp [ByteArray.getElem_eq_getElem_data]
theorem u8_0 {b : UInt8} (h : ¬ b = 0) : ((b.toNat : Int) == 0) = false := by
  rw [beq_eq_false_iff_ne]; intro e; apply h; apply UInt8.toNat_inj.1; show b.toNat = 0; omega
theorem u8_10 {b : UInt8} (h : ¬ b = 10) : ((b.toNat : Int) == 10) = false := by
  rw [beq_eq_false_iff_ne]; intro e; apply h; apply UInt8.toNat_inj.1; show b.toNat = 10; omega
theorem u8_47 {b : UInt8} (h : ¬ b = 47) : ((b.toNat : Int) == 47) = false := by
  rw [beq_eq_false_iff_ne]; intro e; apply h; apply UInt8.toNat_inj.1; show b.toNat = 47; omega
set_option maxRecDepth 100000 in
set_option maxHeartbeats 1000000 in
theorem refName_any (s : ByteArray) (hs : s.size ≤ maxLen) (w : World) : Calls Try.prog 28 #[.string s] w fun e w' => e = .returned (.bool (Disk.isName s.data.toList)) ∧ w' = w := by
  have hm : s.size ≤ 9223372036854775807 := by simpa [maxLen] using hs
  have HL : Hid (s.data.toList.length = s.size) := Lib.hid (by rw [Array.length_toList]; rfl)
  go_enter Try.func28, Try.ntmps28
  go_wp2_with fail
  go_loopg [3] s.size (fun q i wr => ∃ j : Nat, q = s.size - j ∧ j ≤ s.size ∧ i = .int .i64 j ∧ Hid (wr = w) ∧ Hid (∀ k (hk : k < s.data.toList.length), k < j → badC s.data.toList[k] = false))
  case atStart => exact ⟨0, rfl, by omega, rfl, Lib.hid rfl, Lib.hid fun k _ h => absurd h (Nat.not_lt_zero k)⟩
  case round =>
    obtain ⟨j, rfl, hj, rfl, HW, HB⟩ := hrel
    by_cases hjn : j < s.size
    · have hjl : j < s.data.toList.length := by rw [HL.out]; exact hjn
      obtain ⟨b, hb⟩ : ∃ b, b = s.data.toList[j] := ⟨_, rfl⟩
      have hsb : s[j] = b := by rw [hb]; exact str_at rfl hjn hjl
      by_cases h0 : b = 0
      · subst h0
        have HN : Hid (Disk.isName s.data.toList = false) := Lib.hid (isName_bad hjl (by rw [← hb]; rfl))
        clear hb
        go_wp2_with fail
        go_ret
        exact ⟨by rw [HN.out]; rfl, HW.out⟩
      · by_cases h1 : b = 10
        · subst h1
          have HN : Hid (Disk.isName s.data.toList = false) := Lib.hid (isName_bad hjl (by rw [← hb]; rfl))
          clear hb
          go_wp2_with fail
          go_ret
          exact ⟨by rw [HN.out]; rfl, HW.out⟩
        · by_cases h2 : b = 47
          · subst h2
            have HN : Hid (Disk.isName s.data.toList = false) := Lib.hid (isName_bad hjl (by rw [← hb]; rfl))
            clear hb
            go_wp2_with fail
            go_ret
            exact ⟨by rw [HN.out]; rfl, HW.out⟩
          · have e0 := u8_0 h0
            have e1 := u8_10 h1
            have e2 := u8_47 h2
            have HBN : Hid (∀ k (hk : k < s.data.toList.length), k < j + 1 → badC s.data.toList[k] = false) := Lib.hid fun k hk hkj => by
              by_cases e : k = j
              · subst e
                rw [← hb]
                unfold badC
                simp [h0, h1, h2]
              · exact HB.out k hk (by omega)
            clear hb h0 h1 h2
            go_wp2_with fail
            go_roundg (s.size - (j + 1))
            case measure => omega
            case rel => exact ⟨j + 1, rfl, by omega, by go_num, HW, HBN⟩
    · have HN : Hid (Disk.isName s.data.toList = (decide (1 ≤ s.size) && decide (s.size ≤ 64))) := Lib.hid (by
        rw [isName_len fun k hk => HB.out k hk (by rw [HL.out] at hk; omega), HL.out])
      obtain rfl : j = s.size := by omega
      by_cases hp : 1 ≤ s.size
      · by_cases hq : s.size ≤ 64
        · have HQ : Hid (Disk.isName s.data.toList = true) := Lib.hid (by rw [HN.out]; simp [hp, hq])
          have hd : decide ((s.size : Int) ≤ 64) = true := decide_eq_true (by omega)
          go_wp2_with fail
          go_ret
          exact ⟨by rw [HQ.out]; rfl, HW.out⟩
        · have HQ : Hid (Disk.isName s.data.toList = false) := Lib.hid (by rw [HN.out]; simp [hq])
          have hd : decide ((s.size : Int) ≤ 64) = false := decide_eq_false (by omega)
          go_wp2_with fail
          go_ret
          exact ⟨by rw [HQ.out]; rfl, HW.out⟩
      · have HQ : Hid (Disk.isName s.data.toList = false) := Lib.hid (by rw [HN.out]; simp [hp])
        go_wp2_with fail
        go_ret
        exact ⟨by rw [HQ.out]; rfl, HW.out⟩
end Go.Proofs.Ytncpeogkccjmcaa
