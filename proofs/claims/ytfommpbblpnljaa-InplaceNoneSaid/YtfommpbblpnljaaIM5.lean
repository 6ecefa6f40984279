/- Texts that lead to the claim, one behind the other: Characters from 128 on, as a range over a string meets them. No program in sight. No conditions. -/
import Derived.Test.YtfommpbblpnljaaIM4
namespace Go.Proofs.Ytfommpbblpnljaa.Quote
open Go
theorem decN_high (n a b c d : Nat) (ha : 128 ≤ a) (ha' : a < 256) (h0 : 0 < n) :
    128 ≤ (decN n a b c d).1 ∧ (decN n a b c d).1 ≤ 1114111 ∧ ¬ (55296 ≤ (decN n a b c d).1 ∧ (decN n a b c d).1 < 57344) ∧ 1 ≤ (decN n a b c d).2 ∧ (decN n a b c d).2 ≤ 4 ∧ (decN n a b c d).2 ≤ n ∧
      (1 < (decN n a b c d).2 → 128 ≤ b) ∧ (2 < (decN n a b c d).2 → 128 ≤ c) ∧ (3 < (decN n a b c d).2 → 128 ≤ d) := by
  unfold decN
  rw [if_neg (by omega)]
  repeat' split
  all_goals (simp only; omega)
theorem decode_high (s : ByteArray) (pos : Nat) (h : pos < s.size) (ha : 128 ≤ (s[pos]'h).toNat) : ∃ r n, Utf8.decode s pos = (r, n) ∧ 128 ≤ r ∧ r ≤ 1114111 ∧ ¬ (55296 ≤ r ∧ r < 57344) ∧ 1 ≤ n ∧ pos + n ≤ s.size ∧
    ∀ j b, pos ≤ j → j < pos + n → s.data.toList[j]? = some b → 128 ≤ b.toNat := by
  rw [decode_list, decL_eq]
  have hl : s.data.toList.length = s.size := Array.length_toList
  have hlen : (s.data.toList.drop pos).length = s.size - pos := by rw [List.length_drop, hl]
  have hget : ∀ k, (s.data.toList.drop pos).getD k 0 = (s.data.toList[pos + k]?).getD 0 := fun k => by rw [List.getD_eq_getElem?_getD, List.getElem?_drop]
  have h0 : ((s.data.toList.drop pos).getD 0 0).toNat = (s[pos]'h).toNat := by
    rw [hget, Nat.add_zero, List.getElem?_eq_getElem (by omega)]
    rfl
  obtain ⟨a1, a2, a3, a4, a5, a6, a7, a8, a9⟩ := decN_high (s.data.toList.drop pos).length ((s.data.toList.drop pos).getD 0 0).toNat ((s.data.toList.drop pos).getD 1 0).toNat ((s.data.toList.drop pos).getD 2 0).toNat ((s.data.toList.drop pos).getD 3 0).toNat (by omega) (by have := (s[pos]'h).toNat_lt; omega) (by omega)
  obtain ⟨r, n, e⟩ : ∃ r n, decN (s.data.toList.drop pos).length ((s.data.toList.drop pos).getD 0 0).toNat ((s.data.toList.drop pos).getD 1 0).toNat ((s.data.toList.drop pos).getD 2 0).toNat ((s.data.toList.drop pos).getD 3 0).toNat = (r, n) := ⟨_, _, rfl⟩
  rw [e] at a1 a2 a3 a4 a5 a6 a7 a8 a9 ⊢
  simp only at a1 a2 a3 a4 a5 a6 a7 a8 a9
  refine ⟨r, n, rfl, a1, a2, a3, a4, by omega, fun j b hj hj' hb => ?_⟩
  obtain ⟨k, rfl⟩ : ∃ k, j = pos + k := ⟨j - pos, by omega⟩
  have hk := hget k
  rw [hb] at hk
  simp only [Option.getD_some] at hk
  rw [← hk]
  match k, hj' with
  | 0, _ => omega
  | 1, _ => exact a7 (by omega)
  | 2, _ => exact a8 (by omega)
  | 3, _ => exact a9 (by omega)
  | k + 4, _ => omega
/-- Such a character written as a string. -/
theorem encode_high (r : Nat) (h1 : 128 ≤ r) (h2 : r ≤ 1114111) (h3 : ¬ (55296 ≤ r ∧ r < 57344)) :
    (∃ a b, Utf8.encode r = ⟨#[a, b]⟩ ∧ 128 ≤ b.toNat) ∨ (∃ a b c, Utf8.encode r = ⟨#[a, b, c]⟩ ∧ 128 ≤ c.toNat) ∨ (∃ a b c d, Utf8.encode r = ⟨#[a, b, c, d]⟩ ∧ 128 ≤ d.toNat) := by
  have hv : Utf8.valid (r : Int) = true := by
    unfold Utf8.valid
    simp
    omega
  have hx : ∀ m, 128 ≤ (UInt8.ofNat (128 + m % 64)).toNat := fun m => by rw [UInt8.toNat_ofNat']; omega
  unfold Utf8.encode
  simp only [hv, if_true, Int.toNat_natCast]
  rw [if_neg (by omega)]
  split
  · exact .inl ⟨_, _, rfl, hx _⟩
  · split
    · exact .inr (.inl ⟨_, _, _, rfl, hx _⟩)
    · exact .inr (.inr ⟨_, _, _, _, rfl, hx _⟩)
end Go.Proofs.Ytfommpbblpnljaa.Quote
