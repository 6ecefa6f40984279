/- The words of the numbers; unlike numbers have unlike words. No program in sight. No conditions. -/
import Derived.Lib.ItoaNum
import Derived.Lib.ItoaLen
namespace Go.Proofs.YtfmaaempcpjpkaaDoor.Quote
open Go
/-- The numbers that have a word of their own. -/
def WL : List (Int × List UInt8) := [(0, [110, 111, 32, 101, 114, 114, 111, 114]),
  (1, [98, 97, 100, 32, 97, 114, 103, 117, 109, 101, 110, 116]),
  (2, [116, 111, 111, 32, 108, 111, 110, 103]),
  (20, [98, 97, 100, 32, 110, 97, 109, 101]),
  (21, [110, 111, 32, 115, 117, 99, 104, 32, 102, 105, 108, 101]),
  (22, [110, 111, 32, 114, 111, 111, 109]),
  (23, [105, 110, 112, 117, 116, 32, 111, 114, 32, 111, 117, 116, 112, 117, 116, 32, 102, 97, 105, 108, 101, 100]),
  (24, [116, 104, 101, 32, 112, 111, 119, 101, 114, 32, 105, 115, 32, 103, 111, 110, 101]),
  (30, [98, 97, 100, 32, 114, 97, 110, 103, 101]),
  (31, [110, 111, 32, 115, 117, 99, 104, 32, 99, 108, 97, 115, 115]),
  (32, [98, 114, 97, 99, 107, 101, 116, 32, 110, 111, 116, 32, 99, 108, 111, 115, 101, 100]),
  (40, [98, 97, 100, 32, 101, 115, 99, 97, 112, 101]),
  (41, [117, 110, 112, 97, 105, 114, 101, 100, 32, 112, 97, 114, 101, 110, 116, 104, 101, 115, 105, 115]),
  (42, [110, 111, 116, 104, 105, 110, 103, 32, 116, 111, 32, 114, 101, 112, 101, 97, 116]),
  (43, [98, 97, 100, 32, 99, 111, 117, 110, 116]),
  (44, [110, 111, 32, 115, 117, 99, 104, 32, 103, 114, 111, 117, 112]),
  (45, [101, 109, 112, 116, 121, 32, 114, 101, 103, 101, 120]),
  (46, [110, 101, 115, 116, 101, 100, 32, 116, 111, 111, 32, 100, 101, 101, 112]),
  (47, [116, 111, 111, 32, 109, 97, 110, 121, 32, 103, 114, 111, 117, 112, 115]),
  (48, [116, 111, 111, 32, 104, 101, 97, 118, 121]),
  (49, [110, 111, 32, 114, 101, 103, 101, 120]),
  (50, [99, 97, 110, 110, 111, 116, 32, 98, 101, 32, 115, 112, 101, 108, 108, 101, 100]),
  (51, [116, 111, 111, 32, 109, 97, 110, 121, 32, 115, 116, 97, 116, 101, 115]),
  (52, [102, 117, 101, 108, 32, 105, 115, 32, 103, 111, 110, 101]),
  (60, [98, 97, 100, 32, 116, 97, 98, 108, 101]),
  (61, [98, 97, 100, 32, 114, 101, 112, 108, 97, 99, 101, 109, 101, 110, 116]),
  (62, [115, 112, 97, 99, 101, 32, 105, 115, 32, 102, 117, 108, 108]),
  (70, [110, 111, 116, 32, 99, 108, 111, 115, 101, 100]),
  (71, [98, 97, 100, 32, 97, 100, 100, 114, 101, 115, 115]),
  (72, [98, 97, 100, 32, 99, 111, 109, 109, 97, 110, 100]),
  (73, [110, 111, 32, 116, 101, 120, 116]),
  (74, [98, 97, 100, 32, 102, 108, 97, 103]),
  (75, [98, 97, 100, 32, 108, 97, 98, 101, 108]),
  (76, [117, 110, 112, 97, 105, 114, 101, 100, 32, 98, 114, 97, 99, 101]),
  (77, [98, 97, 100, 32, 102, 105, 108, 101]),
  (78, [109, 111, 114, 101, 32, 116, 104, 97, 110, 32, 97, 32, 99, 111, 109, 109, 97, 110, 100]),
  (80, [115, 116, 101, 112, 115, 32, 97, 114, 101, 32, 103, 111, 110, 101]),
  (81, [99, 97, 110, 110, 111, 116, 32, 119, 114, 105, 116, 101]),
  (90, [98, 97, 100, 32, 111, 112, 116, 105, 111, 110]),
  (91, [98, 97, 100, 32, 117, 115, 101]),
  (100, [98, 97, 100, 32, 108, 105, 110, 101])]
def wordL (e : Int) : List UInt8 := match WL.find? (fun p => p.1 == e) with
  | some p => p.2
  | none => [101, 114, 114, 111, 114, 32] ++ Lib.itoa e
def wordB (e : Int) : ByteArray := ⟨(wordL e).toArray⟩
theorem wordL_some {e : Int} {p : Int × List UInt8} (h : WL.find? (fun p => p.1 == e) = some p) : wordL e = p.2 := by unfold wordL; rw [h]
theorem wordL_none {e : Int} (h : WL.find? (fun p => p.1 == e) = none) : wordL e = [101, 114, 114, 111, 114, 32] ++ Lib.itoa e := by unfold wordL; rw [h]
/-! ### A numeral's number -/
def num (l : List UInt8) : Nat := l.foldl (fun a c => 10 * a + (c.toNat - 48)) 0
theorem num_snoc (l : List UInt8) (c : UInt8) : num (l ++ [c]) = 10 * num l + (c.toNat - 48) := by simp [num]
theorem num_dec : ∀ (n u : Nat), u ≤ n → num (Lib.decDigits u) = u := by
  intro n
  induction n with
  | zero =>
    intro u hu
    obtain rfl : u = 0 := by omega
    rw [Lib.decDigits, dif_pos (by omega)]
    rfl
  | succ n ih =>
    intro u hu
    rw [Lib.decDigits]
    by_cases h : u < 10
    · rw [dif_pos h]
      show 10 * 0 + ((UInt8.ofNat (48 + u)).toNat - 48) = u
      rw [UInt8.toNat_ofNat']
      omega
    · rw [dif_neg h, num_snoc, ih (u / 10) (by omega), UInt8.toNat_ofNat']
      omega
theorem dec_ne : ∀ (n u : Nat), u ≤ n → ∃ c r, Lib.decDigits u = c :: r ∧ 48 ≤ c.toNat := by
  intro n
  induction n with
  | zero =>
    intro u hu
    obtain rfl : u = 0 := by omega
    rw [Lib.decDigits, dif_pos (by omega)]
    exact ⟨_, _, rfl, by decide⟩
  | succ n ih =>
    intro u hu
    rw [Lib.decDigits]
    by_cases h : u < 10
    · rw [dif_pos h]
      exact ⟨_, _, rfl, by rw [UInt8.toNat_ofNat']; omega⟩
    · rw [dif_neg h]
      obtain ⟨c, r, hc, h48⟩ := ih (u / 10) (by omega)
      rw [hc]
      exact ⟨c, r ++ _, rfl, h48⟩
theorem dec_inj {a b : Nat} (h : Lib.decDigits a = Lib.decDigits b) : a = b := by
  rw [← num_dec a a (Nat.le_refl _), h, num_dec b b (Nat.le_refl _)]
theorem itoa_inj {a b : Int} (h : Lib.itoa a = Lib.itoa b) : a = b := by
  unfold Lib.itoa at h
  by_cases ha : a < 0
  · rw [if_pos ha] at h
    by_cases hb : b < 0
    · rw [if_pos hb, List.cons.injEq] at h
      have := dec_inj h.2
      omega
    · rw [if_neg hb] at h
      obtain ⟨c, r, hc, h48⟩ := dec_ne b.toNat b.toNat (Nat.le_refl _)
      rw [hc, List.cons.injEq] at h
      rw [← h.1] at h48
      exact absurd h48 (by decide)
  · rw [if_neg ha] at h
    by_cases hb : b < 0
    · rw [if_pos hb] at h
      obtain ⟨c, r, hc, h48⟩ := dec_ne a.toNat a.toNat (Nat.le_refl _)
      rw [hc, List.cons.injEq] at h
      rw [h.1] at h48
      exact absurd h48 (by decide)
    · rw [if_neg hb] at h
      have := dec_inj h
      omega
set_option maxRecDepth 100000 in
theorem WL_pre : ∀ p ∈ WL, p.2.take 6 ≠ [101, 114, 114, 111, 114, 32] ∧ p.2 ≠ [] := by decide
set_option maxRecDepth 100000 in
theorem WL_inj : ∀ p ∈ WL, ∀ q ∈ WL, p.2 = q.2 → p.1 = q.1 := by decide
theorem word_inj {a b : Int} (h : wordL a = wordL b) : a = b := by
  cases ha : WL.find? (fun p => p.1 == a) with
  | some p =>
    rw [wordL_some ha] at h
    have h1 := List.find?_some ha
    have h2 := List.mem_of_find?_eq_some ha
    cases hb : WL.find? (fun p => p.1 == b) with
    | some q =>
      rw [wordL_some hb] at h
      have h3 := List.find?_some hb
      have h4 := List.mem_of_find?_eq_some hb
      have h5 := WL_inj p h2 q h4 h
      simp only [beq_iff_eq] at h1 h3
      rw [← h1, ← h3, h5]
    | none =>
      rw [wordL_none hb] at h
      exact absurd (by rw [h]; rfl) (WL_pre p h2).1
  | none =>
    rw [wordL_none ha] at h
    cases hb : WL.find? (fun p => p.1 == b) with
    | some q =>
      rw [wordL_some hb] at h
      have h4 := List.mem_of_find?_eq_some hb
      exact absurd (by rw [← h]; rfl) (WL_pre q h4).1
    | none =>
      rw [wordL_none hb] at h
      exact itoa_inj (List.append_cancel_left h)
theorem word_ne (a : Int) : wordL a ≠ [] := by
  cases ha : WL.find? (fun p => p.1 == a) with
  | some p => rw [wordL_some ha]; exact (WL_pre p (List.mem_of_find?_eq_some ha)).2
  | none => rw [wordL_none ha]; simp
set_option maxRecDepth 100000 in
theorem WL_short : ∀ p ∈ WL, p.2.length ≤ 30 := by decide
theorem word_len (a : Int) (h0 : -9223372036854775808 ≤ a) (h1 : a ≤ 9223372036854775807) : (wordL a).length ≤ 30 := by
  cases ha : WL.find? (fun p => p.1 == a) with
  | some p => rw [wordL_some ha]; exact WL_short p (List.mem_of_find?_eq_some ha)
  | none => rw [wordL_none ha, List.length_append]; have := Lib.itoa_length_le a h0 h1; simp; omega
/-- Ahead of a place of the table there is no such number: nor has the table one. -/
theorem find_at {e : Int} {i : Nat} {p : Int × List UInt8} (hp : WL[i]? = some p) (hn : ∀ (j : Nat) (q : Int × List UInt8), j < i → WL[j]? = some q → q.1 ≠ e) (he : p.1 = e) : WL.find? (fun p => p.1 == e) = some p := by
  rw [List.find?_eq_some_iff_getElem]
  obtain ⟨hi, hp'⟩ := List.getElem?_eq_some_iff.1 hp
  refine ⟨by rw [he]; exact beq_self_eq_true e, i, hi, hp', fun j hj => ?_⟩
  have := hn j WL[j] hj (List.getElem?_eq_getElem _)
  simpa using this
theorem find_end {e : Int} (hn : ∀ (j : Nat) (q : Int × List UInt8), WL[j]? = some q → q.1 ≠ e) : WL.find? (fun p => p.1 == e) = none := by
  rw [List.find?_eq_none]
  intro q hq
  obtain ⟨j, hj, rfl⟩ := List.getElem_of_mem hq
  have := hn j WL[j] (List.getElem?_eq_getElem _)
  simpa using this
end Go.Proofs.YtfmaaempcpjpkaaDoor.Quote
