/- Texts that lead to the claim, one behind the other: Characters of UTF-8 as the program's range over a string meets them, against the plain reading of a list of bytes. No program in sight. No conditions. -/
import Derived.Lib.Small
import Derived.Test.YtncpeogkccjmcaaTR15
namespace Go.Proofs.Ytncpeogkccjmcaa.Quote
open Go
/-- A character at the head of a list, as a range over a string reads it. -/
def decL (L : List UInt8) : Nat × Nat :=
  let at' (k : Nat) : Nat := (L.getD k 0).toNat
  let cont (k : Nat) : Bool := decide (k < L.length) && at' k / 64 == 2
  let b0 := at' 0
  if b0 < 0x80 then (b0, 1)
  else if b0 / 32 == 6 && cont 1 then
    let c := (b0 % 32) * 64 + at' 1 % 64
    if c ≥ 0x80 then (c, 2) else (Utf8.runeError, 1)
  else if b0 / 16 == 14 && cont 1 && cont 2 then
    let c := (b0 % 16) * 4096 + (at' 1 % 64) * 64 + at' 2 % 64
    if c ≥ 0x800 && Utf8.valid c then (c, 3) else (Utf8.runeError, 1)
  else if b0 / 8 == 30 && cont 1 && cont 2 && cont 3 then
    let c := (b0 % 8) * 262144 + (at' 1 % 64) * 4096 + (at' 2 % 64) * 64 + at' 3 % 64
    if c ≥ 0x10000 && Utf8.valid c then (c, 4) else (Utf8.runeError, 1)
  else (Utf8.runeError, 1)
theorem get_drop (s : ByteArray) (pos k : Nat) : s.get! (pos + k) = (s.data.toList.drop pos).getD k 0 := by
  show s.data[pos + k]! = _
  rw [List.getD_eq_getElem?_getD, List.getElem?_drop, Array.getElem?_toList]
  by_cases h : pos + k < s.data.size
  · rw [getElem!_pos s.data (pos + k) h, Array.getElem?_eq_getElem h]; rfl
  · rw [getElem!_neg s.data (pos + k) h, Array.getElem?_eq_none (by omega)]; rfl
theorem decode_list (s : ByteArray) (pos : Nat) : Utf8.decode s pos = decL (s.data.toList.drop pos) := by
  have hc : ∀ k, decide (pos + k < s.size) = decide (k < (s.data.toList.drop pos).length) := fun k => by
    rw [List.length_drop, Array.length_toList]
    exact decide_eq_decide.mpr (by show pos + k < s.data.size ↔ _; omega)
  simp only [Utf8.decode, decL, get_drop, hc]
theorem decL_ascii {a : UInt8} (r : List UInt8) (h : a.toNat < 128) : decL (a :: r) = (a.toNat, 1) := by
  simp [decL, h]
/-- By numbers. -/
def decN (n a b c d : Nat) : Nat × Nat :=
  if a < 128 then (a, 1)
  else if a / 32 = 6 ∧ 1 < n ∧ b / 64 = 2 then
    if 128 ≤ a % 32 * 64 + b % 64 then (a % 32 * 64 + b % 64, 2) else (65533, 1)
  else if a / 16 = 14 ∧ (1 < n ∧ b / 64 = 2) ∧ (2 < n ∧ c / 64 = 2) then
    if 2048 ≤ a % 16 * 4096 + b % 64 * 64 + c % 64 ∧ ¬ (55296 ≤ a % 16 * 4096 + b % 64 * 64 + c % 64 ∧ a % 16 * 4096 + b % 64 * 64 + c % 64 < 57344) then (a % 16 * 4096 + b % 64 * 64 + c % 64, 3) else (65533, 1)
  else if a / 8 = 30 ∧ (1 < n ∧ b / 64 = 2) ∧ (2 < n ∧ c / 64 = 2) ∧ (3 < n ∧ d / 64 = 2) then
    if 65536 ≤ a % 8 * 262144 + b % 64 * 4096 + c % 64 * 64 + d % 64 ∧ a % 8 * 262144 + b % 64 * 4096 + c % 64 * 64 + d % 64 ≤ 1114111 then (a % 8 * 262144 + b % 64 * 4096 + c % 64 * 64 + d % 64, 4) else (65533, 1)
  else (65533, 1)
theorem decL_eq (l : List UInt8) : decL l = decN l.length (l.getD 0 0).toNat (l.getD 1 0).toNat (l.getD 2 0).toNat (l.getD 3 0).toNat := by
  simp only [decL, decN, Bool.and_eq_true, beq_iff_eq, decide_eq_true_eq, Utf8.runeError, Utf8.valid, Bool.or_eq_true, ge_iff_le]
  have h0 := (l.getD 0 0).toNat_lt
  have h1 := (l.getD 1 0).toNat_lt
  have h2 := (l.getD 2 0).toNat_lt
  have h3 := (l.getD 3 0).toNat_lt
  repeat' split
  all_goals first | with_reducible rfl | (exfalso; omega)
/-- May the character stand as it is? -/
def fairR (c : Nat) : Prop := 32 ≤ c ∧ (c < 127 ∨ 159 < c) ∧ c ≠ 34 ∧ c ≠ 92
instance (c : Nat) : Decidable (fairR c) := by unfold fairR; infer_instance
theorem dec_none (l : List UInt8) (hne : l ≠ []) (h : sz l = 0) : decL l = (65533, 1) := by
  rw [decL_eq]
  match l, hne, h with
  | [a], _, h =>
    have ha := a.toNat_lt
    simp only [sz] at h
    simp only [List.getD_cons_zero, List.length_cons, List.length_nil, decN]
    (repeat' split at h) <;> (repeat' split) <;> first | with_reducible rfl | (exfalso; omega)
  | [a, b], _, h =>
    have ha := a.toNat_lt
    have hb := b.toNat_lt
    simp only [sz] at h
    simp only [List.getD_cons_zero, List.getD_cons_succ, List.length_cons, List.length_nil, decN]
    (repeat' split at h) <;> (repeat' split) <;> first | with_reducible rfl | (exfalso; omega)
  | [a, b, c], _, h =>
    have ha := a.toNat_lt
    have hb := b.toNat_lt
    have hc := c.toNat_lt
    simp only [sz] at h
    simp only [List.getD_cons_zero, List.getD_cons_succ, List.length_cons, List.length_nil, decN]
    (repeat' split at h) <;> (repeat' split) <;> first | with_reducible rfl | (exfalso; omega)
  | a :: b :: c :: d :: r, _, h =>
    have ha := a.toNat_lt
    have hb := b.toNat_lt
    have hc := c.toNat_lt
    have hd := d.toNat_lt
    simp only [sz] at h
    simp only [List.getD_cons_zero, List.getD_cons_succ, List.length_cons, decN]
    (repeat' split at h) <;> (repeat' split) <;> first | with_reducible rfl | (exfalso; omega)
def Good (l : List UInt8) : Prop := (decL l).2 = sz l ∧ Lib.runeLen ((decL l).1 : Nat) = (sz l : Int) ∧ (fairR (decL l).1 ↔ fair l (sz l) = true) ∧ ((decL l).1 = 65533 → l.take 3 = [239, 191, 189])
theorem good_of {l : List UInt8} (c n : Nat) (h1 : decL l = (c, n)) (h2 : sz l = n) (h3 : Lib.runeLen (c : Nat) = (n : Int)) (h4 : fairR c ↔ fair l n = true) (h5 : c = 65533 → l.take 3 = [239, 191, 189]) : Good l := by
  unfold Good
  rw [h1, h2]
  exact ⟨rfl, h3, h4, h5⟩
theorem sz_forms (l : List UInt8) (h : 0 < sz l) :
    (∃ a r, l = a :: r ∧ a.toNat < 128) ∨
    (∃ a b r, l = a :: b :: r ∧ 194 ≤ a.toNat ∧ a.toNat < 224 ∧ 128 ≤ b.toNat ∧ b.toNat ≤ 191) ∨
    (∃ a b c r, l = a :: b :: c :: r ∧ 224 ≤ a.toNat ∧ a.toNat < 240 ∧ 128 ≤ b.toNat ∧ b.toNat ≤ 191 ∧ 128 ≤ c.toNat ∧ c.toNat ≤ 191 ∧ sz l = 3) ∨
    (∃ a b c d r, l = a :: b :: c :: d :: r ∧ 240 ≤ a.toNat ∧ a.toNat < 248 ∧ 128 ≤ b.toNat ∧ b.toNat ≤ 191 ∧ 128 ≤ c.toNat ∧ c.toNat ≤ 191 ∧ 128 ≤ d.toNat ∧ d.toNat ≤ 191 ∧ sz l = 4) := by
  match l, h with
  | [], h => simp [sz] at h
  | [a], h =>
    refine .inl ⟨a, [], rfl, ?_⟩
    simp only [sz] at h
    (repeat' split at h) <;> omega
  | [a, b], h =>
    simp only [sz] at h
    split at h
    · exact .inl ⟨a, _, rfl, by assumption⟩
    split at h
    · split at h
      · exact .inr (.inl ⟨a, b, _, rfl, by omega, by omega, by omega, by omega⟩)
      · omega
    · (repeat' split at h) <;> omega
  | [a, b, c], h =>
    have e : sz [a, b, c] = sz [a, b, c] := rfl
    simp only [sz] at h
    conv at e => rhs; simp only [sz]
    split at h
    · exact .inl ⟨a, _, rfl, by assumption⟩
    split at h
    · split at h
      · exact .inr (.inl ⟨a, b, _, rfl, by omega, by omega, by omega, by omega⟩)
      · omega
    split at h
    · split at h
      · rename_i h1 h2 h3 h4
        rw [if_neg h1, if_neg h2, if_pos h3, if_pos h4] at e
        exact .inr (.inr (.inl ⟨a, b, c, _, rfl, by omega, by omega, by omega, by omega, by omega, by omega, e⟩))
      · omega
    · (repeat' split at h) <;> omega
  | a :: b :: c :: d :: r, h =>
    have e : sz (a :: b :: c :: d :: r) = sz (a :: b :: c :: d :: r) := rfl
    simp only [sz] at h
    conv at e => rhs; simp only [sz]
    split at h
    · exact .inl ⟨a, _, rfl, by assumption⟩
    split at h
    · split at h
      · exact .inr (.inl ⟨a, b, _, rfl, by omega, by omega, by omega, by omega⟩)
      · omega
    split at h
    · split at h
      · rename_i h1 h2 h3 h4
        rw [if_neg h1, if_neg h2, if_pos h3, if_pos h4] at e
        exact .inr (.inr (.inl ⟨a, b, c, _, rfl, by omega, by omega, by omega, by omega, by omega, by omega, e⟩))
      · omega
    split at h
    · split at h
      · rename_i h1 h2 h3 h4 h5
        rw [if_neg h1, if_neg h2, if_neg h3, if_pos h4, if_pos h5] at e
        exact .inr (.inr (.inr ⟨a, b, c, d, r, rfl, by omega, by omega, by omega, by omega, by omega, by omega, by omega, by omega, e⟩))
      · omega
    · omega
theorem dec_some (l : List UInt8) (h : 0 < sz l) : Good l := by
  rcases sz_forms l h with ⟨a, r, rfl, ha⟩ | ⟨a, b, r, rfl, h1, h2, h3, h4⟩ | ⟨a, b, c, r, rfl, h1, h2, h3, h4, h5, h6, hs⟩ | ⟨a, b, c, d, r, rfl, h1, h2, h3, h4, h5, h6, h7, h8, hs⟩
  · refine good_of a.toNat 1 (decL_ascii r ha) (by simp [sz, ha]) ?_ ?_ (fun e => by omega)
    · simp only [Lib.runeLen]
      rw [if_neg (by omega), if_pos (by omega)]
      rfl
    · have e : fair (a :: r) 1 = decide (32 ≤ a.toNat ∧ a.toNat ≠ 127 ∧ a.toNat ≠ 34 ∧ a.toNat ≠ 92) := rfl
      rw [e, decide_eq_true_eq]
      unfold fairR
      omega
  · have hsz : sz (a :: b :: r) = 2 := by
      simp only [sz]
      rw [if_neg (by omega), if_pos (by omega), if_pos (by omega)]
    refine good_of (a.toNat % 32 * 64 + b.toNat % 64) 2 ?_ hsz ?_ ?_ (fun e => by omega)
    · rw [decL_eq]
      simp only [List.getD_cons_zero, List.getD_cons_succ, List.length_cons, decN]
      rw [if_neg (by omega), if_pos (by omega), if_pos (by omega)]
    · simp only [Lib.runeLen]
      rw [if_neg (by omega), if_neg (by omega), if_pos (by omega)]
      rfl
    · have e : fair (a :: b :: r) 2 = !decide (2 = 2 ∧ a.toNat = 194 ∧ b.toNat < 160) := rfl
      rw [e]
      have ea : a.toNat % 32 = a.toNat - 192 := by omega
      have eb : b.toNat % 64 = b.toNat - 128 := by omega
      rw [ea, eb, Bool.not_eq_true', decide_eq_false_iff_not]
      unfold fairR
      constructor
      · intro h; omega
      · intro h
        rcases Nat.lt_or_ge a.toNat 195 with h9 | h9
        · have h8 : a.toNat = 194 := by omega
          rcases Nat.lt_or_ge b.toNat 160 with h7 | h7
          · exact absurd ⟨rfl, h8, h7⟩ h
          · omega
        · omega
  · have hc : 2048 ≤ 64 * (64 * (a.toNat - 224) + (b.toNat - 128)) + (c.toNat - 128) ∧ ¬ (55296 ≤ 64 * (64 * (a.toNat - 224) + (b.toNat - 128)) + (c.toNat - 128) ∧ 64 * (64 * (a.toNat - 224) + (b.toNat - 128)) + (c.toNat - 128) ≤ 57343) := by
      simp only [sz] at hs
      rw [if_neg (by omega), if_neg (by omega), if_pos (by omega)] at hs
      split at hs <;> omega
    refine good_of (a.toNat % 16 * 4096 + b.toNat % 64 * 64 + c.toNat % 64) 3 ?_ hs ?_ ?_ ?_
    · rw [decL_eq]
      simp only [List.getD_cons_zero, List.getD_cons_succ, List.length_cons, decN]
      rw [if_neg (by omega), if_neg (by omega), if_pos (by omega), if_pos (by omega)]
    · simp only [Lib.runeLen]
      rw [if_neg (by omega), if_neg (by omega), if_neg (by omega), if_neg (by omega), if_pos (by omega)]
      rfl
    · have e : fair (a :: b :: c :: r) 3 = !decide (3 = 2 ∧ a.toNat = 194 ∧ b.toNat < 160) := rfl
      rw [e]
      simp only [Bool.not_eq_true', decide_eq_false_iff_not]
      unfold fairR
      omega
    · intro e
      have e1 : a.toNat = 239 := by omega
      have e2 : b.toNat = 191 := by omega
      have e3 : c.toNat = 189 := by omega
      rw [u8_eq e1, u8_eq e2, u8_eq e3]
      rfl
  · have hc : 65536 ≤ 64 * (64 * (64 * (a.toNat - 240) + (b.toNat - 128)) + (c.toNat - 128)) + (d.toNat - 128) ∧ 64 * (64 * (64 * (a.toNat - 240) + (b.toNat - 128)) + (c.toNat - 128)) + (d.toNat - 128) ≤ 1114111 := by
      simp only [sz] at hs
      rw [if_neg (by omega), if_neg (by omega), if_neg (by omega), if_pos (by omega)] at hs
      split at hs <;> omega
    refine good_of (a.toNat % 8 * 262144 + b.toNat % 64 * 4096 + c.toNat % 64 * 64 + d.toNat % 64) 4 ?_ hs ?_ ?_ (fun e => by omega)
    · rw [decL_eq]
      simp only [List.getD_cons_zero, List.getD_cons_succ, List.length_cons, decN]
      rw [if_neg (by omega), if_neg (by omega), if_neg (by omega), if_pos (by omega), if_pos (by omega)]
    · simp only [Lib.runeLen]
      rw [if_neg (by omega), if_neg (by omega), if_neg (by omega), if_neg (by omega), if_neg (by omega), if_pos (by omega)]
      rfl
    · have e : fair (a :: b :: c :: d :: r) 4 = !decide (4 = 2 ∧ a.toNat = 194 ∧ b.toNat < 160) := rfl
      rw [e]
      simp only [Bool.not_eq_true', decide_eq_false_iff_not]
      unfold fairR
      omega
/-- No character: the three signs of the one that stands for none are not here. -/
theorem none_three (l : List UInt8) (h : sz l = 0) : l.take 3 ≠ [239, 191, 189] := by
  intro e
  match l, h, e with
  | [], h, e => simp at e
  | [a], h, e => simp at e
  | [a, b], h, e => simp at e
  | a :: b :: c :: r, h, e =>
    simp only [List.take_succ_cons, List.take_zero, List.cons.injEq] at e
    obtain ⟨rfl, rfl, rfl, -⟩ := e
    cases r with
    | nil => revert h; decide
    | cons d r => revert h; simp [sz]
end Go.Proofs.Ytncpeogkccjmcaa.Quote
