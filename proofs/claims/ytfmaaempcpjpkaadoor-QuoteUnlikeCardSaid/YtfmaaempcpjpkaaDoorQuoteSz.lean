/- How many bytes a character has, as the document's size counts it. No program in sight. No conditions. -/
import Derived.Test.YtfmaaempcpjpkaaDoorQuotePlain
namespace Go.Proofs.YtfmaaempcpjpkaaDoor.Quote
def contGo : Nat → Nat → List UInt8 → Option Nat
  | 0, code, _ => some code
  | m + 1, code, b :: r => if 128 ≤ b.toNat ∧ b.toNat ≤ 191 then contGo m (64 * code + b.toNat - 128) r else none
  | _ + 1, _, [] => none
def fin (n low : Nat) : Option Nat → Nat
  | none => 0
  | some code => if low ≤ code ∧ code ≤ 1114111 ∧ ¬ (55296 ≤ code ∧ code ≤ 57343) then n else 0
theorem fin_two (a : Nat) (ha : 192 ≤ a ∧ a < 224) : ∀ r : List UInt8, (match r with
      | b :: _ => if 128 ≤ b.toNat ∧ b.toNat ≤ 191 ∧ 128 ≤ 64 * (a - 192) + (b.toNat - 128) then 2 else 0
      | [] => 0) = fin 2 128 (contGo 1 (a - 192) r)
  | [] => rfl
  | b :: r => by
    simp only [contGo]
    by_cases h : 128 ≤ b.toNat ∧ b.toNat ≤ 191
    · rw [if_pos h]
      simp only [fin]
      by_cases h2 : 128 ≤ 64 * (a - 192) + (b.toNat - 128)
      · rw [if_pos ⟨h.1, h.2, h2⟩, if_pos (by omega)]
      · rw [if_neg (by omega), if_neg (by omega)]
    · rw [if_neg h, if_neg (by omega)]
      rfl
theorem fin_three (a : Nat) (ha : 224 ≤ a ∧ a < 240) : ∀ r : List UInt8, (match r with
      | b :: c :: _ =>
        let code := 64 * (64 * (a - 224) + (b.toNat - 128)) + (c.toNat - 128)
        if 128 ≤ b.toNat ∧ b.toNat ≤ 191 ∧ 128 ≤ c.toNat ∧ c.toNat ≤ 191 ∧ 2048 ≤ code ∧ ¬ (55296 ≤ code ∧ code ≤ 57343) then 3 else 0
      | _ => 0) = fin 3 2048 (contGo 2 (a - 224) r)
  | [] => rfl
  | [b] => by
    simp only [contGo]
    by_cases h : 128 ≤ b.toNat ∧ b.toNat ≤ 191
    · rw [if_pos h]; rfl
    · rw [if_neg h]; rfl
  | b :: c :: r => by
    simp only [contGo]
    by_cases h : 128 ≤ b.toNat ∧ b.toNat ≤ 191
    · rw [if_pos h]
      by_cases h2 : 128 ≤ c.toNat ∧ c.toNat ≤ 191
      · rw [if_pos h2]
        simp only [fin]
        by_cases h3 : 2048 ≤ 64 * (64 * (a - 224) + (b.toNat - 128)) + (c.toNat - 128) ∧ ¬ (55296 ≤ 64 * (64 * (a - 224) + (b.toNat - 128)) + (c.toNat - 128) ∧ 64 * (64 * (a - 224) + (b.toNat - 128)) + (c.toNat - 128) ≤ 57343)
        · rw [if_pos ⟨h.1, h.2, h2.1, h2.2, h3.1, h3.2⟩, if_pos (by omega)]
        · rw [if_neg (by omega), if_neg (by omega)]
      · rw [if_neg h2, if_neg (by omega)]; rfl
    · rw [if_neg h, if_neg (by omega)]
      rfl
theorem fin_four (a : Nat) (ha : 240 ≤ a ∧ a < 248) : ∀ r : List UInt8, (match r with
      | b :: c :: d :: _ =>
        let code := 64 * (64 * (64 * (a - 240) + (b.toNat - 128)) + (c.toNat - 128)) + (d.toNat - 128)
        if 128 ≤ b.toNat ∧ b.toNat ≤ 191 ∧ 128 ≤ c.toNat ∧ c.toNat ≤ 191 ∧ 128 ≤ d.toNat ∧ d.toNat ≤ 191 ∧ 65536 ≤ code ∧ code ≤ 1114111 then 4 else 0
      | _ => 0) = fin 4 65536 (contGo 3 (a - 240) r)
  | [] => rfl
  | [b] => by
    simp only [contGo]
    by_cases h : 128 ≤ b.toNat ∧ b.toNat ≤ 191
    · rw [if_pos h]; rfl
    · rw [if_neg h]; rfl
  | [b, c] => by
    simp only [contGo]
    by_cases h : 128 ≤ b.toNat ∧ b.toNat ≤ 191
    · rw [if_pos h]
      by_cases h2 : 128 ≤ c.toNat ∧ c.toNat ≤ 191
      · rw [if_pos h2]; rfl
      · rw [if_neg h2]; rfl
    · rw [if_neg h]; rfl
  | b :: c :: d :: r => by
    simp only [contGo]
    by_cases h : 128 ≤ b.toNat ∧ b.toNat ≤ 191
    · rw [if_pos h]
      by_cases h2 : 128 ≤ c.toNat ∧ c.toNat ≤ 191
      · rw [if_pos h2]
        by_cases h4 : 128 ≤ d.toNat ∧ d.toNat ≤ 191
        · rw [if_pos h4]
          simp only [fin]
          by_cases h3 : 65536 ≤ 64 * (64 * (64 * (a - 240) + (b.toNat - 128)) + (c.toNat - 128)) + (d.toNat - 128) ∧ 64 * (64 * (64 * (a - 240) + (b.toNat - 128)) + (c.toNat - 128)) + (d.toNat - 128) ≤ 1114111
          · rw [if_pos ⟨h.1, h.2, h2.1, h2.2, h4.1, h4.2, h3.1, h3.2⟩, if_pos (by omega)]
          · rw [if_neg (by omega), if_neg (by omega)]
        · rw [if_neg h4, if_neg (by omega)]; rfl
      · rw [if_neg h2, if_neg (by omega)]; rfl
    · rw [if_neg h, if_neg (by omega)]
      rfl
theorem sz_two {a : UInt8} (r : List UInt8) (h : 192 ≤ a.toNat ∧ a.toNat < 224) : sz (a :: r) = fin 2 128 (contGo 1 (a.toNat - 192) r) := by
  rw [← fin_two _ h]; simp only [sz]
  rw [if_neg (by omega), if_pos h] <;> rfl
theorem sz_three {a : UInt8} (r : List UInt8) (h : 224 ≤ a.toNat ∧ a.toNat < 240) : sz (a :: r) = fin 3 2048 (contGo 2 (a.toNat - 224) r) := by
  rw [← fin_three _ h]; simp only [sz]
  rw [if_neg (by omega), if_neg (by omega), if_pos h] <;> rfl
theorem sz_four' {a : UInt8} (r : List UInt8) (h : 240 ≤ a.toNat ∧ a.toNat < 248) : sz (a :: r) = fin 4 65536 (contGo 3 (a.toNat - 240) r) := by
  rw [← fin_four _ h]; simp only [sz]
  rw [if_neg (by omega), if_neg (by omega), if_neg (by omega), if_pos h] <;> rfl
theorem sz_one {a : UInt8} (r : List UInt8) (h : a.toNat < 128) : sz (a :: r) = 1 := by simp only [sz]; rw [if_pos h]
theorem sz_no {a : UInt8} (r : List UInt8) (h : 128 ≤ a.toNat) (h1 : ¬ (192 ≤ a.toNat ∧ a.toNat < 248)) : sz (a :: r) = 0 := by
  simp only [sz]
  rw [if_neg (by omega), if_neg (by omega), if_neg (by omega), if_neg (by omega)]
theorem cont_step (m code : Nat) (b : UInt8) (r : List UInt8) (h : 128 ≤ b.toNat ∧ b.toNat ≤ 191) : contGo (m + 1) code (b :: r) = contGo m (64 * code + b.toNat - 128) r := by simp only [contGo]; rw [if_pos h]
theorem cont_no (m code : Nat) (b : UInt8) (r : List UInt8) (h : ¬ (128 ≤ b.toNat ∧ b.toNat ≤ 191)) : contGo (m + 1) code (b :: r) = none := by simp only [contGo]; rw [if_neg h]
theorem cont_end (m code : Nat) : contGo (m + 1) code [] = none := rfl
end Go.Proofs.YtfmaaempcpjpkaaDoor.Quote
