/- The class of one byte: the walk of galleylaw08.one. No conditions. -/
import Derived.Test.YtfbaaccnnogajaaProg
import Derived.Test.YtfbaaccnnogajaaHas
import Derived.RegionTactic
import Derived.Outline
namespace Go.Proofs.Ytfbaaccnnogajaa
open Go.RowKit

def oneC (b : UInt8) : Class := ⟨if b.toNat / 64 = 0 then 2 ^ (b.toNat % 64) else 0, if b.toNat / 64 = 1 then 2 ^ (b.toNat % 64) else 0, if b.toNat / 64 = 2 then 2 ^ (b.toNat % 64) else 0, if b.toNat / 64 = 3 then 2 ^ (b.toNat % 64) else 0⟩
theorem bit_pow (i j : Nat) : decide ((2 : Nat) ^ i / 2 ^ j % 2 = 1) = decide (i = j) := by
  rw [← Nat.testBit_eq_decide_div_mod_eq, Nat.testBit_two_pow]
theorem oneC_has (b c : UInt8) : (oneC b).has c = decide (c = b) := by
  have hb := b.toNat_lt
  have hc := c.toNat_lt
  have hz : ∀ j : Nat, decide ((0 : Int).toNat / 2 ^ j % 2 = 1) = false := fun j => by simp
  have hp : ∀ i : Nat, ((2 : Int) ^ i).toNat = 2 ^ i := fun i => by
    have : ((2 : Int) ^ i) = ((2 ^ i : Nat) : Int) := by push_cast; rfl
    rw [this]; rfl
  have hne : c = b ↔ c.toNat = b.toNat := UInt8.toNat_inj.symm
  have hcb : (c.toNat = b.toNat) ↔ (c.toNat / 64 = b.toNat / 64 ∧ b.toNat % 64 = c.toNat % 64) := by omega
  rw [show decide (c = b) = decide (c.toNat / 64 = b.toNat / 64 ∧ b.toNat % 64 = c.toNat % 64) from decide_eq_decide.2 (hne.trans hcb)]
  unfold Class.has
  have : c.toNat / 64 = 0 ∨ c.toNat / 64 = 1 ∨ c.toNat / 64 = 2 ∨ c.toNat / 64 = 3 := by omega
  rcases this with h | h | h | h <;> rw [h] <;> simp only [Class.word, oneC]
  all_goals
    split
    · rename_i h2
      rw [hp, bit_pow, h2]; simp
    · rename_i h2
      rw [hz]; symm; rw [decide_eq_false_iff_not]; rintro ⟨h3, -⟩; exact h2 h3.symm
set_option maxHeartbeats 1000000 in
theorem one_any (b : UInt8) (w : World) : Calls Try.prog 25 #[.int .u8 b.toNat] w fun e w' => e = .returned (.agg #[.int .u64 (oneC b).c0, .int .u64 (oneC b).c1, .int .u64 (oneC b).c2, .int .u64 (oneC b).c3]) ∧ Below w.heap.size w w' := by
  have hb : b.toNat < 256 := b.toNat_lt
  unfold oneC
  obtain ⟨n, hn⟩ : ∃ n, n = b.toNat := ⟨_, rfl⟩
  rw [← hn] at hb ⊢
  have this : n / 64 = 0 ∨ n / 64 = 1 ∨ n / 64 = 2 ∨ n / 64 = 3 := by omega
  have hw : IntKind.u64.wrap ((2 : Int) ^ (n % 64)) = (2 : Int) ^ (n % 64) := by
    have h1 : (2 : Nat) ^ (n % 64) ≤ 2 ^ 63 := Nat.pow_le_pow_right (by omega) (by omega)
    have h2 : ((2 : Int) ^ (n % 64)) = ((2 ^ (n % 64) : Nat) : Int) := by push_cast; rfl
    rw [h2]
    rw [show (2 : Nat) ^ 63 = 9223372036854775808 from rfl] at h1
    generalize (2 : Nat) ^ (n % 64) = m at h1
    rw [IntKind.wrap_u64]
    omega
  clear hn
  rcases this with h | h | h | h
  all_goals
    go_enter Try.func25, Try.ntmps25
    go_wp2
  · refine bodyPost_ret (v := .agg #[.int .u64 (2 ^ (n % 64)), .int .u64 0, .int .u64 0, .int .u64 0]) (by simp [results, Try.results25, go_sem]) rfl ⟨by simp, ((Below.refl _ _).alloc (Nat.le_refl _) _).alloc (by simp) _⟩
  · refine bodyPost_ret (v := .agg #[.int .u64 0, .int .u64 (2 ^ (n % 64)), .int .u64 0, .int .u64 0]) (by simp [results, Try.results25, go_sem]) rfl ⟨by simp, ((Below.refl _ _).alloc (Nat.le_refl _) _).alloc (by simp) _⟩
  · refine bodyPost_ret (v := .agg #[.int .u64 0, .int .u64 0, .int .u64 (2 ^ (n % 64)), .int .u64 0]) (by simp [results, Try.results25, go_sem]) rfl ⟨by simp, ((Below.refl _ _).alloc (Nat.le_refl _) _).alloc (by simp) _⟩
  · refine bodyPost_ret (v := .agg #[.int .u64 0, .int .u64 0, .int .u64 0, .int .u64 (2 ^ (n % 64))]) (by simp [results, Try.results25, go_sem]) rfl ⟨by simp, ((Below.refl _ _).alloc (Nat.le_refl _) _).alloc (by simp) _⟩
end Go.Proofs.Ytfbaaccnnogajaa
