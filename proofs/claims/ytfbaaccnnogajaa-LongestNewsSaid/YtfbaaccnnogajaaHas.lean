/- A byte of a class: the walk of class.Has. Condition: the class's words are words. -/
import Derived.Test.YtfbaaccnnogajaaProg
import Derived.Test.YtfbaaccnnogajaaInstr
import Derived.WalkKit
import Derived.WalkSpells
import Derived.Deep.QuietTactic
import Derived.BigQuiet
import Derived.Lib.Hide
import Derived.WalkSmall
namespace Go.Proofs.Ytfbaaccnnogajaa
open Go.RowKit

def Class.word (c : Class) (k : Nat) : Int := match k with | 0 => c.c0 | 1 => c.c1 | 2 => c.c2 | _ => c.c3
/-- Is the byte in the class? -/
def Class.has (c : Class) (b : UInt8) : Bool := decide (((c.word (b.toNat / 64)).toNat / 2 ^ (b.toNat % 64)) % 2 = 1)
set_option maxHeartbeats 400000 in
theorem has_any (c : Class) (b : UInt8) (w : World) (h0 : 0 ≤ c.word (b.toNat / 64)) (h1 : c.word (b.toNat / 64) < 18446744073709551616) : Calls Try.prog 34 #[.agg #[.int .u64 c.c0, .int .u64 c.c1, .int .u64 c.c2, .int .u64 c.c3], .int .u8 b.toNat] w fun e w' => e = .returned (.bool (c.has b)) ∧ Below w.heap.size w w' := by
  have hb : b.toNat < 256 := b.toNat_lt
  have hcell : (w.alloc (.cells #[.int .u64 c.c0, .int .u64 c.c1, .int .u64 c.c2, .int .u64 c.c3] 62)).cell? ⟨w.heap.size, b.toNat / 64, none⟩ = some (.int .u64 (c.word (b.toNat / 64))) := by
    rw [World.cell?_alloc_new]
    have : b.toNat / 64 = 0 ∨ b.toNat / 64 = 1 ∨ b.toNat / 64 = 2 ∨ b.toNat / 64 = 3 := by omega
    rcases this with h | h | h | h <;> rw [h] <;> rfl
  have hdef : c.has b = decide (((c.word (b.toNat / 64)).toNat / 2 ^ (b.toNat % 64)) % 2 = 1) := rfl
  obtain ⟨W, hW⟩ : ∃ W, W = c.word (b.toNat / 64) := ⟨_, rfl⟩
  rw [← hW] at hcell h0 h1 hdef
  obtain ⟨N, rfl⟩ : ∃ N : Nat, W = N := ⟨W.toNat, by omega⟩
  have HD := Lib.hid hdef
  clear hW hdef
  go_enter Try.func34, Try.ntmps34
  go_wp2
  go_ret
  refine ⟨?_, (Below.refl _ w).alloc (Nat.le_refl _) _⟩
  rw [HD.out]
  have hq : ((N : Int) / 2 ^ (b.toNat % 64)) = ((N / 2 ^ (b.toNat % 64) : Nat) : Int) := by push_cast; rfl
  have hlt : N / 2 ^ (b.toNat % 64) ≤ N := Nat.div_le_self _ _
  have hbits := and_one_u64 ((N : Int) / 2 ^ (b.toNat % 64)) (by rw [hq]; exact Int.natCast_nonneg _) (by rw [hq]; exact Int.le_trans (Int.ofNat_le.2 hlt) (by omega))
  show Ending.returned (.bool (bits BinOp.and IntKind.u64 ((N : Int) / 2 ^ (b.toNat % 64)) 1 == 1)) = _
  rw [hbits, hq]
  congr 2
  have hN : ((N : Int)).toNat = N := by simp
  rw [hN]
  generalize N / 2 ^ (b.toNat % 64) = q at *
  by_cases h : q % 2 = 1
  · rw [decide_eq_true h, beq_iff_eq]; omega
  · rw [decide_eq_false h, beq_eq_false_iff_ne]; omega
end Go.Proofs.Ytfbaaccnnogajaa
