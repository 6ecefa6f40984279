/- The document's well shaped machine: the walk of galleyref07.Shaped. Condition: room. -/
import Derived.Test.YtfbaaccnnogajaaProg
import Derived.Test.YtfbaaccnnogajaaShapedM
import Derived.Deep.LoopGhost
namespace Go.Proofs.Ytfbaaccnnogajaa
open Go.RowKit

def xmax (N : Nat) (op : Int) : Int := if op = 4 ∨ op = 5 then (N : Int) - 1 else 0
def ymax (N : Nat) (op : Int) : Int := if op = 5 then (N : Int) - 1 else 0
theorem instrOk_iff {N k : Nat} (hN : 0 < N) (op X Y : Int) (s : Class) : instrOk N k ⟨op, s, X, Y⟩ ↔ (1 ≤ op ∧ op ≤ 6) ∧ (op = 1 ∨ s = Class.none) ∧ 0 ≤ X ∧ X ≤ xmax N op ∧ 0 ≤ Y ∧ Y ≤ ymax N op ∧ (op ≤ 3 → k + 1 ≠ N) := by
  unfold instrOk Instr.want xmax ymax
  simp only [Instr.mk.injEq, true_and]
  constructor
  · rintro ⟨a, b, c, ⟨d, e, f⟩, g, h, i, j⟩
    refine ⟨⟨a, b⟩, ?_, g, ?_, i, ?_, c⟩
    · by_cases h1 : op = 1
      · exact .inl h1
      · rw [if_neg h1] at d; exact .inr d
    · split at e <;> split <;> omega
    · split at f <;> split <;> omega
  · rintro ⟨⟨a, b⟩, d, g, h, i, j, c⟩
    refine ⟨a, b, c, ⟨?_, ?_, ?_⟩, g, ?_, i, ?_⟩
    · by_cases h1 : op = 1
      · rw [if_pos h1]
      · rw [if_neg h1]; exact d.resolve_left h1
    · split <;> split at h <;> omega
    · split <;> split at j <;> omega
    · split at h <;> omega
    · split at j <;> omega
theorem run_neq_classB (a b : Class) (w : World) : (binOp .neq 62 (.agg #[.int .u64 a.c0, .int .u64 a.c1, .int .u64 a.c2, .int .u64 a.c3]) (.agg #[.int .u64 b.c0, .int .u64 b.c1, .int .u64 b.c2, .int .u64 b.c3])).run Try.prog w = .ok (.bool (!a.eqB b)) w := by
  rw [run_neq_struct, show (10000 : Nat) = 9998 + 2 from rfl, run_equalIn_class]; rfl
set_option maxRecDepth 100000 in
set_option maxHeartbeats 8000000 in
theorem refShaped_any (M : List Instr) (A : Option Addr) (n c : Nat) (w : World) (S : Blocks) (hm : SliceAt Rep.instr w S A c M) (hnM : n = M.length) :
    Calls Try.prog 29 #[.slice A n c] w fun e w' => e = .returned (.bool (decide (MShaped M))) ∧ w = w' := by
  have hmax := hm.max
  have hnc : n ≤ c := by rw [hnM]; exact hm.len
  by_cases h0 : n = 0
  · have hno : decide (MShaped M) = false := decide_eq_false fun h => by have := h.1; omega
    rw [hno]
    subst h0
    clear hno hnM hm
    go_enter Try.func29, Try.ntmps29
    go_wp2
    go_ret
    exact ⟨rfl, rfl⟩
  have h0' : ¬ ((n : Int) < 1) := by omega
  have h0d : decide ((n : Int) < 1) = false := decide_eq_false h0'
  by_cases h1 : 65540 < n
  · have hno : decide (MShaped M) = false := decide_eq_false fun h => by have := h.2.1; omega
    rw [hno]
    have h1' : (65540 : Int) < n := by omega
    clear hno hnM hm h0 h1
    go_enter Try.func29, Try.ntmps29
    go_wp2
    go_ret
    exact ⟨rfl, rfl⟩
  have h1' : decide ((65540 : Int) < n) = false := decide_eq_false (by omega)
  obtain ⟨r, hr⟩ : ∃ r, r = decide (MShaped M) := ⟨_, rfl⟩
  rw [← hr]
  have HR := Lib.hid hr
  have HM := Lib.hid hm
  have HN := Lib.hid hnM
  have hn : n ≤ 65540 := by omega
  have hn0 : 0 < n := by omega
  clear hr hm hnM hmax h0 h1 h0'
  go_enter Try.func29, Try.ntmps29
  go_wp2_with fail
  go_loopg [3] n (fun k iv wr => ∃ i : Nat, i ≤ n ∧ iv = .int .i64 i ∧ k = n - i ∧ wr = w ∧ Hid (∀ j (h : j < M.length), j < i → instrOk M.length j M[j]))
  case atStart => exact ⟨0, Nat.zero_le _, rfl, rfl, rfl, Lib.hid fun j _ h => absurd h (by omega)⟩
  case round =>
    obtain ⟨i, hi, rfl, rfl, rfl, hall⟩ := hrel
    by_cases hin : i < n
    · have hiM : i < M.length := by have := HN.out; omega
      obtain ⟨g, o, rfl, -, hcs, hwf⟩ := instr_at HM.out (Same.refl _ wr) hiM
      have hno : (¬ instrOk n i M[i]) → r = false := fun h => by rw [HR.out]; exact decide_eq_false fun hM => h (by rw [HN.out]; exact hM.2.2 i hiM)
      have hyes : instrOk n i M[i] → ∀ j (h : j < M.length), j < i + 1 → instrOk M.length j M[j] := fun h j hj hji => by
        rcases Nat.lt_or_ge j i with h' | h'
        · exact hall.out j hj h'
        · obtain rfl : j = i := by omega
          rw [← HN.out]; exact h
      obtain ⟨⟨op, ⟨c0, c1, c2, c3⟩, X, Y⟩, hx⟩ : ∃ x, x = M[i] := ⟨_, rfl⟩
      rw [← hx] at hcs hwf hno hyes
      rw [instrOk_iff hn0] at hno hyes
      have hneq := run_neq_classB ⟨c0, c1, c2, c3⟩ Class.none
      have hcl := Class.eqB_eq ⟨c0, c1, c2, c3⟩ Class.none
      obtain ⟨bc, hbc⟩ : ∃ b, b = Class.eqB ⟨c0, c1, c2, c3⟩ Class.none := ⟨_, rfl⟩
      rw [← hbc] at hneq hcl
      simp only [icells, Class.none] at hcs hneq
      have k0 := hcs 0 _ rfl
      have k1 := hcs 1 _ rfl
      have k2 := hcs 2 _ rfl
      have k3 := hcs 3 _ rfl
      have k4 := hcs 4 _ rfl
      have k5 := hcs 5 _ rfl
      have k6 := hcs 6 _ rfl
      simp only [Nat.add_zero] at k0 k1 k2 k3 k4 k5 k6
      have hop := hwf.op
      have hX := hwf.x
      have hY := hwf.y
      simp [Lit.wf, IntKind.min, IntKind.max, IntKind.signed, IntKind.bits] at hop hX hY
      have HNO := Lib.hid hno
      have HYES := Lib.hid hyes
      have HCL := Lib.hid hcl
      clear hno hyes hcl hbc hcs hwf hx
      obtain ⟨hop1, hop2⟩ := hop
      obtain ⟨hX1, hX2⟩ := hX
      obtain ⟨hY1, hY2⟩ := hY
      by_cases hout : op < 1 ∨ 6 < op
      · have e : r = false := HNO.out fun h => by omega
        subst e
        rcases hout with hout | hout
        · have e1 : ((op : Int) == 4) = false := by rw [beq_eq_false_iff_ne]; omega
          have e2 : ((op : Int) == 5) = false := by rw [beq_eq_false_iff_ne]; omega
          go_wp2_with fail
          go_ret
          exact ⟨rfl, rfl⟩
        · have e1 : ((op : Int) == 4) = false := by rw [beq_eq_false_iff_ne]; omega
          have e2 : ((op : Int) == 5) = false := by rw [beq_eq_false_iff_ne]; omega
          have e3 : decide (op < 1) = false := decide_eq_false (by omega)
          go_wp2_with fail
          go_ret
          exact ⟨rfl, rfl⟩
      · have hop3 : op = 1 ∨ op = 2 ∨ op = 3 ∨ op = 4 ∨ op = 5 ∨ op = 6 := by omega
        clear hout hop1 hop2
        rcases hop3 with rfl | rfl | rfl | rfl | rfl | rfl
        · have hxm : Hid (xmax n 1 = 0) := Lib.hid (by simp [xmax])
          have hym : Hid (ymax n 1 = 0) := Lib.hid (by simp [ymax])
          by_cases hx0 : X < 0
          · have hx0' : decide (X < 0) = true := decide_eq_true hx0
            have e : r = false := HNO.out fun h => by have := h.2.2.1; omega
            subst e
            go_wp2_with fail
            go_ret
            exact ⟨rfl, rfl⟩
          have hx0' : decide (X < 0) = false := decide_eq_false hx0
          have hx0'' : 0 ≤ X := by omega
          clear hx0
          by_cases hx1 : 0 < X
          · have hx1' : decide (0 < X) = true := decide_eq_true hx1
            have e : r = false := HNO.out fun h => by have := h.2.2.2.1; rw [hxm.out] at this; omega
            subst e
            go_wp2_with fail
            go_ret
            exact ⟨rfl, rfl⟩
          have hx1' : decide (0 < X) = false := decide_eq_false hx1
          have hx1'' : X ≤ 0 := by omega
          clear hx1
          by_cases hy0 : Y < 0
          · have hy0' : decide (Y < 0) = true := decide_eq_true hy0
            have e : r = false := HNO.out fun h => by have := h.2.2.2.2.1; omega
            subst e
            go_wp2_with fail
            go_ret
            exact ⟨rfl, rfl⟩
          have hy0' : decide (Y < 0) = false := decide_eq_false hy0
          have hy0'' : 0 ≤ Y := by omega
          clear hy0
          by_cases hy1 : 0 < Y
          · have hy1' : decide (0 < Y) = true := decide_eq_true hy1
            have e : r = false := HNO.out fun h => by have := h.2.2.2.2.2.1; rw [hym.out] at this; omega
            subst e
            go_wp2_with fail
            go_ret
            exact ⟨rfl, rfl⟩
          have hy1' : decide (0 < Y) = false := decide_eq_false hy1
          have hy1'' : Y ≤ 0 := by omega
          clear hy1
          by_cases hl : i + 1 = n
          · have hl' : ((i : Int) == (n : Int) - 1) = true := by rw [beq_iff_eq]; omega
            have HLL := Lib.hid hl
            clear hl
            have e : r = false := HNO.out fun h => by have := h.2.2.2.2.2.2 (by omega); exact this HLL.out
            subst e
            go_wp2_with fail
            go_ret
            exact ⟨rfl, rfl⟩
          have hl' : ((i : Int) == (n : Int) - 1) = false := by rw [beq_eq_false_iff_ne]; omega
          have HLL := Lib.hid hl
          clear hl
          have HY := Lib.hid (HYES.out ⟨⟨by omega, by omega⟩, .inl rfl, hx0'', by rw [hxm.out]; exact hx1'', hy0'', by rw [hym.out]; exact hy1'', fun _ => HLL.out⟩)
          go_wp2_with fail
          go_roundg (n - (i + 1))
          case measure => omega
          case rel => exact ⟨i + 1, by omega, by go_num, rfl, rfl, HY⟩
        · have hxm : Hid (xmax n 2 = 0) := Lib.hid (by simp [xmax])
          have hym : Hid (ymax n 2 = 0) := Lib.hid (by simp [ymax])
          cases bc
          · simp only [Bool.not_false] at hneq
            have e : r = false := HNO.out fun h => h.2.1.elim (fun h => absurd h (by omega)) fun h => by have := HCL.out; rw [h] at this; simp at this
            subst e
            go_wp2_with fail
            go_ret
            exact ⟨rfl, rfl⟩
          simp only [Bool.not_true] at hneq
          by_cases hx0 : X < 0
          · have hx0' : decide (X < 0) = true := decide_eq_true hx0
            have e : r = false := HNO.out fun h => by have := h.2.2.1; omega
            subst e
            go_wp2_with fail
            go_ret
            exact ⟨rfl, rfl⟩
          have hx0' : decide (X < 0) = false := decide_eq_false hx0
          have hx0'' : 0 ≤ X := by omega
          clear hx0
          by_cases hx1 : 0 < X
          · have hx1' : decide (0 < X) = true := decide_eq_true hx1
            have e : r = false := HNO.out fun h => by have := h.2.2.2.1; rw [hxm.out] at this; omega
            subst e
            go_wp2_with fail
            go_ret
            exact ⟨rfl, rfl⟩
          have hx1' : decide (0 < X) = false := decide_eq_false hx1
          have hx1'' : X ≤ 0 := by omega
          clear hx1
          by_cases hy0 : Y < 0
          · have hy0' : decide (Y < 0) = true := decide_eq_true hy0
            have e : r = false := HNO.out fun h => by have := h.2.2.2.2.1; omega
            subst e
            go_wp2_with fail
            go_ret
            exact ⟨rfl, rfl⟩
          have hy0' : decide (Y < 0) = false := decide_eq_false hy0
          have hy0'' : 0 ≤ Y := by omega
          clear hy0
          by_cases hy1 : 0 < Y
          · have hy1' : decide (0 < Y) = true := decide_eq_true hy1
            have e : r = false := HNO.out fun h => by have := h.2.2.2.2.2.1; rw [hym.out] at this; omega
            subst e
            go_wp2_with fail
            go_ret
            exact ⟨rfl, rfl⟩
          have hy1' : decide (0 < Y) = false := decide_eq_false hy1
          have hy1'' : Y ≤ 0 := by omega
          clear hy1
          by_cases hl : i + 1 = n
          · have hl' : ((i : Int) == (n : Int) - 1) = true := by rw [beq_iff_eq]; omega
            have HLL := Lib.hid hl
            clear hl
            have e : r = false := HNO.out fun h => by have := h.2.2.2.2.2.2 (by omega); exact this HLL.out
            subst e
            go_wp2_with fail
            go_ret
            exact ⟨rfl, rfl⟩
          have hl' : ((i : Int) == (n : Int) - 1) = false := by rw [beq_eq_false_iff_ne]; omega
          have HLL := Lib.hid hl
          clear hl
          have HY := Lib.hid (HYES.out ⟨⟨by omega, by omega⟩, .inr (of_decide_eq_true HCL.out.symm), hx0'', by rw [hxm.out]; exact hx1'', hy0'', by rw [hym.out]; exact hy1'', fun _ => HLL.out⟩)
          go_wp2_with fail
          go_roundg (n - (i + 1))
          case measure => omega
          case rel => exact ⟨i + 1, by omega, by go_num, rfl, rfl, HY⟩
        · have hxm : Hid (xmax n 3 = 0) := Lib.hid (by simp [xmax])
          have hym : Hid (ymax n 3 = 0) := Lib.hid (by simp [ymax])
          cases bc
          · simp only [Bool.not_false] at hneq
            have e : r = false := HNO.out fun h => h.2.1.elim (fun h => absurd h (by omega)) fun h => by have := HCL.out; rw [h] at this; simp at this
            subst e
            go_wp2_with fail
            go_ret
            exact ⟨rfl, rfl⟩
          simp only [Bool.not_true] at hneq
          by_cases hx0 : X < 0
          · have hx0' : decide (X < 0) = true := decide_eq_true hx0
            have e : r = false := HNO.out fun h => by have := h.2.2.1; omega
            subst e
            go_wp2_with fail
            go_ret
            exact ⟨rfl, rfl⟩
          have hx0' : decide (X < 0) = false := decide_eq_false hx0
          have hx0'' : 0 ≤ X := by omega
          clear hx0
          by_cases hx1 : 0 < X
          · have hx1' : decide (0 < X) = true := decide_eq_true hx1
            have e : r = false := HNO.out fun h => by have := h.2.2.2.1; rw [hxm.out] at this; omega
            subst e
            go_wp2_with fail
            go_ret
            exact ⟨rfl, rfl⟩
          have hx1' : decide (0 < X) = false := decide_eq_false hx1
          have hx1'' : X ≤ 0 := by omega
          clear hx1
          by_cases hy0 : Y < 0
          · have hy0' : decide (Y < 0) = true := decide_eq_true hy0
            have e : r = false := HNO.out fun h => by have := h.2.2.2.2.1; omega
            subst e
            go_wp2_with fail
            go_ret
            exact ⟨rfl, rfl⟩
          have hy0' : decide (Y < 0) = false := decide_eq_false hy0
          have hy0'' : 0 ≤ Y := by omega
          clear hy0
          by_cases hy1 : 0 < Y
          · have hy1' : decide (0 < Y) = true := decide_eq_true hy1
            have e : r = false := HNO.out fun h => by have := h.2.2.2.2.2.1; rw [hym.out] at this; omega
            subst e
            go_wp2_with fail
            go_ret
            exact ⟨rfl, rfl⟩
          have hy1' : decide (0 < Y) = false := decide_eq_false hy1
          have hy1'' : Y ≤ 0 := by omega
          clear hy1
          by_cases hl : i + 1 = n
          · have hl' : ((i : Int) == (n : Int) - 1) = true := by rw [beq_iff_eq]; omega
            have HLL := Lib.hid hl
            clear hl
            have e : r = false := HNO.out fun h => by have := h.2.2.2.2.2.2 (by omega); exact this HLL.out
            subst e
            go_wp2_with fail
            go_ret
            exact ⟨rfl, rfl⟩
          have hl' : ((i : Int) == (n : Int) - 1) = false := by rw [beq_eq_false_iff_ne]; omega
          have HLL := Lib.hid hl
          clear hl
          have HY := Lib.hid (HYES.out ⟨⟨by omega, by omega⟩, .inr (of_decide_eq_true HCL.out.symm), hx0'', by rw [hxm.out]; exact hx1'', hy0'', by rw [hym.out]; exact hy1'', fun _ => HLL.out⟩)
          go_wp2_with fail
          go_roundg (n - (i + 1))
          case measure => omega
          case rel => exact ⟨i + 1, by omega, by go_num, rfl, rfl, HY⟩
        · have hxm : Hid (xmax n 4 = (n : Int) - 1) := Lib.hid (by simp [xmax])
          have hym : Hid (ymax n 4 = 0) := Lib.hid (by simp [ymax])
          cases bc
          · simp only [Bool.not_false] at hneq
            have e : r = false := HNO.out fun h => h.2.1.elim (fun h => absurd h (by omega)) fun h => by have := HCL.out; rw [h] at this; simp at this
            subst e
            go_wp2_with fail
            go_ret
            exact ⟨rfl, rfl⟩
          simp only [Bool.not_true] at hneq
          by_cases hx0 : X < 0
          · have hx0' : decide (X < 0) = true := decide_eq_true hx0
            have e : r = false := HNO.out fun h => by have := h.2.2.1; omega
            subst e
            go_wp2_with fail
            go_ret
            exact ⟨rfl, rfl⟩
          have hx0' : decide (X < 0) = false := decide_eq_false hx0
          have hx0'' : 0 ≤ X := by omega
          clear hx0
          by_cases hx1 : (n : Int) - 1 < X
          · have hx1' : decide ((n : Int) - 1 < X) = true := decide_eq_true hx1
            have e : r = false := HNO.out fun h => by have := h.2.2.2.1; rw [hxm.out] at this; omega
            subst e
            go_wp2_with fail
            go_ret
            exact ⟨rfl, rfl⟩
          have hx1' : decide ((n : Int) - 1 < X) = false := decide_eq_false hx1
          have hx1'' : X ≤ (n : Int) - 1 := by omega
          clear hx1
          by_cases hy0 : Y < 0
          · have hy0' : decide (Y < 0) = true := decide_eq_true hy0
            have e : r = false := HNO.out fun h => by have := h.2.2.2.2.1; omega
            subst e
            go_wp2_with fail
            go_ret
            exact ⟨rfl, rfl⟩
          have hy0' : decide (Y < 0) = false := decide_eq_false hy0
          have hy0'' : 0 ≤ Y := by omega
          clear hy0
          by_cases hy1 : 0 < Y
          · have hy1' : decide (0 < Y) = true := decide_eq_true hy1
            have e : r = false := HNO.out fun h => by have := h.2.2.2.2.2.1; rw [hym.out] at this; omega
            subst e
            go_wp2_with fail
            go_ret
            exact ⟨rfl, rfl⟩
          have hy1' : decide (0 < Y) = false := decide_eq_false hy1
          have hy1'' : Y ≤ 0 := by omega
          clear hy1
          have HY := Lib.hid (HYES.out ⟨⟨by omega, by omega⟩, .inr (of_decide_eq_true HCL.out.symm), hx0'', by rw [hxm.out]; exact hx1'', hy0'', by rw [hym.out]; exact hy1'', fun h => absurd h (by omega)⟩)
          go_wp2_with fail
          go_roundg (n - (i + 1))
          case measure => omega
          case rel => exact ⟨i + 1, by omega, by go_num, rfl, rfl, HY⟩
        · have hxm : Hid (xmax n 5 = (n : Int) - 1) := Lib.hid (by simp [xmax])
          have hym : Hid (ymax n 5 = (n : Int) - 1) := Lib.hid (by simp [ymax])
          cases bc
          · simp only [Bool.not_false] at hneq
            have e : r = false := HNO.out fun h => h.2.1.elim (fun h => absurd h (by omega)) fun h => by have := HCL.out; rw [h] at this; simp at this
            subst e
            go_wp2_with fail
            go_ret
            exact ⟨rfl, rfl⟩
          simp only [Bool.not_true] at hneq
          by_cases hx0 : X < 0
          · have hx0' : decide (X < 0) = true := decide_eq_true hx0
            have e : r = false := HNO.out fun h => by have := h.2.2.1; omega
            subst e
            go_wp2_with fail
            go_ret
            exact ⟨rfl, rfl⟩
          have hx0' : decide (X < 0) = false := decide_eq_false hx0
          have hx0'' : 0 ≤ X := by omega
          clear hx0
          by_cases hx1 : (n : Int) - 1 < X
          · have hx1' : decide ((n : Int) - 1 < X) = true := decide_eq_true hx1
            have e : r = false := HNO.out fun h => by have := h.2.2.2.1; rw [hxm.out] at this; omega
            subst e
            go_wp2_with fail
            go_ret
            exact ⟨rfl, rfl⟩
          have hx1' : decide ((n : Int) - 1 < X) = false := decide_eq_false hx1
          have hx1'' : X ≤ (n : Int) - 1 := by omega
          clear hx1
          by_cases hy0 : Y < 0
          · have hy0' : decide (Y < 0) = true := decide_eq_true hy0
            have e : r = false := HNO.out fun h => by have := h.2.2.2.2.1; omega
            subst e
            go_wp2_with fail
            go_ret
            exact ⟨rfl, rfl⟩
          have hy0' : decide (Y < 0) = false := decide_eq_false hy0
          have hy0'' : 0 ≤ Y := by omega
          clear hy0
          by_cases hy1 : (n : Int) - 1 < Y
          · have hy1' : decide ((n : Int) - 1 < Y) = true := decide_eq_true hy1
            have e : r = false := HNO.out fun h => by have := h.2.2.2.2.2.1; rw [hym.out] at this; omega
            subst e
            go_wp2_with fail
            go_ret
            exact ⟨rfl, rfl⟩
          have hy1' : decide ((n : Int) - 1 < Y) = false := decide_eq_false hy1
          have hy1'' : Y ≤ (n : Int) - 1 := by omega
          clear hy1
          have HY := Lib.hid (HYES.out ⟨⟨by omega, by omega⟩, .inr (of_decide_eq_true HCL.out.symm), hx0'', by rw [hxm.out]; exact hx1'', hy0'', by rw [hym.out]; exact hy1'', fun h => absurd h (by omega)⟩)
          go_wp2_with fail
          go_roundg (n - (i + 1))
          case measure => omega
          case rel => exact ⟨i + 1, by omega, by go_num, rfl, rfl, HY⟩
        · have hxm : Hid (xmax n 6 = 0) := Lib.hid (by simp [xmax])
          have hym : Hid (ymax n 6 = 0) := Lib.hid (by simp [ymax])
          cases bc
          · simp only [Bool.not_false] at hneq
            have e : r = false := HNO.out fun h => h.2.1.elim (fun h => absurd h (by omega)) fun h => by have := HCL.out; rw [h] at this; simp at this
            subst e
            go_wp2_with fail
            go_ret
            exact ⟨rfl, rfl⟩
          simp only [Bool.not_true] at hneq
          by_cases hx0 : X < 0
          · have hx0' : decide (X < 0) = true := decide_eq_true hx0
            have e : r = false := HNO.out fun h => by have := h.2.2.1; omega
            subst e
            go_wp2_with fail
            go_ret
            exact ⟨rfl, rfl⟩
          have hx0' : decide (X < 0) = false := decide_eq_false hx0
          have hx0'' : 0 ≤ X := by omega
          clear hx0
          by_cases hx1 : 0 < X
          · have hx1' : decide (0 < X) = true := decide_eq_true hx1
            have e : r = false := HNO.out fun h => by have := h.2.2.2.1; rw [hxm.out] at this; omega
            subst e
            go_wp2_with fail
            go_ret
            exact ⟨rfl, rfl⟩
          have hx1' : decide (0 < X) = false := decide_eq_false hx1
          have hx1'' : X ≤ 0 := by omega
          clear hx1
          by_cases hy0 : Y < 0
          · have hy0' : decide (Y < 0) = true := decide_eq_true hy0
            have e : r = false := HNO.out fun h => by have := h.2.2.2.2.1; omega
            subst e
            go_wp2_with fail
            go_ret
            exact ⟨rfl, rfl⟩
          have hy0' : decide (Y < 0) = false := decide_eq_false hy0
          have hy0'' : 0 ≤ Y := by omega
          clear hy0
          by_cases hy1 : 0 < Y
          · have hy1' : decide (0 < Y) = true := decide_eq_true hy1
            have e : r = false := HNO.out fun h => by have := h.2.2.2.2.2.1; rw [hym.out] at this; omega
            subst e
            go_wp2_with fail
            go_ret
            exact ⟨rfl, rfl⟩
          have hy1' : decide (0 < Y) = false := decide_eq_false hy1
          have hy1'' : Y ≤ 0 := by omega
          clear hy1
          have HY := Lib.hid (HYES.out ⟨⟨by omega, by omega⟩, .inr (of_decide_eq_true HCL.out.symm), hx0'', by rw [hxm.out]; exact hx1'', hy0'', by rw [hym.out]; exact hy1'', fun h => absurd h (by omega)⟩)
          go_wp2_with fail
          go_roundg (n - (i + 1))
          case measure => omega
          case rel => exact ⟨i + 1, by omega, by go_num, rfl, rfl, HY⟩
    · obtain rfl : i = n := by omega
      have e : r = true := by rw [HR.out]; exact decide_eq_true ⟨by have := HN.out; omega, by have := HN.out; omega, fun j hj => hall.out j hj (by have := HN.out; omega)⟩
      subst e
      go_wp2_with fail
      go_ret
      exact ⟨rfl, rfl⟩
end Go.Proofs.Ytfbaaccnnogajaa
