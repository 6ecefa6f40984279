/- Two lists of instructions compared: the walk of galleyref00.EqInstrs. No conditions. -/
import Derived.Test.YtfbaaccnnogajaaProg
import Derived.Test.YtfbaaccnnogajaaEqBools
import Derived.Test.YtfbaaccnnogajaaShapedM
import Derived.WalkKit
import Derived.WalkSpells
import Derived.Deep.QuietTactic
import Derived.BigQuiet
import Derived.Lib.Hide
namespace Go.Proofs.Ytfbaaccnnogajaa
open Go.RowKit

set_option maxRecDepth 100000 in
set_option maxHeartbeats 2000000 in
theorem eqInstrs (A B : Option Addr) (c d : Nat) (xs ys : List Instr) (w : World) (S S' : Blocks) (hx : SliceAt Rep.instr w S A c xs) (hy : SliceAt Rep.instr w S' B d ys) :
    Calls Try.prog 13 #[.slice A xs.length c, .slice B ys.length d] w fun e w' => e = .returned (.bool (decide (xs = ys))) ∧ ∃ n, w' = w.drewN n := by
  have hcx := hx.len
  have hcx' := hx.max
  have hcy := hy.len
  have hcy' := hy.max
  have HX := Lib.hid hx
  have HY := Lib.hid hy
  clear hx hy
  by_cases h : xs.length = ys.length
  · obtain ⟨n, hn⟩ : ∃ n, n = xs.length := ⟨_, rfl⟩
    have hn' : ys.length = n := by omega
    have HN := Lib.hid hn
    have HN' := Lib.hid hn'
    rw [← h, ← hn]
    rw [← hn] at hcx
    clear h hn hn' hcy
    have h2 : (n != n) = false := by simp
    go_enter Try.func13, Try.ntmps13
    go_wp2
    go_loopw [5] (fun i wr => ∃ k nd : Nat, k ≤ n ∧ i = .int .i64 k ∧ wr = w.drewN nd ∧ xs.take k = ys.take k) (fun i _ => n - (intOf i).toNat)
    case atStart => exact ⟨0, 0, Nat.zero_le _, rfl, rfl, rfl⟩
    case round =>
      obtain ⟨k, nd, hk, rfl, rfl, ht⟩ := hrel
      have HT := Lib.hid ht
      clear ht
      by_cases hlt : k < n
      · have hkx : k < xs.length := by have := HN.out; omega
        have hky : k < ys.length := by have := HN'.out; omega
        obtain ⟨g, o, rfl, -, hcx, -⟩ := instr_at HX.out (Same.refl _ w) hkx
        obtain ⟨g', o', rfl, -, hcy, -⟩ := instr_at HY.out (Same.refl _ w) hky
        obtain ⟨⟨op, ⟨c0, c1, c2, c3⟩, X, Y⟩, hbx⟩ : ∃ x, x = xs[k] := ⟨_, rfl⟩
        obtain ⟨⟨op', ⟨c0', c1', c2', c3'⟩, X', Y'⟩, hby⟩ : ∃ x, x = ys[k] := ⟨_, rfl⟩
        rw [← hbx] at hcx
        rw [← hby] at hcy
        have hneq := run_neq_instrB ⟨op, ⟨c0, c1, c2, c3⟩, X, Y⟩ ⟨op', ⟨c0', c1', c2', c3'⟩, X', Y'⟩
        simp only [icells] at hcx hcy hneq
        have k0 := hcx 0 _ rfl
        have k1 := hcx 1 _ rfl
        have k2 := hcx 2 _ rfl
        have k3 := hcx 3 _ rfl
        have k4 := hcx 4 _ rfl
        have k5 := hcx 5 _ rfl
        have k6 := hcx 6 _ rfl
        have m0 := hcy 0 _ rfl
        have m1 := hcy 1 _ rfl
        have m2 := hcy 2 _ rfl
        have m3 := hcy 3 _ rfl
        have m4 := hcy 4 _ rfl
        have m5 := hcy 5 _ rfl
        have m6 := hcy 6 _ rfl
        simp only [Nat.add_zero] at k0 k1 k2 k3 k4 k5 k6 m0 m1 m2 m3 m4 m5 m6
        clear hcx hcy
        by_cases he : xs[k] = ys[k]
        · rw [(Instr.eqB_iff _ _).2 (by rw [hbx, hby]; exact he)] at hneq
          have HE := Lib.hid he
          have hkx' := Lib.hid hkx
          have hky' := Lib.hid hky
          clear he hbx hby
          simp only [Bool.not_true] at hneq
          go_wp2_with fail
          go_quiet (fail)
          go_wp2_with fail
          go_roundw
          case rel => exact ⟨k + 1, nd + nq, by omega, by go_num, rfl, take_succ_eq HT.out hkx'.out hky'.out HE.out⟩
          case measure => simp [intOf]; omega
        · have hE2 : Instr.eqB ⟨op, ⟨c0, c1, c2, c3⟩, X, Y⟩ ⟨op', ⟨c0', c1', c2', c3'⟩, X', Y'⟩ = false := by
            rw [Bool.eq_false_iff]; intro h; rw [Instr.eqB_iff, hbx, hby] at h; exact he h
          rw [hE2] at hneq
          have HE := Lib.hid (ne_of_at hkx hky he)
          clear he hbx hby hE2
          simp only [Bool.not_false] at hneq
          go_wp2_with fail
          go_quiet (fail)
          go_wp2_with fail
          go_ret
          exact ⟨retB HE.out, _, World.drewN_drewN _ _ _⟩
      · have hxy : decide (xs = ys) = true := by
          have h1 := HT.out
          rw [List.take_of_length_le (by have := HN.out; omega), List.take_of_length_le (by have := HN'.out; omega)] at h1
          exact decide_eq_true h1
        have HXY := Lib.hid hxy
        clear hxy
        go_wp2
        go_ret
        exact ⟨retB HXY.out, _, rfl⟩
  · have hd : decide (xs = ys) = false := by rw [decide_eq_false_iff_not]; rintro rfl; exact h rfl
    have h2 : (xs.length != ys.length) = true := by simpa using h
    have HD := Lib.hid hd
    clear h hd
    go_enter Try.func13, Try.ntmps13
    go_wp2
    go_ret
    exact ⟨retB HD.out, 0, rfl⟩
end Go.Proofs.Ytfbaaccnnogajaa
