/- Texts that lead to the claim, one behind the other: Go's own bytes.Equal, HasPrefix, HasSuffix, CutSuffix: their walks, in the reading of a slice as a list. No conditions. -/
import Derived.Test.YtnpideapdjomgaaDoorProg
import Derived.Test.YtnpideapdjomgaaDoorRA0
import Derived.Test.YtnpideapdjomgaaDoorRA2
import Derived.WalkKit
import Derived.WalkSpells
import Derived.Deep.QuietTactic
import Derived.BigQuiet
import Derived.Lib.Hide
import Derived.Deep.DeepMust
namespace Go.Proofs.YtnpideapdjomgaaDoor
open Go.RowKit

set_option maxHeartbeats 1000000 in
theorem bytesEqual (A B : Option Addr) (n c m d : Nat) (xs ys : List UInt8) (w : World) (b : Bool) (hn : n = xs.length) (hm : m = ys.length) (hb : decide (xs = ys) = b) (S S' : Blocks) (hx : SliceAt Rep.byte w S A c xs) (hy : SliceAt Rep.byte w S' B d ys) :
    Calls Tryd.prog 36 #[.slice A n c, .slice B m d] w fun e w' => e = .returned (.bool b) ∧ w' = w := by
  have e1 := run_bytes_string (P := Tryd.prog) w 39 5 9 Tryd.underlying39 Tryd.underlying5 Tryd.underlying9 S A n c xs hn.symm hx
  have e2 := run_bytes_string (P := Tryd.prog) w 39 5 9 Tryd.underlying39 Tryd.underlying5 Tryd.underlying9 S' B m d ys hm.symm hy
  have hq : (xs == ys) = b := by rw [← hb]; by_cases h : xs = ys <;> simp [h]
  have HQ := Lib.hid hq
  clear hq hn hm hb hx hy
  go_enter Tryd.func36, Tryd.ntmps36
  go_wp2
  go_ret
  exact ⟨by rw [← HQ.out]; rfl, rfl⟩

set_option maxHeartbeats 1000000 in
theorem hasPrefix_any (A B : Option Addr) (n c m d : Nat) (xs ys : List UInt8) (w : World) (b : Bool) (hn : Hid (n = xs.length)) (hm : Hid (m = ys.length)) (hb : ys.isPrefixOf xs = b) (S S' : Blocks) (hx : SliceAt Rep.byte w S A c xs) (hy : SliceAt Rep.byte w S' B d ys) :
    Calls Tryd.prog 21 #[.slice A n c, .slice B m d] w fun e w' => e = .returned (.bool b) ∧ w' = w := by
  have h1 := hx.len
  have h2 := hx.max
  rw [← hn.out] at h1
  by_cases h : m ≤ n
  · have hml : m ≤ xs.length := by have := hn.out; omega
    have hcut := hx.cutTo hml
    have hq : decide (xs.take m = ys) = b := by
      rw [← hb]
      cases hp : ys.isPrefixOf xs with
      | true =>
        obtain ⟨t, rfl⟩ := List.isPrefixOf_iff_prefix.1 hp
        rw [hm.out]; simp
      | false =>
        rw [decide_eq_false_iff_not]
        intro e
        have : ys.isPrefixOf xs = true := by rw [List.isPrefixOf_iff_prefix, ← e]; exact List.take_prefix _ _
        rw [hp] at this; cases this
    have hlen : m = (xs.take m).length := by simp; omega
    have heq : Hid (Calls Tryd.prog 36 #[.slice A m c, .slice B m d] w fun e w' => e = .returned (.bool b) ∧ w' = w) := bytesEqual A B m c m d _ ys w b hlen hm.out hq S S' hcut hy
    have hmc : m ≤ c := by omega
    clear hcut hq hlen hx hy hb hml
    go_enter Tryd.func21, Tryd.ntmps21
    go_wp2_with (go_at_call 36; refine heq.out.mono ?_; rintro e w' ⟨rfl, rfl⟩)
    go_ret
    exact ⟨rfl, rfl⟩
  · have hq : b = false := by
      rw [← hb]
      cases hp : ys.isPrefixOf xs with
      | true =>
        have := (List.isPrefixOf_iff_prefix.1 hp).length_le
        have := hn.out; have := hm.out; omega
      | false => rfl
    have h' : ¬ (m : Int) ≤ n := by omega
    clear hx hy hb
    subst hq
    go_enter Tryd.func21, Tryd.ntmps21
    go_wp2
    go_ret
    exact ⟨rfl, rfl⟩
end Go.Proofs.YtnpideapdjomgaaDoor
