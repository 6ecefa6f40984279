/- Go's own bytes.Equal, HasPrefix, HasSuffix, CutSuffix: their walks, in the reading of a slice as a list. No conditions. -/
import Derived.Test.YtgbjcpnlllaeeaaDoorProg
import Derived.Test.YtgbjcpnlllaeeaaDoorMem
import Derived.Test.YtgbjcpnlllaeeaaDoorStBytes
import Derived.WalkKit
import Derived.WalkSpells
import Derived.Deep.QuietTactic
import Derived.BigQuiet
import Derived.Lib.Hide
import Derived.Deep.DeepMust
namespace Go.Proofs.YtgbjcpnlllaeeaaDoor
open Go.RowKit

set_option maxHeartbeats 1000000 in
theorem bytesEqual (A B : Option Addr) (n c m d : Nat) (xs ys : List UInt8) (w : World) (b : Bool) (hn : n = xs.length) (hm : m = ys.length) (hb : decide (xs = ys) = b) (S S' : Blocks) (hx : SliceAt Rep.byte w S A c xs) (hy : SliceAt Rep.byte w S' B d ys) :
    Calls Tryd.prog 46 #[.slice A n c, .slice B m d] w fun e w' => e = .returned (.bool b) ∧ w' = w := by
  have e1 := run_bytes_string (P := Tryd.prog) w 22 5 9 Tryd.underlying22 Tryd.underlying5 Tryd.underlying9 S A n c xs hn.symm hx
  have e2 := run_bytes_string (P := Tryd.prog) w 22 5 9 Tryd.underlying22 Tryd.underlying5 Tryd.underlying9 S' B m d ys hm.symm hy
  have hq : (xs == ys) = b := by rw [← hb]; by_cases h : xs = ys <;> simp [h]
  have HQ := Lib.hid hq
  clear hq hn hm hb hx hy
  go_enter Tryd.func46, Tryd.ntmps46
  go_wp2
  go_ret
  exact ⟨by rw [← HQ.out]; rfl, rfl⟩

set_option maxHeartbeats 1000000 in
theorem hasPrefix_any (A B : Option Addr) (n c m d : Nat) (xs ys : List UInt8) (w : World) (b : Bool) (hn : Hid (n = xs.length)) (hm : Hid (m = ys.length)) (hb : ys.isPrefixOf xs = b) (S S' : Blocks) (hx : SliceAt Rep.byte w S A c xs) (hy : SliceAt Rep.byte w S' B d ys) :
    Calls Tryd.prog 21 #[.slice A n c, .slice B m d] w fun e w' => e = .returned (.bool b) ∧ w' = w := by
  have h1 := hx.len
  have h2 := hx.max
  rw [← hn.out] at h1
  by_cases h : m ≤ n
  · have hml : m ≤ xs.length := by have := hn.out; omega
    have hcut := hx.cutTo hml
    have hq : decide (xs.take m = ys) = b := by
      rw [← hb]
      cases hp : ys.isPrefixOf xs with
      | true =>
        obtain ⟨t, rfl⟩ := List.isPrefixOf_iff_prefix.1 hp
        rw [hm.out]; simp
      | false =>
        rw [decide_eq_false_iff_not]
        intro e
        have : ys.isPrefixOf xs = true := by rw [List.isPrefixOf_iff_prefix, ← e]; exact List.take_prefix _ _
        rw [hp] at this; cases this
    have hlen : m = (xs.take m).length := by simp; omega
    have heq : Hid (Calls Tryd.prog 46 #[.slice A m c, .slice B m d] w fun e w' => e = .returned (.bool b) ∧ w' = w) := bytesEqual A B m c m d _ ys w b hlen hm.out hq S S' hcut hy
    have hmc : m ≤ c := by omega
    clear hcut hq hlen hx hy hb hml
    go_enter Tryd.func21, Tryd.ntmps21
    go_wp2_with (go_at_call 46; refine heq.out.mono ?_; rintro e w' ⟨rfl, rfl⟩)
    go_ret
    exact ⟨rfl, rfl⟩
  · have hq : b = false := by
      rw [← hb]
      cases hp : ys.isPrefixOf xs with
      | true =>
        have := (List.isPrefixOf_iff_prefix.1 hp).length_le
        have := hn.out; have := hm.out; omega
      | false => rfl
    have h' : ¬ (m : Int) ≤ n := by omega
    clear hx hy hb
    subst hq
    go_enter Tryd.func21, Tryd.ntmps21
    go_wp2
    go_ret
    exact ⟨rfl, rfl⟩

set_option maxHeartbeats 1000000 in
theorem hasSuffix_any (A B : Option Addr) (n c m d : Nat) (xs ys : List UInt8) (w : World) (b : Bool) (hn : Hid (n = xs.length)) (hm : Hid (m = ys.length)) (hb : ys.isSuffixOf xs = b) (S S' : Blocks) (hx : SliceAt Rep.byte w S A c xs) (hy : SliceAt Rep.byte w S' B d ys) :
    Calls Tryd.prog 45 #[.slice A n c, .slice B m d] w fun e w' => e = .returned (.bool b) ∧ w' = w := by
  have h1 := hx.len
  have h2 := hx.max
  rw [← hn.out] at h1
  by_cases h : m ≤ n
  · obtain ⟨k, rfl⟩ : ∃ k, n = k + m := ⟨n - m, by omega⟩
    have hkl : k ≤ xs.length := by have := hn.out; omega
    have hcut := hx.cutFromA (s := 1) hkl rfl
    have hq : decide (xs.drop k = ys) = b := by
      rw [← hb]
      cases hp : ys.isSuffixOf xs with
      | true =>
        obtain ⟨t, rfl⟩ := List.isSuffixOf_iff_suffix.1 hp
        have : k = t.length := by have e1 := hn.out; have e2 := hm.out; rw [List.length_append] at e1; omega
        rw [this]; simp
      | false =>
        rw [decide_eq_false_iff_not]
        intro e
        have : ys.isSuffixOf xs = true := by rw [List.isSuffixOf_iff_suffix, ← e]; exact List.drop_suffix _ _
        rw [hp] at this; cases this
    have hlen : m = (xs.drop k).length := by have := hn.out; simp; omega
    have heq : Hid (Calls Tryd.prog 46 #[.slice (cutA A c k 1) m (c - k), .slice B m d] w fun e w' => e = .returned (.bool b) ∧ w' = w) := bytesEqual _ B m _ m d _ ys w b hlen hm.out hq _ S' hcut hy
    have hs : ∀ W : World, (Instr.sliceAt 22 (.slice A (k + m) c) (some (.int .i64 (k : Int))) none none).run Tryd.prog W = .ok (.slice (cutA A c k 1) m (c - k)) W := by
      intro W
      have := run_slice_from (P := Tryd.prog) W stBytes A (k + m) c k (by omega)
      rw [this, Nat.add_sub_cancel_left]
    clear hcut hq hlen hx hy hb hkl
    go_enter Tryd.func45, Tryd.ntmps45
    go_wp2_with (go_at_call 46; refine heq.out.mono ?_; rintro e w' ⟨rfl, rfl⟩)
    go_ret
    exact ⟨rfl, rfl⟩
  · have hq : b = false := by
      rw [← hb]
      cases hp : ys.isSuffixOf xs with
      | true =>
        have := (List.isSuffixOf_iff_suffix.1 hp).length_le
        have := hn.out; have := hm.out; omega
      | false => rfl
    have h' : ¬ (m : Int) ≤ n := by omega
    clear hx hy hb
    subst hq
    go_enter Tryd.func45, Tryd.ntmps45
    go_wp2
    go_ret
    exact ⟨rfl, rfl⟩

set_option maxHeartbeats 1000000 in
theorem cutSuffix_yes (A B : Option Addr) (k c m d : Nat) (xs ys : List UInt8) (w : World) (hn : Hid (k + m = xs.length)) (hm : Hid (m = ys.length)) (hb : ys.isSuffixOf xs = true) (S S' : Blocks) (hx : SliceAt Rep.byte w S A c xs) (hy : SliceAt Rep.byte w S' B d ys) :
    Calls Tryd.prog 20 #[.slice A (k + m : Nat) c, .slice B m d] w fun e w' => e = .returned (.tuple #[.slice A k c, .bool true]) ∧ w' = w := by
  have h1 := hx.len
  have h2 := hx.max
  rw [← hn.out] at h1
  have hs : Hid (Calls Tryd.prog 45 #[.slice A (k + m : Nat) c, .slice B m d] w fun e w' => e = .returned (.bool true) ∧ w' = w) := hasSuffix_any A B _ c m d xs ys w true hn hm hb S S' hx hy
  have hkc : k ≤ c := by omega
  clear hx hy hb
  go_enter Tryd.func20, Tryd.ntmps20
  go_wp2_with (go_at_call 45; refine hs.out.mono ?_; rintro e w' ⟨rfl, rfl⟩)
  go_ret2
  exact ⟨rfl, rfl⟩
set_option maxHeartbeats 1000000 in
theorem cutSuffix_no (A B : Option Addr) (n c m d : Nat) (xs ys : List UInt8) (w : World) (hn : Hid (n = xs.length)) (hm : Hid (m = ys.length)) (hb : ys.isSuffixOf xs = false) (S S' : Blocks) (hx : SliceAt Rep.byte w S A c xs) (hy : SliceAt Rep.byte w S' B d ys) :
    Calls Tryd.prog 20 #[.slice A n c, .slice B m d] w fun e w' => e = .returned (.tuple #[.slice A n c, .bool false]) ∧ w' = w := by
  have hs : Hid (Calls Tryd.prog 45 #[.slice A n c, .slice B m d] w fun e w' => e = .returned (.bool false) ∧ w' = w) := hasSuffix_any A B _ c m d xs ys w false hn hm hb S S' hx hy
  clear hx hy hb
  go_enter Tryd.func20, Tryd.ntmps20
  go_wp2_with (go_at_call 45; refine hs.out.mono ?_; rintro e w' ⟨rfl, rfl⟩)
  go_ret2
  exact ⟨rfl, rfl⟩
end Go.Proofs.YtgbjcpnlllaeeaaDoor
