/- Texts that lead to the claim, one behind the other: Two lists of texts compared: the walk of galleyref00.EqTexts. No conditions. -/
import Derived.Test.YtncpeogkccjmcaaProg
import Derived.Test.YtncpeogkccjmcaaTR41
import Derived.Test.YtncpeogkccjmcaaTR42
import Derived.WalkKit
import Derived.WalkSpells
import Derived.Deep.QuietTactic
import Derived.BigQuiet
import Derived.Lib.Hide
namespace Go.Proofs.Ytncpeogkccjmcaa
open Go.RowKit

theorem SliceAt.texts {w : World} {S : Blocks} {A : Option Addr} {c : Nat} {l : List ByteArray} (h : SliceAt Rep.str w S A c l) {i : Nat} (hi : i < l.length) :
    ∃ g o, A = some ⟨g, o, none⟩ ∧ S g ∧ w.cell? ⟨g, o + i, none⟩ = some (.string l[i]) ∧ l[i].size ≤ 9223372036854775807 := by
  obtain ⟨g, o, cs, e, hb, hc, rfl, hm⟩ := h.at_ hi
  have := hc.one
  rw [show Rep.str.n = 1 from rfl, Nat.mul_one] at this
  exact ⟨g, o, e, hb, this, by simpa [maxLen] using hm⟩
theorem texts_eq (a b : ByteArray) : (a.toList == b.toList) = decide (a = b) := by
  by_cases h : a = b
  · subst h; simp
  · rw [decide_eq_false h]
    exact Opts.str_no (l := b.toList) (by rw [ByteArray.toList_eq]; exact h)
set_option maxHeartbeats 1000000 in
theorem eqTexts (A B : Option Addr) (c d : Nat) (xs ys : List ByteArray) (w : World) (S S' : Blocks) (hx : SliceAt Rep.str w S A c xs) (hy : SliceAt Rep.str w S' B d ys) :
    Calls Try.prog 29 #[.slice A xs.length c, .slice B ys.length d] w fun e w' => e = .returned (.bool (decide (xs = ys))) ∧ ∃ n, w' = w.drewN n := by
  have hcx := hx.len
  have hcx' := hx.max
  have hcy := hy.len
  have hcy' := hy.max
  have HX := Lib.hid hx
  have HY := Lib.hid hy
  clear hx hy
  by_cases h : xs.length = ys.length
  · obtain ⟨n, hn⟩ : ∃ n, n = xs.length := ⟨_, rfl⟩
    have hn' : ys.length = n := by omega
    have HN := Lib.hid hn
    have HN' := Lib.hid hn'
    rw [← h, ← hn]
    rw [← hn] at hcx
    clear h hn hn' hcy
    have h2 : (n != n) = false := by simp
    go_enter Try.func29, Try.ntmps29
    go_wp2
    go_loopw [5] (fun i wr => ∃ k nd : Nat, k ≤ n ∧ i = .int .i64 k ∧ wr = w.drewN nd ∧ xs.take k = ys.take k) (fun i _ => n - (intOf i).toNat)
    case atStart => exact ⟨0, 0, Nat.zero_le _, rfl, rfl, rfl⟩
    case round =>
      obtain ⟨k, nd, hk, rfl, rfl, ht⟩ := hrel
      have HT := Lib.hid ht
      clear ht
      by_cases hlt : k < n
      · have hkx : k < xs.length := by have := HN.out; omega
        have hky : k < ys.length := by have := HN'.out; omega
        obtain ⟨g, o, rfl, -, hcx0, -⟩ := HX.out.texts hkx
        obtain ⟨g', o', rfl, -, hcy0, -⟩ := HY.out.texts hky
        have hkx' := Lib.hid hkx
        have hky' := Lib.hid hky
        obtain ⟨a, ha, hcx⟩ : ∃ a, a = xs[k] ∧ w.cell? ⟨g, o + k, none⟩ = some (.string a) := ⟨_, rfl, hcx0⟩
        obtain ⟨b, hb, hcy⟩ : ∃ b, b = ys[k] ∧ w.cell? ⟨g', o' + k, none⟩ = some (.string b) := ⟨_, rfl, hcy0⟩
        clear hcx0 hcy0
        by_cases he : xs[k] = ys[k]
        · obtain rfl : b = a := by rw [ha, hb, he]
          have h3 : (b.toList == b.toList) = true := by simp
          have HE := Lib.hid he
          clear he ha hb
          go_wp2
          go_quiet (fail)
          go_wp2
          go_roundw
          case rel => exact ⟨k + 1, nd + nq, by omega, by go_num, rfl, take_succ_eq HT.out hkx'.out hky'.out HE.out⟩
          case measure => simp [intOf]; omega
        · have h3 : (a.toList == b.toList) = false := by rw [texts_eq]; exact decide_eq_false (by rw [ha, hb]; exact he)
          have HE := Lib.hid (ne_of_at hkx hky he)
          clear he ha hb
          go_wp2
          go_quiet (fail)
          go_wp2
          go_ret
          exact ⟨retB HE.out, _, World.drewN_drewN _ _ _⟩
      · have hxy : decide (xs = ys) = true := by
          have h1 := HT.out
          rw [List.take_of_length_le (by have := HN.out; omega), List.take_of_length_le (by have := HN'.out; omega)] at h1
          exact decide_eq_true h1
        have HXY := Lib.hid hxy
        clear hxy
        go_wp2
        go_ret
        exact ⟨retB HXY.out, _, rfl⟩
  · have hd : decide (xs = ys) = false := by rw [decide_eq_false_iff_not]; rintro rfl; exact h rfl
    have h2 : (xs.length != ys.length) = true := by simpa using h
    have HD := Lib.hid hd
    clear h hd
    go_enter Try.func29, Try.ntmps29
    go_wp2
    go_ret
    exact ⟨retB HD.out, 0, rfl⟩

end Go.Proofs.Ytncpeogkccjmcaa
