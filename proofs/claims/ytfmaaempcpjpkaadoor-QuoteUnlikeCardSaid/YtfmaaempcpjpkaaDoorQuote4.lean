/- Characters: the walk of the document's fair. Condition: the place is in the row. -/
import Derived.Test.YtfmaaempcpjpkaaDoorQuote2
namespace Go.Proofs.YtfmaaempcpjpkaaDoor
open Go.RowKit Go.Deep

theorem retB4 {b c : Bool} (h : b = c) : Ending.returned (.bool b) = Ending.returned (.bool c) := by rw [h]
set_option maxRecDepth 100000 in
set_option maxHeartbeats 8000000 in
theorem fairD_any (A : Option Addr) (n c p : Nat) (l : List UInt8) (S : Blocks) (w : World) (hn : Hid (n = l.length)) (hl : Hid (SliceAt Rep.byte w S A c l)) (hp : p < n) (_ : n ≤ 281474976710656) (hs : 0 < Quote.sz (l.drop p)) :
    Calls Tryd.prog 56 #[.slice A n c, .int .i64 p, .int .i64 (Quote.sz (l.drop p) : Nat)] w fun e w' => e = .returned (.bool (Quote.fair (l.drop p) (Quote.sz (l.drop p)))) ∧ w = w' := by
  have hnc := hl.out.len
  have hcm := hl.out.max
  rw [← hn.out] at hnc
  have hpl : p < l.length := by have := hn.out; omega
  obtain ⟨g, o, rfl, hg, hc⟩ := hl.out.byte hpl
  have hdr : l.drop p = l[p] :: l.drop (p + 1) := List.drop_eq_getElem_cons hpl
  obtain ⟨x, hx⟩ : ∃ x, x = l[p] := ⟨_, rfl⟩
  rw [← hx] at hc hdr
  have hxl := x.toNat_lt
  have hpz : (p : Int) < (n : Int) := by omega
  clear hx
  have hle := Quote.sz_le (l.drop p)
  have h4 := Quote.sz_four (l.drop p)
  obtain ⟨m, hm⟩ : ∃ m, m = Quote.sz (l.drop p) := ⟨_, rfl⟩
  rw [← hm] at hs hle h4 ⊢
  rw [List.length_drop, ← hn.out] at hle
  have HF : Hid (Quote.fair (l.drop p) m = if m = 1 then decide (32 ≤ x.toNat ∧ x.toNat ≠ 127 ∧ x.toNat ≠ 34 ∧ x.toNat ≠ 92) else !decide (m = 2 ∧ x.toNat = 194 ∧ ((l.drop (p + 1)).getD 0 0).toNat < 160)) := Lib.hid (by rw [hdr]; rfl)
  by_cases h1 : m = 1
  · rw [h1] at HF ⊢
    rw [HF.out, if_pos rfl]
    clear HF hm
    obtain ⟨a, ha⟩ : ∃ a, a = x.toNat := ⟨_, rfl⟩
    rw [← ha] at hc hxl ⊢
    clear ha hdr hle hs h1 h4
    by_cases q1 : a < 32
    · have hd1 : decide (32 ≤ a ∧ a ≠ 127 ∧ a ≠ 34 ∧ a ≠ 92) = false := decide_eq_false (by omega)
      rw [hd1]
      go_enter Tryd.func56, Tryd.ntmps56
      go_wp2
      go_ret
      exact ⟨rfl, rfl⟩
    by_cases q2 : a = 127
    · have hd1 : decide (32 ≤ a ∧ a ≠ 127 ∧ a ≠ 34 ∧ a ≠ 92) = false := decide_eq_false (by omega)
      rw [hd1]
      subst q2
      go_enter Tryd.func56, Tryd.ntmps56
      go_wp2
      go_ret
      exact ⟨rfl, rfl⟩
    by_cases q3 : a = 34
    · have hd1 : decide (32 ≤ a ∧ a ≠ 127 ∧ a ≠ 34 ∧ a ≠ 92) = false := decide_eq_false (by omega)
      rw [hd1]
      subst q3
      go_enter Tryd.func56, Tryd.ntmps56
      go_wp2
      go_ret
      exact ⟨rfl, rfl⟩
    by_cases q4 : a = 92
    · have hd1 : decide (32 ≤ a ∧ a ≠ 127 ∧ a ≠ 34 ∧ a ≠ 92) = false := decide_eq_false (by omega)
      rw [hd1]
      subst q4
      go_enter Tryd.func56, Tryd.ntmps56
      go_wp2
      go_ret
      exact ⟨rfl, rfl⟩
    have hd1 : decide (32 ≤ a ∧ a ≠ 127 ∧ a ≠ 34 ∧ a ≠ 92) = true := decide_eq_true (by omega)
    rw [hd1]
    have f1 : (32 : Int) ≤ a := by omega
    have f2 : ((a : Int) != 127) = true := by rw [bne_iff_ne]; omega
    have f3 : ((a : Int) != 34) = true := by rw [bne_iff_ne]; omega
    have f4 : ((a : Int) != 92) = true := by rw [bne_iff_ne]; omega
    clear q1 q2 q3 q4
    go_enter Tryd.func56, Tryd.ntmps56
    go_wp2
    go_ret
    exact ⟨rfl, rfl⟩
  · rw [HF.out, if_neg h1]
    have f1 : ((m : Int) == 1) = false := by rw [beq_eq_false_iff_ne]; omega
    clear HF hm
    by_cases h2 : m = 2
    · subst h2
      have hpl1 : p + 1 < l.length := by have := hn.out; omega
      obtain ⟨g', o', hgo, -, hd⟩ := hl.out.byte hpl1
      simp only [Option.some.injEq, Addr.mk.injEq] at hgo
      obtain ⟨rfl, rfl, -⟩ := hgo
      have hpz1 : (p : Int) + 1 < (n : Int) := by omega
      have hdr1 : l.drop (p + 1) = l[p + 1] :: l.drop (p + 1 + 1) := List.drop_eq_getElem_cons hpl1
      obtain ⟨y, hy⟩ : ∃ y, y = l[p + 1] := ⟨_, rfl⟩
      rw [← hy] at hd hdr1
      rw [hdr1]
      simp only [List.getD_cons_zero]
      obtain ⟨a, ha⟩ : ∃ a, a = x.toNat := ⟨_, rfl⟩
      obtain ⟨b, hb⟩ : ∃ b, b = y.toNat := ⟨_, rfl⟩
      have hyl := y.toNat_lt
      rw [← ha] at hc hxl ⊢
      rw [← hb] at hd hyl ⊢
      clear ha hb hdr hdr1 hle hs h1 h4 hy
      by_cases q1 : a = 194
      · by_cases q2 : b < 160
        · have hd1 : decide (True ∧ a = 194 ∧ b < 160) = true := decide_eq_true ⟨trivial, q1, q2⟩
          rw [hd1]
          subst q1
          go_enter Tryd.func56, Tryd.ntmps56
          go_wp2
          go_ret
          exact ⟨retB4 (by first | rfl | (simp; omega)), rfl⟩
        · have hd1 : decide (True ∧ a = 194 ∧ b < 160) = false := decide_eq_false (fun h => q2 h.2.2)
          rw [hd1]
          subst q1
          go_enter Tryd.func56, Tryd.ntmps56
          go_wp2
          go_ret
          exact ⟨retB4 (by first | rfl | (simp; omega)), rfl⟩
      · have hd1 : decide (True ∧ a = 194 ∧ b < 160) = false := decide_eq_false (fun h => q1 h.2.1)
        rw [hd1]
        have f2 : ((a : Int) == 194) = false := by rw [beq_eq_false_iff_ne]; omega
        clear q1
        go_enter Tryd.func56, Tryd.ntmps56
        go_wp2
        go_ret
        exact ⟨retB4 (by first | rfl | (simp; omega)), rfl⟩
    · have hd1 : decide (m = 2 ∧ x.toNat = 194 ∧ ((l.drop (p + 1)).getD 0 0).toNat < 160) = false := decide_eq_false (by omega)
      rw [hd1]
      have f2 : ((m : Int) == 2) = false := by rw [beq_eq_false_iff_ne]; omega
      clear h1 h2
      go_enter Tryd.func56, Tryd.ntmps56
      go_wp2
      go_ret
      exact ⟨retB4 (by first | rfl | (simp; omega)), rfl⟩
end Go.Proofs.YtfmaaempcpjpkaaDoor
