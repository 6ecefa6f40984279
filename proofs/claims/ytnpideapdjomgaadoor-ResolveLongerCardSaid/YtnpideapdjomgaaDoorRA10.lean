/- Texts that lead to the claim, one behind the other: Is a text among texts: the walks of slices.Index, slices.Contains. No conditions. -/
import Derived.Test.YtnpideapdjomgaaDoorRA9
import Derived.Deep.LoopGhost
namespace Go.Proofs.YtnpideapdjomgaaDoor
open Go.RowKit Go.ChangeShapes Go.WideShapes Go.Deep

theorem strs_at {w : World} {S : Blocks} {A : Option Addr} {c : Nat} {l : List ByteArray} (h : SliceAt Rep.str w S A c l) {i : Nat} (hi : i < l.length) :
    ∃ g o, A = some ⟨g, o, none⟩ ∧ S g ∧ w.cell? ⟨g, o + i, none⟩ = some (.string l[i]) ∧ l[i].size ≤ 9223372036854775807 := by
  obtain ⟨g, o, cs, e, hb, hc, rfl, hm⟩ := h.at_ hi
  have := hc.one
  rw [show Rep.str.n = 1 from rfl, Nat.mul_one] at this
  exact ⟨g, o, e, hb, this, by simpa [maxLen] using hm⟩
theorem strs_eq (a b : ByteArray) : (a.toList == b.toList) = decide (a = b) := by
  by_cases h : a = b
  · subst h; simp
  · rw [decide_eq_false h, beq_eq_false_iff_ne]
    intro e
    rw [ByteArray.toList_eq, ByteArray.toList_eq] at e
    exact h (by cases a; cases b; simpa using e)
set_option maxRecDepth 100000 in
set_option maxHeartbeats 1000000 in
theorem strIndex_any (A : Option Addr) (n c : Nat) (xs : List ByteArray) (t : ByteArray) (w : World) (S : Blocks) (hn : Hid (n = xs.length)) (hx : Hid (SliceAt Rep.str w S A c xs)) :
    Calls Tryd.prog 39 #[.slice A n c, .string t] w fun e w' => (∃ i : Int, e = .returned (.int .i64 i) ∧ (0 ≤ i ↔ t ∈ xs)) ∧ w = w' := by
  have hnc : n ≤ c := by rw [hn.out]; exact hx.out.len
  have hcm := hx.out.max
  go_enter Tryd.func39, Tryd.ntmps39
  go_wp2_with fail
  go_loopg [8] n (fun k iv wr => ∃ (i : Nat), i ≤ n ∧ iv = .int .i64 i ∧ k = n - i ∧ wr = w ∧ Hid (t ∉ xs.take i))
  case atStart => exact ⟨0, Nat.zero_le _, rfl, rfl, rfl, Lib.hid (by simp)⟩
  case round =>
    obtain ⟨i, hi, rfl, rfl, rfl, HT⟩ := hrel
    rcases Nat.lt_or_ge i n with hlt | hge
    · have hil : i < xs.length := by rw [← hn.out]; exact hlt
      obtain ⟨g, o, rfl, -, hc1, -⟩ := strs_at hx.out hil
      obtain ⟨x, hx1⟩ : ∃ x, x = xs[i] := ⟨_, rfl⟩
      rw [← hx1] at hc1
      have hi1 : (i : Int) < (n : Int) := by omega
      have hi0 : (0 : Int) ≤ (i : Int) := Int.natCast_nonneg _
      have HX := Lib.hid hx1
      have HI := Lib.hid hil
      clear hx1
      by_cases he : t = x
      · have hb : (t.toList == x.toList) = true := by rw [strs_eq, decide_eq_true he]
        go_wp2_with fail
        go_ret
        refine ⟨⟨_, rfl, by constructor; intro _; rw [he, HX.out]; exact List.getElem_mem HI.out; intro _; omega⟩, rfl⟩
      · have hb : (t.toList == x.toList) = false := by rw [strs_eq, decide_eq_false he]
        go_wp2_with fail
        go_roundg (n - (i + 1))
        · exact ⟨i + 1, by omega, by go_num, rfl, rfl, Lib.hid (by
            rw [List.take_add_one, List.getElem?_eq_getElem HI.out]
            simp only [Option.toList_some, List.mem_append, List.mem_singleton, not_or]
            exact ⟨HT.out, by rw [← HX.out]; exact he⟩)⟩
        · omega
    · obtain rfl : i = n := by omega
      have HN := Lib.hid (show t ∉ xs by have := HT.out; rwa [hn.out, List.take_length] at this)
      go_wp2_with fail
      go_ret
      exact ⟨⟨_, rfl, by constructor; intro h; omega; intro h; exact absurd h HN.out⟩, rfl⟩
set_option maxRecDepth 100000 in
theorem strContains_any (A : Option Addr) (n c : Nat) (xs : List ByteArray) (t : ByteArray) (w : World) (S : Blocks) (hn : Hid (n = xs.length)) (hx : Hid (SliceAt Rep.str w S A c xs)) :
    Calls Tryd.prog 23 #[.slice A n c, .string t] w fun e w' => (∃ q, e = .returned (.bool q) ∧ (q = true ↔ t ∈ xs)) ∧ w = w' := by
  have HI := Lib.hid (strIndex_any A n c xs t w S hn hx)
  go_enter Tryd.func23, Tryd.ntmps23
  go_wp2_with fail
  refine HI.out.mono ?_
  rintro e w1 ⟨⟨i, rfl, hi⟩, rfl⟩
  go_wp2_with fail
  go_ret
  exact ⟨⟨_, rfl, by simpa using hi⟩, rfl⟩
end Go.Proofs.YtnpideapdjomgaaDoor
