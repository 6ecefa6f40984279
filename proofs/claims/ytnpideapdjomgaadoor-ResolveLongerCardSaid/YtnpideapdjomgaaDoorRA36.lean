/- Texts that lead to the claim, one behind the other: The greatest group of pieces: the walk of fill.Most. No conditions. -/
import Derived.Test.YtnpideapdjomgaaDoorProg
import Derived.Test.YtnpideapdjomgaaDoorRA5
import Derived.WalkKit
import Derived.WalkSpells
import Derived.Deep.LoopGhost
import Derived.Deep.DeepMust
namespace Go.Proofs.YtnpideapdjomgaaDoor
open Go.RowKit

def most (ps : List Piece) : Int := ps.foldl (fun n p => max n p.group) 0
theorem most_take (ps : List Piece) {i : Nat} (hi : i < ps.length) : most (ps.take (i + 1)) = max (most (ps.take i)) ps[i].group := by
  unfold most
  rw [List.take_succ_eq_append_getElem hi, List.foldl_append]; rfl
theorem most_nn (ps : List Piece) (i : Nat) (h : ∀ p ∈ ps, p.group ≤ 9223372036854775807) : 0 ≤ most (ps.take i) ∧ most (ps.take i) ≤ 9223372036854775807 := by
  induction i with
  | zero => simp [most]
  | succ i ih =>
    by_cases hi : i < ps.length
    · rw [most_take ps hi]
      have := h ps[i] (List.getElem_mem hi)
      omega
    · rw [List.take_of_length_le (by omega)]
      rw [List.take_of_length_le (by omega)] at ih
      exact ih
theorem groups_le {w : World} {S : Blocks} {A : Option Addr} {c : Nat} {l : List Piece} (h : SliceAt Rep.piece w S A c l) : ∀ p ∈ l, p.group ≤ 9223372036854775807 := fun p hp => by
  obtain ⟨i, hi, rfl⟩ := List.getElem_of_mem hp
  obtain ⟨_, _, _, _, _, _, _, _, _, h2⟩ := piece_at h (Same.refl _ _) hi
  exact h2
set_option maxRecDepth 100000 in
theorem fillMost_any (A : Option Addr) (n ca : Nat) (ps : List Piece) (w : World) (S : Blocks) (hn : Hid (n = ps.length)) (hp : Hid (SliceAt Rep.piece w S A ca ps)) (hS : Hid (∀ b, S b → b < w.heap.size)) :
    Calls Tryd.prog 33 #[.slice A n ca] w fun e w' => e = .returned (.int .i64 (most ps)) ∧ Below w.heap.size w w' := by
  have hnc : n ≤ ca := by rw [hn.out]; exact hp.out.len
  have hcm := hp.out.max
  have HG := Lib.hid (groups_le hp.out)
  go_enter Tryd.func33, Tryd.ntmps33
  go_wp2_with fail
  go_loopg [3, 8] n (fun q mv iv wr => ∃ (i : Nat) (x : Int), i ≤ n ∧ mv = .int .i64 x ∧ iv = .int .i64 i ∧ q = n - i ∧ Hid (Below w.heap.size w wr) ∧ Hid (x = most (ps.take i)))
  case atStart => exact ⟨0, 0, Nat.zero_le _, rfl, rfl, rfl, Lib.hid (Below.refl _ _), Lib.hid rfl⟩
  case round =>
    obtain ⟨i, x, hi, rfl, rfl, rfl, HB, HX⟩ := hrel
    rcases Nat.lt_or_ge i n with hlt | hge
    · have hil : i < ps.length := by rw [← hn.out]; exact hlt
      obtain ⟨g, o, At, ct, rfl, k0, k1, -, hw1, hw2⟩ := piece_at hp.out (Same.of_below HB.out hS.out) hil
      have HT := Lib.hid (most_take ps hil)
      obtain ⟨y, hy⟩ : ∃ y, y = ps[i].group := ⟨_, rfl⟩
      rw [← hy] at k0 hw1 hw2 HT
      have hsz := HB.out.size
      clear hy
      rcases Int.lt_or_le x y with hxy | hxy
      · have hxz : ¬ y ≤ x := by omega
        go_wp2_with fail
        go_roundg (n - (i + 1))
        case measure => omega
        case rel => exact ⟨i + 1, y, by omega, rfl, by go_num, rfl, Lib.hid (HB.out.alloc hsz _), Lib.hid (by rw [HT.out, ← HX.out]; omega)⟩
      · have hxz : ¬ x < y := by omega
        go_wp2_with fail
        go_roundg (n - (i + 1))
        case measure => omega
        case rel => exact ⟨i + 1, x, by omega, rfl, by go_num, rfl, Lib.hid (HB.out.alloc hsz _), Lib.hid (by rw [HT.out, ← HX.out]; omega)⟩
    · obtain rfl : i = n := by omega
      have hx := HX.out
      rw [List.take_of_length_le (by rw [hn.out]; exact Nat.le_refl _)] at hx
      have HX2 := Lib.hid hx
      clear hx
      go_wp2_with fail
      go_ret
      refine ⟨?_, HB.out⟩
      first | rfl | (rw [HX2.out]; done) | (rw [HX2.out]; rfl)
end Go.Proofs.YtnpideapdjomgaaDoor
