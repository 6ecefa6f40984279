/- The document's Most, Shaped and Print (galleyref16), and fill.Most. Condition: room. -/
import Derived.Test.YtebbilkkacbfjaaDoorPrint2
import Derived.Test.YtebbilkkacbfjaaDoorShaped16
import Derived.Deep.LoopGhost
namespace Go.Proofs.YtebbilkkacbfjaaDoor
open Go.RowKit

def most (ps : List Piece) : Int := ps.foldl (fun n p => max n p.group) 0
theorem most_take (ps : List Piece) {i : Nat} (hi : i < ps.length) : most (ps.take (i + 1)) = max (most (ps.take i)) ps[i].group := by
  unfold most
  rw [List.take_succ_eq_append_getElem hi, List.foldl_append]; rfl
theorem most_nn (ps : List Piece) (i : Nat) (h : ∀ p ∈ ps, p.group ≤ 9223372036854775807) : 0 ≤ most (ps.take i) ∧ most (ps.take i) ≤ 9223372036854775807 := by
  induction i with
  | zero => simp [most]
  | succ i ih =>
    by_cases hi : i < ps.length
    · rw [most_take ps hi]
      have := h ps[i] (List.getElem_mem hi)
      omega
    · rw [List.take_of_length_le (by omega)]
      rw [List.take_of_length_le (by omega)] at ih
      exact ih
theorem groups_le {w : World} {S : Blocks} {A : Option Addr} {c : Nat} {l : List Piece} (h : SliceAt Rep.piece w S A c l) : ∀ p ∈ l, p.group ≤ 9223372036854775807 := fun p hp => by
  obtain ⟨i, hi, rfl⟩ := List.getElem_of_mem hp
  obtain ⟨_, _, _, _, _, _, _, _, _, h2⟩ := piece_at h (Same.refl _ _) hi
  exact h2
set_option maxRecDepth 100000 in
theorem refMost_any (A : Option Addr) (n ca : Nat) (ps : List Piece) (w : World) (S : Blocks) (hn : Hid (n = ps.length)) (hp : Hid (SliceAt Rep.piece w S A ca ps)) :
    Calls Tryd.prog 34 #[.slice A n ca] w fun e w' => e = .returned (.int .i64 (most ps)) ∧ w = w' := by
  have hnc : n ≤ ca := by rw [hn.out]; exact hp.out.len
  have hcm := hp.out.max
  have HG := Lib.hid (groups_le hp.out)
  go_enter Tryd.func34, Tryd.ntmps34
  go_wp2_with fail
  go_loopg [3, 4] n (fun q mv iv wr => ∃ (i : Nat) (x : Int), i ≤ n ∧ mv = .int .i64 x ∧ iv = .int .i64 i ∧ q = n - i ∧ wr = w ∧ Hid (x = most (ps.take i)))
  case atStart => exact ⟨0, 0, Nat.zero_le _, rfl, rfl, rfl, rfl, Lib.hid rfl⟩
  case round =>
    obtain ⟨i, x, hi, rfl, rfl, rfl, rfl, HX⟩ := hrel
    rcases Nat.lt_or_ge i n with hlt | hge
    · have hil : i < ps.length := by rw [← hn.out]; exact hlt
      obtain ⟨g, o, At, ct, rfl, k0, k1, -, hw1, hw2⟩ := piece_at hp.out (Same.refl _ _) hil
      have HT := Lib.hid (most_take ps hil)
      obtain ⟨y, hy⟩ : ∃ y, y = ps[i].group := ⟨_, rfl⟩
      rw [← hy] at k0 hw1 hw2 HT
      clear hy
      rcases Int.lt_or_le x y with hxy | hxy
      · go_wp2_with fail
        go_roundg (n - (i + 1))
        case measure => omega
        case rel => exact ⟨i + 1, y, by omega, rfl, by go_num, rfl, rfl, Lib.hid (by rw [HT.out, ← HX.out]; omega)⟩
      · go_wp2_with fail
        go_roundg (n - (i + 1))
        case measure => omega
        case rel => exact ⟨i + 1, x, by omega, rfl, by go_num, rfl, rfl, Lib.hid (by rw [HT.out, ← HX.out]; omega)⟩
    · obtain rfl : i = n := by omega
      have hx := HX.out
      rw [List.take_of_length_le (by rw [hn.out]; exact Nat.le_refl _)] at hx
      have HX2 := Lib.hid hx
      clear hx
      go_wp2_with fail
      go_ret
      refine ⟨?_, rfl⟩
      first | rfl | (rw [HX2.out]; done) | (rw [HX2.out]; rfl)
set_option maxRecDepth 100000 in
theorem fillMost_any (A : Option Addr) (n ca : Nat) (ps : List Piece) (w : World) (S : Blocks) (hn : Hid (n = ps.length)) (hp : Hid (SliceAt Rep.piece w S A ca ps)) (hS : Hid (∀ b, S b → b < w.heap.size)) :
    Calls Tryd.prog 30 #[.slice A n ca] w fun e w' => e = .returned (.int .i64 (most ps)) ∧ Below w.heap.size w w' := by
  have hnc : n ≤ ca := by rw [hn.out]; exact hp.out.len
  have hcm := hp.out.max
  have HG := Lib.hid (groups_le hp.out)
  go_enter Tryd.func30, Tryd.ntmps30
  go_wp2_with fail
  go_loopg [3, 8] n (fun q mv iv wr => ∃ (i : Nat) (x : Int), i ≤ n ∧ mv = .int .i64 x ∧ iv = .int .i64 i ∧ q = n - i ∧ Hid (Below w.heap.size w wr) ∧ Hid (x = most (ps.take i)))
  case atStart => exact ⟨0, 0, Nat.zero_le _, rfl, rfl, rfl, Lib.hid (Below.refl _ _), Lib.hid rfl⟩
  case round =>
    obtain ⟨i, x, hi, rfl, rfl, rfl, HB, HX⟩ := hrel
    rcases Nat.lt_or_ge i n with hlt | hge
    · have hil : i < ps.length := by rw [← hn.out]; exact hlt
      obtain ⟨g, o, At, ct, rfl, k0, k1, -, hw1, hw2⟩ := piece_at hp.out (Same.of_below HB.out hS.out) hil
      have HT := Lib.hid (most_take ps hil)
      obtain ⟨y, hy⟩ : ∃ y, y = ps[i].group := ⟨_, rfl⟩
      rw [← hy] at k0 hw1 hw2 HT
      have hsz := HB.out.size
      clear hy
      rcases Int.lt_or_le x y with hxy | hxy
      · have hxz : ¬ y ≤ x := by omega
        go_wp2_with fail
        go_roundg (n - (i + 1))
        case measure => omega
        case rel => exact ⟨i + 1, y, by omega, rfl, by go_num, rfl, Lib.hid (HB.out.alloc hsz _), Lib.hid (by rw [HT.out, ← HX.out]; omega)⟩
      · have hxz : ¬ x < y := by omega
        go_wp2_with fail
        go_roundg (n - (i + 1))
        case measure => omega
        case rel => exact ⟨i + 1, x, by omega, rfl, by go_num, rfl, Lib.hid (HB.out.alloc hsz _), Lib.hid (by rw [HT.out, ← HX.out]; omega)⟩
    · obtain rfl : i = n := by omega
      have hx := HX.out
      rw [List.take_of_length_le (by rw [hn.out]; exact Nat.le_refl _)] at hx
      have HX2 := Lib.hid hx
      clear hx
      go_wp2_with fail
      go_ret
      refine ⟨?_, HB.out⟩
      first | rfl | (rw [HX2.out]; done) | (rw [HX2.out]; rfl)
/-- Whether a text stands ahead of a place. -/
def ahead (ps : List Piece) (i : Nat) : Bool := decide (0 < i ∧ (ps[i - 1]?).map Piece.group = some (-1))
theorem ahead_next (ps : List Piece) {i : Nat} (hi : i < ps.length) : ahead ps (i + 1) = decide (ps[i].group = -1) := by
  simp [ahead, hi]
set_option maxRecDepth 100000 in
set_option maxHeartbeats 2000000 in
theorem refShaped_any (A : Option Addr) (n ca : Nat) (ps : List Piece) (w : World) (S : Blocks) (hn : Hid (n = ps.length)) (hp : Hid (SliceAt Rep.piece w S A ca ps)) (hS : Hid (∀ b, S b → b < w.heap.size)) :
    Calls Tryd.prog 35 #[.slice A n ca] w fun e w' => e = .returned (.bool (shaped ps)) ∧ Below w.heap.size w w' := by
  have hnc : n ≤ ca := by rw [hn.out]; exact hp.out.len
  have hcm := hp.out.max
  go_enter Tryd.func35, Tryd.ntmps35
  go_wp2_with fail
  go_loopg [3] n (fun q iv wr => ∃ (i : Nat), i ≤ n ∧ iv = .int .i64 i ∧ q = n - i ∧ Hid (Below w.heap.size w wr) ∧ Hid (shaped ps = shapedFrom (ahead ps i) (ps.drop i)))
  case atStart => exact ⟨0, Nat.zero_le _, rfl, rfl, Lib.hid (Below.refl _ _), Lib.hid (by simp [shaped, ahead])⟩
  case round =>
    obtain ⟨i, hi, rfl, rfl, HB, HX⟩ := hrel
    rcases Nat.lt_or_ge i n with hlt | hge
    · have hil : i < ps.length := by rw [← hn.out]; exact hlt
      have hsame := Same.of_below HB.out hS.out
      obtain ⟨g, o, At, ct, rfl, k0, k1, htx, hw1, hw2⟩ := piece_at hp.out hsame hil
      have hT : shaped ps = shapedFrom (ahead ps i) (ps[i] :: ps.drop (i + 1)) := by rw [HX.out, List.drop_eq_getElem_cons hil]
      have hA := ahead_next ps hil
      have hcl := htx.len
      have hclm := htx.max
      obtain ⟨⟨y, tx⟩, hy⟩ : ∃ y, y = ps[i] := ⟨_, rfl⟩
      rw [← hy] at k0 k1 hw1 hw2 hT hA hcl
      simp only at k0 k1 hw1 hw2 hcl
      obtain ⟨m, hm⟩ : ∃ m, m = tx.length := ⟨_, rfl⟩
      rw [← hm] at k1 hcl
      have hsz := HB.out.size
      have HM := Lib.hid hm
      have HT := Lib.hid hT
      have HA := Lib.hid hA
      have HBA := Lib.hid (fun ob => HB.out.alloc hsz ob)
      have htm : (tx = []) ↔ m = 0 := by rw [hm]; exact List.length_eq_zero_iff.symm
      have HTM := Lib.hid htm
      clear hy hm hT hA htx hsame htm
      by_cases h1 : y < -1 ∨ 9 < y
      · have hf : shaped ps = false := by rw [HT.out]; rw [shapedFrom_cons, if_neg (by simp only; omega), if_neg (by simp only; omega)]
        have HF := Lib.hid hf
        clear hf
        rcases h1 with h1 | h1
        · go_wp2_with fail
          go_ret
          exact ⟨by rw [HF.out]; rfl, HBA.out _⟩
        · have h0 : ¬ y < -1 := by omega
          go_wp2_with fail
          go_ret
          exact ⟨by rw [HF.out]; rfl, HBA.out _⟩
      · have h2 : ¬ y < -1 := by omega
        have h3 : ¬ 9 < y := by omega
        clear h1
        by_cases hg : y = -1
        · subst hg
          rcases Nat.eq_zero_or_pos m with h0 | h0
          · have hf : shaped ps = false := by rw [HT.out, shapedFrom_cons, if_pos rfl]; simp [HTM.out.2 h0]
            have HF := Lib.hid hf
            subst h0
            clear hf
            go_wp2_with fail
            go_ret
            exact ⟨by rw [HF.out]; rfl, HBA.out _⟩
          · have hne : tx ≠ [] := fun e => by have := HTM.out.1 e; omega
            have hT2 : shaped ps = (!ahead ps i && shapedFrom true (ps.drop (i + 1))) := by rw [HT.out, shapedFrom_cons, if_pos rfl]; simp [hne]
            have HT2 := Lib.hid hT2
            have hm0 : decide ((0 : Int) < (m : Int)) = true := decide_eq_true (by omega)
            clear hne hT2
            rcases Nat.eq_zero_or_pos i with hi0 | hi0
            · subst hi0
              simp only [Nat.zero_mul, Nat.add_zero] at k0 k1
              have hX2 : shaped ps = shapedFrom (ahead ps 1) (ps.drop 1) := by rw [HT2.out, HA.out]; simp [ahead]
              have HXX := Lib.hid hX2
              clear hX2
              go_wp2_with fail
              go_roundg (n - 1)
              case measure => omega
              case rel => exact ⟨1, by omega, by go_num, rfl, Lib.hid (HBA.out _), HXX⟩
            · obtain ⟨j, rfl⟩ : ∃ j, i = j + 1 := ⟨i - 1, by omega⟩
              have hjl : j < ps.length := by omega
              obtain ⟨g', o', _, _, he, k2, -, -, hv1, hv2⟩ := piece_at hp.out (Same.of_below HB.out hS.out) hjl
              simp only [Option.some.injEq, Addr.mk.injEq] at he
              obtain ⟨rfl, rfl, -⟩ := he
              obtain ⟨z, hz⟩ : ∃ z, z = ps[j].group := ⟨_, rfl⟩
              have hAj : ahead ps (j + 1) = decide (z = -1) := by rw [hz]; exact ahead_next ps hjl
              rw [← hz] at k2 hv1 hv2
              have k3 := fun ob => (Below.cell (B := wr.heap.size) ((Below.refl _ wr).alloc (Nat.le_refl _) ob) (World.block_lt_of_cell? wr _ k2)).trans k2
              have HAJ := Lib.hid hAj
              have hjn : (j : Int) < (n : Int) := by omega
              have hj0 : (0 : Int) ≤ (j : Int) := Int.natCast_nonneg _
              clear hz hAj k2
              by_cases hz : z = -1
              · subst hz
                have HF : Hid (shaped ps = false) := Lib.hid (by rw [HT2.out, HAJ.out]; simp)
                go_wp2_with fail
                go_ret
                exact ⟨by rw [HF.out]; rfl, HBA.out _⟩
              · have hzb : (z == -1) = false := by simpa using hz
                have HXX : Hid (shaped ps = shapedFrom (ahead ps (j + 1 + 1)) (ps.drop (j + 1 + 1))) := Lib.hid (by rw [HT2.out, HA.out, HAJ.out]; simp [hz])
                clear hz
                go_wp2_with fail
                go_roundg (n - (j + 1 + 1))
                case measure => omega
                case rel => exact ⟨j + 1 + 1, by omega, by go_num, rfl, Lib.hid (HBA.out _), HXX⟩
        · have hgb : (y == -1) = false := by simpa using hg
          have hgn : (0 : Int) ≤ y ∧ y ≤ 9 := by omega
          rcases Nat.eq_zero_or_pos m with h0 | h0
          · have HXX : Hid (shaped ps = shapedFrom (ahead ps (i + 1)) (ps.drop (i + 1))) := Lib.hid (by
              rw [HT.out, HA.out]
              rw [shapedFrom_cons, if_neg hg, if_pos hgn]
              simp [HTM.out.2 h0, hg])
            subst h0
            clear hg
            rcases Nat.eq_zero_or_pos i with hi0 | hi0
            · subst hi0
              simp only [Nat.zero_mul, Nat.add_zero, Nat.zero_add] at k0 k1 HXX
              go_wp2_with fail
              go_roundg (n - 1)
              case measure => omega
              case rel => exact ⟨1, by omega, by go_num, rfl, Lib.hid (HBA.out _), HXX⟩
            · obtain ⟨j, rfl⟩ : ∃ j, i = j + 1 := ⟨i - 1, by omega⟩
              go_wp2_with fail
              go_roundg (n - (j + 1 + 1))
              case measure => omega
              case rel => exact ⟨j + 1 + 1, by omega, by go_num, rfl, Lib.hid (HBA.out _), HXX⟩
          · have hne : tx ≠ [] := fun e => by have := HTM.out.1 e; omega
            have HF : Hid (shaped ps = false) := Lib.hid (by
              rw [HT.out, shapedFrom_cons, if_neg hg, if_pos hgn]; simp [hne])
            have hm0 : decide ((0 : Int) < (m : Int)) = true := decide_eq_true (by omega)
            clear hg hne
            go_wp2_with fail
            go_ret
            exact ⟨by rw [HF.out]; rfl, HBA.out _⟩
    · obtain rfl : i = n := by omega
      have hx := HX.out
      rw [List.drop_of_length_le (by rw [hn.out]; exact Nat.le_refl _)] at hx
      have HX2 : Hid (shaped ps = true) := Lib.hid (by rw [hx]; simp [shapedFrom])
      clear hx
      go_wp2_with fail
      go_ret
      exact ⟨by rw [HX2.out]; rfl, HB.out⟩
end Go.Proofs.YtebbilkkacbfjaaDoor
