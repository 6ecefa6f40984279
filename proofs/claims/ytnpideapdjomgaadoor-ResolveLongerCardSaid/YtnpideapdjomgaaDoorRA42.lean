/- Texts that lead to the claim, one behind the other: Two lists of pieces compared, whatever they are: the walks of EqPiece, EqPieces. No conditions. -/
import Derived.Test.YtnpideapdjomgaaDoorRA11
import Derived.Test.YtnpideapdjomgaaDoorRA41
import Derived.Deep.RegionHeld3
namespace Go.Proofs.YtnpideapdjomgaaDoor
open Go.RowKit Go.ChangeShapes Go.WideShapes Go.Deep

deriving instance DecidableEq for Piece
def Piece.eqB (p q : Piece) : Bool := decide (p.group = q.group) && decide (p.text = q.text)
theorem Piece.eqB_eq (p q : Piece) : p.eqB q = decide (p = q) := by
  cases p; cases q
  unfold Piece.eqB
  rw [Bool.eq_iff_iff]
  simp
theorem piece_any (A B : Option Addr) (n m c d : Nat) (g h : Int) (xs ys : List UInt8) (w : World) (S : Blocks) (hn : Hid (n = xs.length)) (hm : Hid (m = ys.length)) (hx : Hid (SliceAt Rep.byte w S A c xs)) (hy : Hid (SliceAt Rep.byte w S B d ys)) (hS : Hid (∀ b, S b → b < w.heap.size)) :
    Calls Tryd.prog 60 #[.agg #[.int .i64 g, .slice A n c], .agg #[.int .i64 h, .slice B m d]] w fun e w' => e = .returned (.bool (decide (g = h) && decide (xs = ys))) ∧ Below w.heap.size w w' := by
  have HC : Hid (∀ W, Below w.heap.size w W → Calls Tryd.prog 13 #[.slice A n c, .slice B m d] W fun e w' => e = .returned (.bool (decide (xs = ys))) ∧ Below w.heap.size w w') := Lib.hid fun W hW => by
    rw [hn.out, hm.out]
    refine (eqBytes A B c d xs ys W S S (hx.out.keep (fun _ h => h) (Same.of_below hW hS.out)) (hy.out.keep (fun _ h => h) (Same.of_below hW hS.out))).mono ?_
    rintro e w' ⟨rfl, k, rfl⟩
    exact ⟨rfl, ⟨hW.os, hW.tape, hW.output, hW.size, hW.block⟩⟩
  obtain ⟨r, hr⟩ : ∃ r, r = decide (xs = ys) := ⟨_, rfl⟩
  rw [← hr] at HC ⊢
  clear hr
  go_enter Tryd.func60, Tryd.ntmps60
  go_wp2_with (first | (go_at_call 13; refine (HC.out _ (((Below.refl _ w).alloc (Nat.le_refl _) _).alloc (by simp) _)).mono ?_; rintro e w1 ⟨rfl, hb1⟩; have HB1 := Lib.hid hb1; clear hb1))
  all_goals go_ret
  all_goals first
    | (refine ⟨?_, HB1.out⟩; simp [*]; done)
    | (refine ⟨?_, ((Below.refl _ w).alloc (Nat.le_refl _) _).alloc (by simp) _⟩; simp [*]; done)
set_option maxRecDepth 100000 in
set_option maxHeartbeats 2000000 in
theorem eqPieces_any (A B : Option Addr) (n c m d : Nat) (xs ys : List Piece) (w : World) (S : Blocks) (hn : Hid (n = xs.length)) (hm : Hid (m = ys.length)) (hx : Hid (SliceAt Rep.piece w S A c xs)) (hy : Hid (SliceAt Rep.piece w S B d ys)) (hS : Hid (∀ b, S b → b < w.heap.size)) :
    Calls Tryd.prog 53 #[.slice A n c, .slice B m d] w fun e w' => e = .returned (.bool (decide (xs = ys))) ∧ Below w.heap.size w w' := by
  have hnc : n ≤ c := by rw [hn.out]; exact hx.out.len
  have hcm := hx.out.max
  have hmd : m ≤ d := by rw [hm.out]; exact hy.out.len
  have hdm := hy.out.max
  by_cases hnm : n = m
  · subst hnm
    have d0 : decide ((n : Int) = (n : Int)) = true := by simp
    go_enter Tryd.func53, Tryd.ntmps53
    go_wp2_with fail
    go_loopg [5] n (fun k iv wr => ∃ (i : Nat), i ≤ n ∧ iv = .int .i64 i ∧ k = n - i ∧ Hid (Below w.heap.size w wr) ∧ Hid (xs.take i = ys.take i))
    case atStart => exact ⟨0, Nat.zero_le _, rfl, rfl, Lib.hid (Below.refl _ _), Lib.hid (by simp)⟩
    case round =>
      obtain ⟨i, hi, rfl, rfl, HB, HE⟩ := hrel
      by_cases hin : i < n
      · have hix : i < xs.length := by rw [← hn.out]; exact hin
        have hiy : i < ys.length := by rw [← hm.out]; exact hin
        obtain ⟨g1, o1, A1, c1, rfl, hc0, hc1, htx, -, -⟩ := piece_at hx.out (Same.of_below HB.out hS.out) hix
        obtain ⟨g2, o2, B1, d1, rfl, hd0, hd1, hty, -, -⟩ := piece_at hy.out (Same.of_below HB.out hS.out) hiy
        obtain ⟨x, hX⟩ : ∃ x, x = xs[i] := ⟨_, rfl⟩
        obtain ⟨y, hY⟩ : ∃ y, y = ys[i] := ⟨_, rfl⟩
        rw [← hX] at hc0 hc1 htx
        rw [← hY] at hd0 hd1 hty
        have HS : Hid (xs.take (i + 1) = xs.take i ++ [x] ∧ ys.take (i + 1) = ys.take i ++ [y]) := Lib.hid (by rw [hX, hY]; exact ⟨List.take_succ_eq_append_getElem hix, List.take_succ_eq_append_getElem hiy⟩)
        have HNE : Hid (x ≠ y → xs ≠ ys) := Lib.hid fun h e => by subst e; exact h (by rw [hX, hY])
        clear hX hY hix hiy
        obtain ⟨m1, hm1⟩ : ∃ m1, m1 = x.text.length := ⟨_, rfl⟩
        obtain ⟨m2, hm2⟩ : ∃ m2, m2 = y.text.length := ⟨_, rfl⟩
        rw [← hm1] at hc1
        rw [← hm2] at hd1
        have HM1 := Lib.hid hm1
        have HM2 := Lib.hid hm2
        have HTX := Lib.hid htx
        have HTY := Lib.hid hty
        obtain ⟨ga, hga⟩ : ∃ g, g = x.group := ⟨_, rfl⟩
        obtain ⟨gb, hgb⟩ : ∃ g, g = y.group := ⟨_, rfl⟩
        rw [← hga] at hc0
        rw [← hgb] at hd0
        obtain ⟨r, hr⟩ : ∃ r, r = decide (x = y) := ⟨_, rfl⟩
        have HR := Lib.hid hr
        have HSS : Hid (∀ b, S b → b < wr.heap.size) := Lib.hid fun b hb => Nat.lt_of_lt_of_le (hS.out b hb) HB.out.size
        have HEQ : Hid (∀ W, Below wr.heap.size wr W → Calls Tryd.prog 60 #[.agg #[.int .i64 ga, .slice A1 m1 c1], .agg #[.int .i64 gb, .slice B1 m2 d1]] W fun e w' => e = .returned (.bool r) ∧ Below W.heap.size W w') := Lib.hid fun W hW => by
          refine (piece_any A1 B1 m1 m2 c1 d1 ga gb x.text y.text W S HM1 HM2 (Lib.hid (HTX.out.keep (fun _ h => h) (Same.of_below hW HSS.out))) (Lib.hid (HTY.out.keep (fun _ h => h) (Same.of_below hW HSS.out))) (Lib.hid fun b hb => Nat.lt_of_lt_of_le (HSS.out b hb) hW.size)).mono ?_
          rintro e w' ⟨rfl, h⟩
          exact ⟨by rw [hga, hgb, hr, ← Piece.eqB_eq]; rfl, h⟩
        have HK : Hid (∀ wa wb : World, (Below wr.heap.size wr wa ∧ wa.cell? ⟨g1, o1 + i * 2, none⟩ = some (.int .i64 ga) ∧ wa.cell? ⟨g1, o1 + i * 2 + 1, none⟩ = some (.slice A1 m1 c1) ∧ wa.cell? ⟨g2, o2 + i * 2, none⟩ = some (.int .i64 gb) ∧ wa.cell? ⟨g2, o2 + i * 2 + 1, none⟩ = some (.slice B1 m2 d1)) → Below wa.heap.size wa wb →
            (Below wr.heap.size wr wb ∧ wb.cell? ⟨g1, o1 + i * 2, none⟩ = some (.int .i64 ga) ∧ wb.cell? ⟨g1, o1 + i * 2 + 1, none⟩ = some (.slice A1 m1 c1) ∧ wb.cell? ⟨g2, o2 + i * 2, none⟩ = some (.int .i64 gb) ∧ wb.cell? ⟨g2, o2 + i * 2 + 1, none⟩ = some (.slice B1 m2 d1))) := by
          rintro wa wb ⟨a0, a1, a2, a3, a4⟩ hb
          exact ⟨a0.trans (hb.mono a0.size), (hb.cell (World.block_lt_of_cell? wa _ a1)).trans a1, (hb.cell (World.block_lt_of_cell? wa _ a2)).trans a2, (hb.cell (World.block_lt_of_cell? wa _ a3)).trans a3, (hb.cell (World.block_lt_of_cell? wa _ a4)).trans a4⟩
        have HK0 : Hid (Below wr.heap.size wr wr.drew ∧ wr.drew.cell? ⟨g1, o1 + i * 2, none⟩ = some (.int .i64 ga) ∧ wr.drew.cell? ⟨g1, o1 + i * 2 + 1, none⟩ = some (.slice A1 m1 c1) ∧ wr.drew.cell? ⟨g2, o2 + i * 2, none⟩ = some (.int .i64 gb) ∧ wr.drew.cell? ⟨g2, o2 + i * 2 + 1, none⟩ = some (.slice B1 m2 d1)) :=
          Lib.hid ⟨⟨rfl, rfl, rfl, Nat.le_refl _, fun _ _ => rfl⟩, hc0, hc1, hd0, hd1⟩
        clear htx hty hm1 hm2 hga hgb hr
        cases r
        all_goals
          go_wp2
          go_region_held3 (fun wa => Below wr.heap.size wr wa ∧ wa.cell? ⟨g1, o1 + i * 2, none⟩ = some (.int .i64 ga) ∧ wa.cell? ⟨g1, o1 + i * 2 + 1, none⟩ = some (.slice A1 m1 c1) ∧ wa.cell? ⟨g2, o2 + i * 2, none⟩ = some (.int .i64 gb) ∧ wa.cell? ⟨g2, o2 + i * 2 + 1, none⟩ = some (.slice B1 m2 d1))
            (first | exact HK0.out | exact HK.out _ _ (by assumption) (by assumption) | fail)
            (first | (go_at_call 60; refine (HEQ.out _ (And.left (by assumption))).mono ?_; rintro e w2 ⟨rfl, hb2⟩) | fail)
        · all_goals go_wp2
          go_ret
          exact ⟨by rw [decide_eq_false (HNE.out (by have := HR.out; intro e; rw [decide_eq_true e] at this; cases this))]; rfl, HB.out.trans (Below.mono (And.left (by assumption)) HB.out.size)⟩
        · all_goals go_wp2
          go_roundg (n - (i + 1))
          case measure => omega
          case rel => exact ⟨i + 1, by omega, by go_num, rfl, Lib.hid (HB.out.trans (Below.mono (And.left (by assumption)) HB.out.size)), Lib.hid (by rw [HS.out.1, HS.out.2, HE.out, of_decide_eq_true HR.out.symm])⟩
      · obtain rfl : i = n := by omega
        have he : xs = ys := by
          have := HE.out
          rwa [List.take_of_length_le (by rw [← hn.out]; exact Nat.le_refl _), List.take_of_length_le (by rw [← hm.out]; exact Nat.le_refl _)] at this
        have HQ := Lib.hid (decide_eq_true he)
        clear he
        go_wp2_with fail
        go_ret
        exact ⟨by rw [HQ.out]; rfl, HB.out⟩
  · have he : xs ≠ ys := fun e => hnm (by rw [hn.out, hm.out, e])
    have HQ := Lib.hid (decide_eq_false he)
    have hz : (n : Int) ≠ (m : Int) := by omega
    clear he
    go_enter Tryd.func53, Tryd.ntmps53
    go_wp2_with fail
    go_ret
    exact ⟨by rw [HQ.out]; rfl, Below.refl _ _⟩
end Go.Proofs.YtnpideapdjomgaaDoor
