/- Two pieces, two lists of pieces compared: the walks of galleyref00.EqPiece and EqPieces (of lists that read alike). No conditions. -/
import Derived.Test.YtebbilkkacbfjaaDoorProg
import Derived.Test.YtebbilkkacbfjaaDoorPieces
import Derived.Test.YtebbilkkacbfjaaDoorEqBytes
import Derived.WalkKit
import Derived.WalkSpells
import Derived.Deep.QuietTactic
import Derived.BigQuiet
import Derived.Lib.Hide
import Derived.Deep.DeepMust
import Derived.Deep.RegionHeld3
namespace Go.Proofs.YtebbilkkacbfjaaDoor
open Go.RowKit

set_option maxHeartbeats 1000000 in
theorem eqPiece_true (g : Int) (A B : Option Addr) (n c d : Nat) (xs : List UInt8) (w : World) (hn : Hid (n = xs.length)) (S S' : Blocks) (hx : SliceAt Rep.byte w S A c xs) (hy : SliceAt Rep.byte w S' B d xs) (hS : ∀ b, S b → b < w.heap.size) (hS' : ∀ b, S' b → b < w.heap.size) :
    Calls Tryd.prog 40 #[.agg #[.int .i64 g, .slice A n c], .agg #[.int .i64 g, .slice B n d]] w fun e w' => e = .returned (.bool true) ∧ Below w.heap.size w w' := by
  obtain ⟨W, hW⟩ : ∃ W, W = (w.alloc (.cells #[.int .i64 g, .slice A n c] 81)).alloc (.cells #[.int .i64 g, .slice B n d] 81) := ⟨_, rfl⟩
  have hb : Below w.heap.size w W := by rw [hW]; exact ((Below.refl _ w).alloc (Nat.le_refl _) _).alloc (by simp) _
  have HX := Lib.hid (hx.keep (fun _ h => h) (Same.of_below hb hS))
  have HY := Lib.hid (hy.keep (fun _ h => h) (Same.of_below hb hS'))
  have HB := Lib.hid hb
  have HW := Lib.hid hW
  clear hx hy hS hS' hb hW
  go_enter Tryd.func40, Tryd.ntmps40
  go_wp2_with fail
  rw [← HW.out, hn.out]
  refine (eqBytes _ _ _ _ _ _ _ _ _ HX.out HY.out).mono ?_
  rintro e w' ⟨rfl, k, rfl⟩
  have ht : decide (xs = xs) = true := by simp
  rw [ht]
  go_wp2_with fail
  go_ret
  exact ⟨rfl, ⟨HB.out.os, HB.out.tape, HB.out.output, HB.out.size, HB.out.block⟩⟩

set_option maxHeartbeats 1000000 in
theorem eqPieces_true (A B : Option Addr) (n c d : Nat) (l : List Piece) (w : World) (hn : Hid (n = l.length)) (hx : SliceAt Rep.piece w (under w.heap.size) A c l) (hy : SliceAt Rep.piece w (under w.heap.size) B d l) :
    Calls Tryd.prog 13 #[.slice A n c, .slice B n d] w fun e w' => e = .returned (.bool true) ∧ Below w.heap.size w w' := by
  have HX := Lib.hid hx
  have HY := Lib.hid hy
  have h1 := hx.max
  have h2 := hx.len
  have h3 := hy.len
  have h4 := hy.max
  rw [← hn.out] at h2 h3
  clear hx hy
  go_enter Tryd.func13, Tryd.ntmps13
  go_wp2
  go_loopw [5] (fun i wr => ∃ (k : Nat), k ≤ n ∧ i = .int .i64 k ∧ Below w.heap.size w wr) (fun i _ => n - (intOf i).toNat)
  case atStart => exact ⟨0, Nat.zero_le _, rfl, Below.refl _ _⟩
  case round =>
    obtain ⟨k, hk, rfl, hbw⟩ := hrel
    have HBW := Lib.hid hbw
    by_cases hlt : k < n
    · have hkl : k < l.length := by have := hn.out; omega
      obtain ⟨g1, o1, A1, c1, rfl, hc0, hc1, htx, -, -⟩ := piece_at HX.out (Same.of_below hbw fun _ h => h) hkl
      obtain ⟨g2, o2, B1, d1, rfl, hd0, hd1, hty, -, -⟩ := piece_at HY.out (Same.of_below hbw fun _ h => h) hkl
      obtain ⟨p, hpe⟩ : ∃ p, p = l[k] := ⟨_, rfl⟩
      rw [← hpe] at hc0 hc1 htx hd0 hd1 hty
      obtain ⟨m, hm⟩ : ∃ m, m = p.text.length := ⟨_, rfl⟩
      have HM := Lib.hid hm
      rw [← hm] at hc1 hd1
      have hS : ∀ b, under w.heap.size b → b < wr.heap.size := fun b (h : b < _) => Nat.lt_of_lt_of_le h hbw.size
      have HTX := Lib.hid htx
      have HTY := Lib.hid hty
      have HSS := Lib.hid hS
      obtain ⟨gr, hgr⟩ : ∃ gr, gr = p.group := ⟨_, rfl⟩
      rw [← hgr] at hc0 hd0
      have HK : Hid (∀ wa wb : World, (Below wr.heap.size wr wa ∧ wa.cell? ⟨g1, o1 + k * 2, none⟩ = some (.int .i64 gr) ∧ wa.cell? ⟨g1, o1 + k * 2 + 1, none⟩ = some (.slice A1 m c1) ∧ wa.cell? ⟨g2, o2 + k * 2, none⟩ = some (.int .i64 gr) ∧ wa.cell? ⟨g2, o2 + k * 2 + 1, none⟩ = some (.slice B1 m d1)) → Below wa.heap.size wa wb →
          (Below wr.heap.size wr wb ∧ wb.cell? ⟨g1, o1 + k * 2, none⟩ = some (.int .i64 gr) ∧ wb.cell? ⟨g1, o1 + k * 2 + 1, none⟩ = some (.slice A1 m c1) ∧ wb.cell? ⟨g2, o2 + k * 2, none⟩ = some (.int .i64 gr) ∧ wb.cell? ⟨g2, o2 + k * 2 + 1, none⟩ = some (.slice B1 m d1))) := by
        rintro wa wb ⟨a0, a1, a2, a3, a4⟩ hb
        exact ⟨a0.trans (hb.mono a0.size), (hb.cell (World.block_lt_of_cell? wa _ a1)).trans a1, (hb.cell (World.block_lt_of_cell? wa _ a2)).trans a2, (hb.cell (World.block_lt_of_cell? wa _ a3)).trans a3, (hb.cell (World.block_lt_of_cell? wa _ a4)).trans a4⟩
      have HK0 : Hid (Below wr.heap.size wr wr.drew ∧ wr.drew.cell? ⟨g1, o1 + k * 2, none⟩ = some (.int .i64 gr) ∧ wr.drew.cell? ⟨g1, o1 + k * 2 + 1, none⟩ = some (.slice A1 m c1) ∧ wr.drew.cell? ⟨g2, o2 + k * 2, none⟩ = some (.int .i64 gr) ∧ wr.drew.cell? ⟨g2, o2 + k * 2 + 1, none⟩ = some (.slice B1 m d1)) :=
        ⟨⟨rfl, rfl, rfl, Nat.le_refl _, fun _ _ => rfl⟩, hc0, hc1, hd0, hd1⟩
      have HEQ : Hid (∀ wa : World, (Below wr.heap.size wr wa ∧ wa.cell? ⟨g1, o1 + k * 2, none⟩ = some (.int .i64 gr) ∧ wa.cell? ⟨g1, o1 + k * 2 + 1, none⟩ = some (.slice A1 m c1) ∧ wa.cell? ⟨g2, o2 + k * 2, none⟩ = some (.int .i64 gr) ∧ wa.cell? ⟨g2, o2 + k * 2 + 1, none⟩ = some (.slice B1 m d1)) →
          Calls Tryd.prog 40 #[.agg #[.int .i64 gr, .slice A1 m c1], .agg #[.int .i64 gr, .slice B1 m d1]] wa fun e w' => e = .returned (.bool true) ∧ Below wa.heap.size wa w') := by
        rintro wa ⟨a0, -⟩
        exact eqPiece_true _ _ _ _ _ _ p.text _ HM _ _ (HTX.out.keep (fun _ h => h) (Same.of_below a0 HSS.out)) (HTY.out.keep (fun _ h => h) (Same.of_below a0 HSS.out)) (fun b hb => Nat.lt_of_lt_of_le (HSS.out b hb) a0.size) (fun b hb => Nat.lt_of_lt_of_le (HSS.out b hb) a0.size)
      clear hbw htx hty hS hpe hgr hm
      go_wp2
      go_region_held3 (fun wa => Below wr.heap.size wr wa ∧ wa.cell? ⟨g1, o1 + k * 2, none⟩ = some (.int .i64 gr) ∧ wa.cell? ⟨g1, o1 + k * 2 + 1, none⟩ = some (.slice A1 m c1) ∧ wa.cell? ⟨g2, o2 + k * 2, none⟩ = some (.int .i64 gr) ∧ wa.cell? ⟨g2, o2 + k * 2 + 1, none⟩ = some (.slice B1 m d1))
        (first | exact HK0.out | exact HK.out _ _ (by assumption) (by assumption))
        (first | (go_at_call 40; refine (HEQ.out _ (by assumption)).mono ?_; rintro e w2 ⟨rfl, hb2⟩))
      all_goals go_wp2
      go_roundw
      case rel => exact ⟨k + 1, by omega, by go_num, HBW.out.trans (Below.mono (And.left (by assumption)) HBW.out.size)⟩
      case measure => simp [intOf]; omega
    · obtain rfl : k = n := by omega
      go_wp2
      go_ret
      exact ⟨rfl, hbw⟩
end Go.Proofs.YtebbilkkacbfjaaDoor
