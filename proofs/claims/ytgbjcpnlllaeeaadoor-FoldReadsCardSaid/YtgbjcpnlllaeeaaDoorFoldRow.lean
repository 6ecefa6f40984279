/- Bytes shown: the walk of fold.Row. Conditions: the table of letters lies as its initialiser lays it; at most 2^30 bytes. -/
import Derived.Test.YtgbjcpnlllaeeaaDoorProg
import Derived.Test.YtgbjcpnlllaeeaaDoorFold
import Derived.WalkKit
import Derived.WalkSpells
import Derived.Deep.QuietTactic
import Derived.BigQuiet
import Derived.Lib.Hide
import Derived.Deep.DeepMust
namespace Go.Proofs.YtgbjcpnlllaeeaaDoor
open Go.RowKit

/-- Two rows of bytes of the call's own, unlike. -/
structure Two (w wr : World) (vo : Value) (lo : List UInt8) (vp : Value) (lp : List UInt8) : Prop where
  o : Own Rep.byte 5 wr w.heap.size nob vo lo
  p : Own Rep.byte 5 wr w.heap.size nob vp lp
  ne : ∀ q, vo.ownBlock = some q → vp.ownBlock ≠ some q
  bel : Below w.heap.size w wr
theorem Two.alloc {w wr : World} {vo vp : Value} {lo lp : List UInt8} (h : Two w wr vo lo vp lp) (ob : Obj) : Two w (wr.alloc ob) vo lo vp lp := ⟨h.o.alloc _, h.p.alloc _, h.ne, h.bel.alloc h.bel.size _⟩
theorem Two.append {w wr w1 : World} {vo vp v1 : Value} {lo lp l1 : List UInt8} (h : Two w wr vo lo vp lp) (ho : Own Rep.byte 5 w1 w.heap.size nob v1 l1) (hg : wr.grownBy w1 vo.ownBlock) (hat : v1.ownBlock = vo.ownBlock ∨ v1.ownBlock = some wr.heap.size) : Two w w1 v1 l1 vp lp := by
  refine ⟨ho, h.p.mono hg ?_ (fun _ h => h.elim), fun q hq => ?_, below_own h.bel h.o hg h.bel.size⟩
  · cases hv : vo.ownBlock with
    | none =>
      cases hp : vp.ownBlock with
      | none => exact .inl rfl
      | some q => exact .inr (by simp)
    | some q => exact .inr (h.ne q hv)
  · rcases hat with e | e
    · exact h.ne q (e.symm.trans hq)
    · rw [e] at hq; injection hq with hq; subst hq
      intro hp
      have := (h.p.block_lt hp).2
      omega
theorem Two.piece {w wr w1 : World} {vo : Value} {lo lp : List UInt8} {A : Option Addr} {n c : Nat} {b : UInt8} {e : Ending} (h : Two w wr vo lo (.slice A n c) lp) (ha : PieceAns (.slice A 0 c) [] b wr w.heap.size e w1) :
    ∃ v1, e = .returned v1 ∧ Two w w1 vo lo v1 (Fold.piece b) := by
  obtain ⟨v1, he, h1, hon, hat⟩ := ha
  have hsame : (Value.slice A 0 c).ownBlock = (Value.slice A n c).ownBlock := by cases A <;> rfl
  rw [hsame] at hon hat
  refine ⟨v1, he, h.o.only hon (fun q hq e => h.ne q hq e.symm), by simpa using h1, fun q hq => ?_, h.bel.trans (hon.below h.bel.size fun q hq => (h.p.block_lt hq.symm).1)⟩
  rcases hat with e | ⟨q', e, hq'⟩
  · rw [e]; exact h.ne q hq
  · rw [e]; intro hh; injection hh with hh; subst hh
    have := (h.o.block_lt hq).2
    omega

set_option maxRecDepth 100000 in
set_option maxHeartbeats 4000000 in
theorem row_wide (A : Option Addr) (n ca : Nat) (W : Nat) (b : List UInt8) (w : World) (hn : Hid (n = b.length)) (hb : SliceAt Rep.byte w (under w.heap.size) A ca b) (hL : Hid (Ltrs w)) (h0 : 0 < w.heap.size) (hsize : n ≤ 4294967296) (h4 : (4 : Int) ≤ W) :
    Calls Tryd.prog 10 #[.slice A n ca, .int .i64 W] w fun e w' => ∃ v, e = .returned v ∧ Own Rep.byte 5 w' w.heap.size nob v (Fold.Row W b) ∧ Below w.heap.size w w' := by
  have HB := Lib.hid hb
  have h1 := hb.len
  have h2 := hb.max
  rw [← hn.out] at h1
  clear hb
  go_enter Tryd.func10, Tryd.ntmps10
  go_wp2
  go_loopw [5, 6, 7, 14] (fun vo vp row i wr => ∃ (k r : Nat) (lo lp : List UInt8), k ≤ n ∧ i = .int .i64 k ∧ row = .int .i64 r ∧ Two w wr vo lo vp lp ∧ Fold.rowGo W 0 b = lo ++ Fold.rowGo W r (b.drop k) ∧ lo.length ≤ 6 * k ∧ r ≤ 4 * k) (fun _ _ _ i _ => n - (intOf i).toNat)
  case atStart => exact ⟨0, 0, [], [], Nat.zero_le _, rfl, rfl, ⟨Own.nil _ _ _ _, Own.nil _ _ _ _, fun q hq => by simp [Value.ownBlock] at hq, Below.refl _ _⟩, rfl, by simp, by omega⟩
  case round =>
    obtain ⟨k, r, lo, lp, hk, rfl, rfl, ht, hgo, hlo, hr⟩ := hrel
    by_cases hlt : k < n
    · have hkb : k < b.length := by have := hn.out; omega
      obtain ⟨g1, o1, rfl, hg1, hcw⟩ := HB.out.byte hkb
      have hc := (ht.bel.cell (p := ⟨g1, o1 + k, none⟩) (World.block_lt_of_cell? w _ hcw)).trans hcw
      have hdrop := List.drop_eq_getElem_cons hkb
      obtain ⟨c, hce⟩ : ∃ c, c = b[k] := ⟨_, rfl⟩
      rw [← hce] at hc hdrop
      rw [hdrop] at hgo
      obtain ⟨Ap, np, cp, rfl, -, -, hcp⟩ := ht.p.form
      have hL2 : Hid (Ltrs wr) := hL.out.below ht.bel h0
      have hpl := Fold.piece_len c
      obtain ⟨m, hm⟩ : ∃ m, m = (Fold.piece c).length := ⟨_, rfl⟩
      have hz := ht.bel.size
      have HT := Lib.hid ht
      have HGO := Lib.hid hgo
      have HM := Lib.hid hm
      have HLO := Lib.hid hlo
      have hm1 : 1 ≤ m := by omega
      have hm4 : m ≤ 4 := by omega
      clear ht hgo hce hdrop hcw hpl hm hlo
      by_cases hbr : ((W : Nat) : Int) < (r : Int) + (m : Int)
      · have hgo2 : Fold.rowGo W 0 b = (lo ++ [92, 10] ++ Fold.piece c) ++ Fold.rowGo W m (b.drop (k + 1)) := by
          rw [HGO.out]
          show lo ++ (if r + (Fold.piece c).length > W then _ else _) = _
          rw [if_pos (by have := HM.out; omega), ← HM.out]
          simp only [List.append_assoc]
        have HGO2 := Lib.hid hgo2
        have hbr' : decide (((W : Nat) : Int) < (r : Int) + (m : Int)) = true := by simpa using hbr
        clear hgo2
        go_wp2_with (first | (go_at_call 23; refine (piece_any (.slice Ap 0 cp) [] c wr w.heap.size hz HT.out.p.cut0 (by simp) hL2).mono ?_; rintro e w2 ha; obtain ⟨v2, rfl, ht2⟩ := HT.out.piece ha; obtain ⟨A2, n2, c2, rfl, hn2, h2c, hc2⟩ := ht2.p.form; obtain rfl : m = n2 := HM.out.trans hn2.out.symm; have HT2 := Lib.hid ht2; clear ha ht2) | (at_builtin; refine wpList_append_bytes _ rfl (.tmp 28) (.tmp 29) 22 rfl w.heap.size 5 stBytes _ _ rfl (HT2.out.o.alloc _) _ _ _ _ [92, 10] rfl (SliceAt.newBytes _ _ _ [92, 10] 2 (by simp) (by simp [maxLen]) rfl) rfl (by have := HLO.out; omega) (by have := HT2.out.bel.size; simp; omega) ?_; intro v3 w3 hown3 hg3 hat3; have HT3 := Lib.hid ((HT2.out.alloc _).append hown3 hg3 hat3); clear hown3 hg3 hat3) | (at_builtin; obtain ⟨A5, n5, c5, he5, hn5, h5a, h5b, hs5⟩ := HT3.out.p.read; cases he5; refine wpList_append_bytes _ rfl (.tmp 31) (.tmp 32) 22 rfl w.heap.size 5 stBytes _ _ rfl HT3.out.o _ _ _ _ _ rfl hs5 hn5.out.symm (by have := HLO.out; simp; omega) HT3.out.bel.size ?_; intro v4 w4 hown4 hg4 hat4; have HT4 := Lib.hid (HT3.out.append hown4 hg4 hat4); clear hown4 hg4 hat4 hs5))
        go_roundw
        case rel => exact ⟨k + 1, m, _, _, by omega, by go_num, rfl, HT4.out, HGO2.out, by have := HLO.out; have := HM.out; simp; omega, by omega⟩
        case measure => simp [intOf]; omega
      · have hgo2 : Fold.rowGo W 0 b = (lo ++ Fold.piece c) ++ Fold.rowGo W (r + m) (b.drop (k + 1)) := by
          rw [HGO.out]
          show lo ++ (if r + (Fold.piece c).length > W then _ else _) = _
          rw [if_neg (by have := HM.out; omega), ← HM.out]
          simp only [List.append_assoc]
        have HGO2 := Lib.hid hgo2
        have hbr' : decide (((W : Nat) : Int) < (r : Int) + (m : Int)) = false := by simpa using hbr
        clear hgo2
        go_wp2_with (first | (go_at_call 23; refine (piece_any (.slice Ap 0 cp) [] c wr w.heap.size hz HT.out.p.cut0 (by simp) hL2).mono ?_; rintro e w2 ha; obtain ⟨v2, rfl, ht2⟩ := HT.out.piece ha; obtain ⟨A2, n2, c2, rfl, hn2, h2c, hc2⟩ := ht2.p.form; obtain rfl : m = n2 := HM.out.trans hn2.out.symm; have HT2 := Lib.hid ht2; clear ha ht2) | (at_builtin; obtain ⟨A5, n5, c5, he5, hn5, h5a, h5b, hs5⟩ := HT2.out.p.read; cases he5; refine wpList_append_bytes _ rfl (.tmp 31) (.tmp 32) 22 rfl w.heap.size 5 stBytes _ _ rfl HT2.out.o _ _ _ _ _ rfl hs5 hn5.out.symm (by have := HLO.out; simp; omega) HT2.out.bel.size ?_; intro v4 w4 hown4 hg4 hat4; have HT4 := Lib.hid (HT2.out.append hown4 hg4 hat4); clear hown4 hg4 hat4 hs5))
        go_roundw
        case rel => exact ⟨k + 1, r + m, _, _, by omega, by go_num, by go_num, HT4.out, HGO2.out, by have := HLO.out; have := HM.out; simp; omega, by omega⟩
        case measure => simp [intOf]; omega
    · obtain rfl : k = n := by omega
      have hfin : Fold.Row W b = lo ++ [36, 10] := by
        unfold Fold.Row
        rw [hgo, List.drop_of_length_le (by have := hn.out; omega)]
        simp [Fold.rowGo]
      have HFIN := Lib.hid hfin
      have HT := Lib.hid ht
      have HLO := Lib.hid hlo
      clear hfin ht hgo hlo
      go_wp2_with (at_builtin; refine wpList_append_bytes _ rfl (.tmp 39) (.tmp 40) 22 rfl w.heap.size 5 stBytes _ _ rfl (HT.out.o.alloc _) _ _ _ _ [36, 10] rfl (SliceAt.newBytes _ _ _ [36, 10] 2 (by simp) (by simp [maxLen]) rfl) rfl (by have := HLO.out; omega) (by have := HT.out.bel.size; simp; omega) ?_; intro v3 w3 hown3 hg3 hat3; have HT3 := Lib.hid ((HT.out.alloc _).append hown3 hg3 hat3); clear hown3 hg3 hat3)
      go_ret
      exact ⟨_, rfl, by rw [HFIN.out]; exact HT3.out.o, HT3.out.bel⟩

set_option maxRecDepth 100000 in
set_option maxHeartbeats 4000000 in
theorem row_four (A : Option Addr) (n ca : Nat) (width : Int) (b : List UInt8) (w : World) (hn : Hid (n = b.length)) (hb : SliceAt Rep.byte w (under w.heap.size) A ca b) (hL : Hid (Ltrs w)) (h0 : 0 < w.heap.size) (hsize : n ≤ 4294967296) (h4 : width < 4) :
    Calls Tryd.prog 10 #[.slice A n ca, .int .i64 width] w fun e w' => ∃ v, e = .returned v ∧ Own Rep.byte 5 w' w.heap.size nob v (Fold.Row 4 b) ∧ Below w.heap.size w w' := by
  have HB := Lib.hid hb
  have h1 := hb.len
  have h2 := hb.max
  rw [← hn.out] at h1
  clear hb
  go_enter Tryd.func10, Tryd.ntmps10
  go_wp2
  go_loopw [5, 6, 7, 14] (fun vo vp row i wr => ∃ (k r : Nat) (lo lp : List UInt8), k ≤ n ∧ i = .int .i64 k ∧ row = .int .i64 r ∧ Two w wr vo lo vp lp ∧ Fold.rowGo 4 0 b = lo ++ Fold.rowGo 4 r (b.drop k) ∧ lo.length ≤ 6 * k ∧ r ≤ 4 * k) (fun _ _ _ i _ => n - (intOf i).toNat)
  case atStart => exact ⟨0, 0, [], [], Nat.zero_le _, rfl, rfl, ⟨Own.nil _ _ _ _, Own.nil _ _ _ _, fun q hq => by simp [Value.ownBlock] at hq, Below.refl _ _⟩, rfl, by simp, by omega⟩
  case round =>
    obtain ⟨k, r, lo, lp, hk, rfl, rfl, ht, hgo, hlo, hr⟩ := hrel
    by_cases hlt : k < n
    · have hkb : k < b.length := by have := hn.out; omega
      obtain ⟨g1, o1, rfl, hg1, hcw⟩ := HB.out.byte hkb
      have hc := (ht.bel.cell (p := ⟨g1, o1 + k, none⟩) (World.block_lt_of_cell? w _ hcw)).trans hcw
      have hdrop := List.drop_eq_getElem_cons hkb
      obtain ⟨c, hce⟩ : ∃ c, c = b[k] := ⟨_, rfl⟩
      rw [← hce] at hc hdrop
      rw [hdrop] at hgo
      obtain ⟨Ap, np, cp, rfl, -, -, hcp⟩ := ht.p.form
      have hL2 : Hid (Ltrs wr) := hL.out.below ht.bel h0
      have hpl := Fold.piece_len c
      obtain ⟨m, hm⟩ : ∃ m, m = (Fold.piece c).length := ⟨_, rfl⟩
      have hz := ht.bel.size
      have HT := Lib.hid ht
      have HGO := Lib.hid hgo
      have HM := Lib.hid hm
      have HLO := Lib.hid hlo
      have hm1 : 1 ≤ m := by omega
      have hm4 : m ≤ 4 := by omega
      clear ht hgo hce hdrop hcw hpl hm hlo
      by_cases hbr : ((4 : Nat) : Int) < (r : Int) + (m : Int)
      · have hgo2 : Fold.rowGo 4 0 b = (lo ++ [92, 10] ++ Fold.piece c) ++ Fold.rowGo 4 m (b.drop (k + 1)) := by
          rw [HGO.out]
          show lo ++ (if r + (Fold.piece c).length > 4 then _ else _) = _
          rw [if_pos (by have := HM.out; omega), ← HM.out]
          simp only [List.append_assoc]
        have HGO2 := Lib.hid hgo2
        have hbr' : decide (((4 : Nat) : Int) < (r : Int) + (m : Int)) = true := by simpa using hbr
        clear hgo2
        go_wp2_with (first | (go_at_call 23; refine (piece_any (.slice Ap 0 cp) [] c wr w.heap.size hz HT.out.p.cut0 (by simp) hL2).mono ?_; rintro e w2 ha; obtain ⟨v2, rfl, ht2⟩ := HT.out.piece ha; obtain ⟨A2, n2, c2, rfl, hn2, h2c, hc2⟩ := ht2.p.form; obtain rfl : m = n2 := HM.out.trans hn2.out.symm; have HT2 := Lib.hid ht2; clear ha ht2) | (at_builtin; refine wpList_append_bytes _ rfl (.tmp 28) (.tmp 29) 22 rfl w.heap.size 5 stBytes _ _ rfl (HT2.out.o.alloc _) _ _ _ _ [92, 10] rfl (SliceAt.newBytes _ _ _ [92, 10] 2 (by simp) (by simp [maxLen]) rfl) rfl (by have := HLO.out; omega) (by have := HT2.out.bel.size; simp; omega) ?_; intro v3 w3 hown3 hg3 hat3; have HT3 := Lib.hid ((HT2.out.alloc _).append hown3 hg3 hat3); clear hown3 hg3 hat3) | (at_builtin; obtain ⟨A5, n5, c5, he5, hn5, h5a, h5b, hs5⟩ := HT3.out.p.read; cases he5; refine wpList_append_bytes _ rfl (.tmp 31) (.tmp 32) 22 rfl w.heap.size 5 stBytes _ _ rfl HT3.out.o _ _ _ _ _ rfl hs5 hn5.out.symm (by have := HLO.out; simp; omega) HT3.out.bel.size ?_; intro v4 w4 hown4 hg4 hat4; have HT4 := Lib.hid (HT3.out.append hown4 hg4 hat4); clear hown4 hg4 hat4 hs5))
        go_roundw
        case rel => exact ⟨k + 1, m, _, _, by omega, by go_num, rfl, HT4.out, HGO2.out, by have := HLO.out; have := HM.out; simp; omega, by omega⟩
        case measure => simp [intOf]; omega
      · have hgo2 : Fold.rowGo 4 0 b = (lo ++ Fold.piece c) ++ Fold.rowGo 4 (r + m) (b.drop (k + 1)) := by
          rw [HGO.out]
          show lo ++ (if r + (Fold.piece c).length > 4 then _ else _) = _
          rw [if_neg (by have := HM.out; omega), ← HM.out]
          simp only [List.append_assoc]
        have HGO2 := Lib.hid hgo2
        have hbr' : decide (((4 : Nat) : Int) < (r : Int) + (m : Int)) = false := by simpa using hbr
        clear hgo2
        go_wp2_with (first | (go_at_call 23; refine (piece_any (.slice Ap 0 cp) [] c wr w.heap.size hz HT.out.p.cut0 (by simp) hL2).mono ?_; rintro e w2 ha; obtain ⟨v2, rfl, ht2⟩ := HT.out.piece ha; obtain ⟨A2, n2, c2, rfl, hn2, h2c, hc2⟩ := ht2.p.form; obtain rfl : m = n2 := HM.out.trans hn2.out.symm; have HT2 := Lib.hid ht2; clear ha ht2) | (at_builtin; obtain ⟨A5, n5, c5, he5, hn5, h5a, h5b, hs5⟩ := HT2.out.p.read; cases he5; refine wpList_append_bytes _ rfl (.tmp 31) (.tmp 32) 22 rfl w.heap.size 5 stBytes _ _ rfl HT2.out.o _ _ _ _ _ rfl hs5 hn5.out.symm (by have := HLO.out; simp; omega) HT2.out.bel.size ?_; intro v4 w4 hown4 hg4 hat4; have HT4 := Lib.hid (HT2.out.append hown4 hg4 hat4); clear hown4 hg4 hat4 hs5))
        go_roundw
        case rel => exact ⟨k + 1, r + m, _, _, by omega, by go_num, by go_num, HT4.out, HGO2.out, by have := HLO.out; have := HM.out; simp; omega, by omega⟩
        case measure => simp [intOf]; omega
    · obtain rfl : k = n := by omega
      have hfin : Fold.Row 4 b = lo ++ [36, 10] := by
        unfold Fold.Row
        rw [hgo, List.drop_of_length_le (by have := hn.out; omega)]
        simp [Fold.rowGo]
      have HFIN := Lib.hid hfin
      have HT := Lib.hid ht
      have HLO := Lib.hid hlo
      clear hfin ht hgo hlo
      go_wp2_with (at_builtin; refine wpList_append_bytes _ rfl (.tmp 39) (.tmp 40) 22 rfl w.heap.size 5 stBytes _ _ rfl (HT.out.o.alloc _) _ _ _ _ [36, 10] rfl (SliceAt.newBytes _ _ _ [36, 10] 2 (by simp) (by simp [maxLen]) rfl) rfl (by have := HLO.out; omega) (by have := HT.out.bel.size; simp; omega) ?_; intro v3 w3 hown3 hg3 hat3; have HT3 := Lib.hid ((HT.out.alloc _).append hown3 hg3 hat3); clear hown3 hg3 hat3)
      go_ret
      exact ⟨_, rfl, by rw [HFIN.out]; exact HT3.out.o, HT3.out.bel⟩

theorem row_any (A : Option Addr) (n ca W : Nat) (width : Int) (b : List UInt8) (w : World) (hn : Hid (n = b.length)) (hb : SliceAt Rep.byte w (under w.heap.size) A ca b) (hL : Hid (Ltrs w)) (h0 : 0 < w.heap.size) (hsize : n ≤ 4294967296) (hW : (W : Int) = max width 4) :
    Calls Tryd.prog 10 #[.slice A n ca, .int .i64 width] w fun e w' => ∃ v, e = .returned v ∧ Own Rep.byte 5 w' w.heap.size nob v (Fold.Row W b) ∧ Below w.heap.size w w' := by
  by_cases h : (4 : Int) ≤ width
  · obtain rfl : width = W := by omega
    exact row_wide A n ca W b w hn hb hL h0 hsize h
  · obtain rfl : W = 4 := by omega
    exact row_four A n ca width b w hn hb hL h0 hsize (by omega)
end Go.Proofs.YtgbjcpnlllaeeaaDoor
