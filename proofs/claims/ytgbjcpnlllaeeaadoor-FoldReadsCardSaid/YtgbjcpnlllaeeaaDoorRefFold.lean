/- Bytes shown, the document's way: the walks of galleyref18.Piece and Row. Condition: room. -/
import Derived.Test.YtgbjcpnlllaeeaaDoorProg
import Derived.Test.YtgbjcpnlllaeeaaDoorFoldLaw
import Derived.Test.YtgbjcpnlllaeeaaDoorRowAt
import Derived.Deep.LoopGhost
namespace Go.Proofs.YtgbjcpnlllaeeaaDoor
open Go.RowKit

/-- What Piece answers: new memory. -/
def RefPiece (w : World) (s : List UInt8) (e : Ending) (w' : World) : Prop := ∃ A n c, e = .returned (.slice A n c) ∧ Hid (n = s.length) ∧ SliceAt Rep.byte w' (btw w.heap.size w'.heap.size) A c s ∧ Below w.heap.size w w'
theorem refPiece_mk (w : World) (s : List UInt8) (n : Nat) (cs : Array Value) (h : cs.toList = bcells s) (hn : s.length = n) (hm : n ≤ 9223372036854775807) : RefPiece w s (.returned (.slice (some ⟨w.heap.size, 0, none⟩) n n)) (w.alloc (.cells cs 5)) :=
  ⟨_, _, _, rfl, Lib.hid hn.symm, (SliceAt.newRow Rep.byte w 5 cs s nob n n hn (Nat.le_refl _) (by simp only [maxLen]; omega) (fun i hi => by
    rw [h]
    simp [Rep.byte, bcells, List.drop_eq_getElem_cons, hi]) (fun _ h => h.elim)).up fun b hb => by
      rcases hb with rfl | hb
      · exact ⟨Nat.le_refl _, by simp⟩
      · exact hb.elim, (Below.refl _ _).alloc (Nat.le_refl _) _⟩
theorem oct_cells (x : Nat) (hx : x < 2 ^ 8) : (#[Value.int .u8 92, .int .u8 (48 + (x : Int) / 64), .int .u8 (48 + (x : Int) / 8 % 8), .int .u8 (48 + (x : Int) % 8)] : Array Value).toList = bcells [92, UInt8.ofNat (48 + x / 64), UInt8.ofNat (48 + x / 8 % 8), UInt8.ofNat (48 + x % 8)] := by
  have a1 : ((UInt8.ofNat (48 + x / 64)).toNat : Int) = 48 + (x : Int) / 64 := by rw [Fold.ofN _ (by omega)]; omega
  have a2 : ((UInt8.ofNat (48 + x / 8 % 8)).toNat : Int) = 48 + (x : Int) / 8 % 8 := by rw [Fold.ofN _ (by omega)]; omega
  have a3 : ((UInt8.ofNat (48 + x % 8)).toNat : Int) = 48 + (x : Int) % 8 := by rw [Fold.ofN _ (by omega)]; omega
  simp only [bcells, List.map_cons, List.map_nil, a1, a2, a3]
  rfl
set_option maxRecDepth 100000 in
set_option maxHeartbeats 4000000 in
theorem refPiece_any (c : UInt8) (w : World) : Calls Tryd.prog 24 #[.int .u8 c.toNat] w (RefPiece w (Fold.piece c)) := by
  have hlt := c.toNat_lt
  obtain ⟨x, hx⟩ : ∃ x, x = c.toNat := ⟨_, rfl⟩
  rw [← hx] at hlt ⊢
  by_cases h1 : x = 92
  · have hp : Fold.piece c = [92, 92] := by unfold Fold.piece; rw [if_pos (by omega)]
    rw [hp]
    subst h1
    clear hx hp
    go_enter Tryd.func24, Tryd.ntmps24
    go_wp2_with fail
    go_ret
    exact refPiece_mk w [92, 92] 2 _ rfl rfl (by omega)
  have e1 : ((x : Int) == 92) = false := by rw [beq_eq_false_iff_ne]; omega
  have e1' : (x == 92) = false := by rw [beq_eq_false_iff_ne]; omega
  by_cases h2 : 7 ≤ x ∧ x ≤ 13
  · have hp : Fold.piece c = [92, Fold.ltr (x - 7)] := by unfold Fold.piece; rw [if_neg (by omega), if_pos (by omega), hx]
    rw [hp]
    obtain ⟨h2, h3⟩ := h2
    rcases (by omega : x = 7 ∨ x = 8 ∨ x = 9 ∨ x = 10 ∨ x = 11 ∨ x = 12 ∨ x = 13) with e | e | e | e | e | e | e
    all_goals
      subst e
      clear hx hp h1 h2 h3 e1 e1'
      go_enter Tryd.func24, Tryd.ntmps24
      go_wp2_with fail
      go_ret
      exact refPiece_mk w _ 2 _ rfl rfl (by omega)
  by_cases h3 : 32 ≤ x ∧ x ≤ 126
  · have hp : Fold.piece c = [c] := by unfold Fold.piece; rw [if_neg (by omega), if_neg (by omega), if_pos (by omega)]
    have HP := Lib.hid hp
    obtain ⟨h3, h4⟩ := h3
    have h5 : (7 : Int) ≤ x := by omega
    have h6 : decide ((x : Int) ≤ 13) = false := decide_eq_false (by omega)
    have h6' : decide (x ≤ 13) = false := decide_eq_false (by omega)
    have h7 : (32 : Int) ≤ x := by omega
    have h8 : (x : Int) ≤ 126 := by omega
    have HX := Lib.hid hx
    clear hx hp h1 h2 h3
    go_enter Tryd.func24, Tryd.ntmps24
    go_wp2_with fail
    go_ret
    rw [HP.out]
    exact refPiece_mk w [c] 1 _ (by simp [bcells, HX.out]) rfl (by omega)
  · have hp : Fold.piece c = [92, UInt8.ofNat (48 + x / 64), UInt8.ofNat (48 + x / 8 % 8), UInt8.ofNat (48 + x % 8)] := by unfold Fold.piece; rw [if_neg (by omega), if_neg (by omega), if_neg (by omega), hx]
    have HP := Lib.hid hp
    have HX := Lib.hid hx
    have H3 := Lib.hid h3
    have hn7 : decide (7 ≤ x ∧ x ≤ 13) = false := decide_eq_false h2
    have H2 := Lib.hid h2
    clear hx hp h3 h2 hn7
    rcases (by have := H2.out; have := H3.out; omega : x < 7 ∨ (14 ≤ x ∧ x < 32) ∨ 126 < x) with h | ⟨h, h'⟩ | h
    · have q1 : decide ((7 : Int) ≤ x) = false := decide_eq_false (by omega)
      have q1' : decide (7 ≤ x) = false := decide_eq_false (by omega)
      have q2 : decide ((32 : Int) ≤ x) = false := decide_eq_false (by omega)
      have q2' : decide (32 ≤ x) = false := decide_eq_false (by omega)
      go_enter Tryd.func24, Tryd.ntmps24
      go_wp2_with fail
      go_ret
      rw [HP.out]
      exact refPiece_mk w _ 4 _ (oct_cells x hlt) rfl (by omega)
    · have q1 : (7 : Int) ≤ x := by omega
      have q3 : decide ((x : Int) ≤ 13) = false := decide_eq_false (by omega)
      have q3' : decide (x ≤ 13) = false := decide_eq_false (by omega)
      have q2 : decide ((32 : Int) ≤ x) = false := decide_eq_false (by omega)
      have q2' : decide (32 ≤ x) = false := decide_eq_false (by omega)
      go_enter Tryd.func24, Tryd.ntmps24
      go_wp2_with fail
      go_ret
      rw [HP.out]
      exact refPiece_mk w _ 4 _ (oct_cells x hlt) rfl (by omega)
    · have q1 : (7 : Int) ≤ x := by omega
      have q3 : decide ((x : Int) ≤ 13) = false := decide_eq_false (by omega)
      have q3' : decide (x ≤ 13) = false := decide_eq_false (by omega)
      have q2 : (32 : Int) ≤ x := by omega
      have q4 : decide ((x : Int) ≤ 126) = false := decide_eq_false (by omega)
      have q4' : decide (x ≤ 126) = false := decide_eq_false (by omega)
      go_enter Tryd.func24, Tryd.ntmps24
      go_wp2_with fail
      go_ret
      rw [HP.out]
      exact refPiece_mk w _ 4 _ (oct_cells x hlt) rfl (by omega)
set_option maxRecDepth 100000 in
set_option maxHeartbeats 4000000 in
theorem refRow_wide (A : Option Addr) (n ca : Nat) (W : Nat) (b : List UInt8) (w : World) (hn : Hid (n = b.length)) (hb : SliceAt Rep.byte w (under w.heap.size) A ca b) (hsize : n ≤ 4294967296) (h4 : (4 : Int) ≤ W) :
    Calls Tryd.prog 14 #[.slice A n ca, .int .i64 W] w fun e w' => ∃ v, e = .returned v ∧ Own Rep.byte 5 w' w.heap.size nob v (Fold.Row W b) ∧ Below w.heap.size w w' := by
  have HB := Lib.hid hb
  have h1 := hb.len
  have h2 := hb.max
  rw [← hn.out] at h1
  have hd : decide ((W : Int) < 4) = false := decide_eq_false (by omega)
  clear hb
  go_enter Tryd.func14, Tryd.ntmps14
  go_wp2_with fail
  go_loopg [5, 6, 7] n (fun k vo rv iv wr => ∃ (i r : Nat) (lo : List UInt8), i ≤ n ∧ iv = .int .i64 i ∧ rv = .int .i64 r ∧ k = n - i ∧ Hid (Own Rep.byte 5 wr w.heap.size nob vo lo) ∧ Hid (Below w.heap.size w wr) ∧ Hid (Fold.rowGo W 0 b = lo ++ Fold.rowGo W r (b.drop i)) ∧ lo.length ≤ 6 * i ∧ r ≤ 4 * i)
  case atStart => exact ⟨0, 0, [], Nat.zero_le _, rfl, rfl, rfl, Lib.hid (Own.nil _ _ _ _), Lib.hid (Below.refl _ _), Lib.hid rfl, by simp, by omega⟩
  case round =>
    obtain ⟨i, r, lo, hi, rfl, rfl, rfl, HO, HW, HGO, hlo, hr⟩ := hrel
    by_cases hlt : i < n
    · have hkb : i < b.length := by have := hn.out; omega
      obtain ⟨g1, o1, rfl, hg1, hcw⟩ := HB.out.byte hkb
      have hc := (HW.out.cell (p := ⟨g1, o1 + i, none⟩) (World.block_lt_of_cell? w _ hcw)).trans hcw
      have hdrop := List.drop_eq_getElem_cons hkb
      obtain ⟨c, hce⟩ : ∃ c, c = b[i] := ⟨_, rfl⟩
      rw [← hce] at hc hdrop
      have hgo := HGO.out
      rw [hdrop] at hgo
      have hpl := Fold.piece_len c
      obtain ⟨m, hm⟩ : ∃ m, m = (Fold.piece c).length := ⟨_, rfl⟩
      have hz := HW.out.size
      have HG := Lib.hid hgo
      have HM := Lib.hid hm
      have HLO := Lib.hid hlo
      have hm1 : 1 ≤ m := by omega
      have hm4 : m ≤ 4 := by omega
      clear hgo hce hdrop hcw hpl hm hlo HGO
      by_cases hbr : ((W : Nat) : Int) < (r : Int) + (m : Int)
      · have hgo2 : Fold.rowGo W 0 b = (lo ++ [92, 10] ++ Fold.piece c) ++ Fold.rowGo W m (b.drop (i + 1)) := by
          rw [HG.out]
          show lo ++ (if r + (Fold.piece c).length > W then _ else _) = _
          rw [if_pos (by have := HM.out; omega), ← HM.out]
          simp only [List.append_assoc]
        have HGO2 := Lib.hid hgo2
        have hbr' : decide (((W : Nat) : Int) < (r : Int) + (m : Int)) = true := by simpa using hbr
        clear hgo2
        go_wp2_with fail
        refine (refPiece_any c wr).mono ?_
        rintro e w2 ⟨A2, n2, c2, rfl, hn2, hs2, hb2⟩
        obtain rfl : m = n2 := HM.out.trans hn2.out.symm
        have hmc := hs2.len
        rw [← HM.out] at hmc
        have hcm := hs2.max
        have HO2 := Lib.hid (HO.out.far hb2)
        have HS2 := Lib.hid hs2
        have HW2 := Lib.hid (HW.out.trans (hb2.mono hz))
        clear hs2 hb2
        go_wp2_with (first | (at_builtin; refine wpList_append_bytes _ rfl (.tmp 28) (.tmp 29) 22 rfl w.heap.size 5 stBytes _ _ rfl (HO2.out.alloc _) _ _ _ _ [92, 10] rfl (SliceAt.newBytes _ _ _ [92, 10] 2 (by simp) (by simp [maxLen]) rfl) rfl (by have := HLO.out; omega) (by have := HW2.out.size; simp; omega) ?_; intro v3 w3 hown3 hg3 hat3; have HO3 := Lib.hid hown3; have HW3 := Lib.hid (below_own (HW2.out.alloc HW2.out.size _) (HO2.out.alloc _) hg3 (by have := HW2.out.size; simp; omega)); have HS3 := Lib.hid ((HS2.out.keep (fun _ h => h) (fun b hb => (Below.heap_alloc w2 _ b hb.2))).keep (fun _ h => h) (Same.of_grown hg3 fun b hb => ⟨(by have := hb.2; simp; omega), fun e => (by have := (HO.out.block_lt e.symm).2; have := hb.1; omega)⟩)); clear hown3 hg3 hat3) | (at_builtin; refine wpList_append_bytes _ rfl (.tmp 31) (.tmp 32) 22 rfl w.heap.size 5 stBytes _ _ rfl HO3.out _ _ _ _ _ rfl HS3.out HM.out.symm (by have := HLO.out; simp; omega) HW3.out.size ?_; intro v4 w4 hown4 hg4 hat4; have HO4 := Lib.hid hown4; have HW4 := Lib.hid (below_own HW3.out HO3.out hg4 HW3.out.size); clear hown4 hg4 hat4))
        go_roundg (n - (i + 1))
        case measure => omega
        case rel => exact ⟨i + 1, m, _, by omega, by go_num, rfl, rfl, HO4, HW4, HGO2, by have := HLO.out; have := HM.out; simp; omega, by omega⟩
      · have hgo2 : Fold.rowGo W 0 b = (lo ++ Fold.piece c) ++ Fold.rowGo W (r + m) (b.drop (i + 1)) := by
          rw [HG.out]
          show lo ++ (if r + (Fold.piece c).length > W then _ else _) = _
          rw [if_neg (by have := HM.out; omega), ← HM.out]
          simp only [List.append_assoc]
        have HGO2 := Lib.hid hgo2
        have hbr' : decide (((W : Nat) : Int) < (r : Int) + (m : Int)) = false := by simpa using hbr
        clear hgo2
        go_wp2_with fail
        refine (refPiece_any c wr).mono ?_
        rintro e w2 ⟨A2, n2, c2, rfl, hn2, hs2, hb2⟩
        obtain rfl : m = n2 := HM.out.trans hn2.out.symm
        have hmc := hs2.len
        rw [← HM.out] at hmc
        have hcm := hs2.max
        have HO2 := Lib.hid (HO.out.far hb2)
        have HS2 := Lib.hid hs2
        have HW2 := Lib.hid (HW.out.trans (hb2.mono hz))
        clear hs2 hb2
        go_wp2_with (at_builtin; refine wpList_append_bytes _ rfl (.tmp 31) (.tmp 32) 22 rfl w.heap.size 5 stBytes _ _ rfl HO2.out _ _ _ _ _ rfl HS2.out HM.out.symm (by have := HLO.out; simp; omega) HW2.out.size ?_; intro v4 w4 hown4 hg4 hat4; have HO4 := Lib.hid hown4; have HW4 := Lib.hid (below_own HW2.out HO2.out hg4 HW2.out.size); clear hown4 hg4 hat4)
        go_roundg (n - (i + 1))
        case measure => omega
        case rel => exact ⟨i + 1, r + m, _, by omega, by go_num, by go_num, rfl, HO4, HW4, HGO2, by have := HLO.out; have := HM.out; simp; omega, by omega⟩
    · have e0 : n = i := by omega
      subst e0
      have hfin : Fold.Row W b = lo ++ [36, 10] := by
        unfold Fold.Row
        rw [HGO.out, List.drop_of_length_le (by have := hn.out; omega)]
        simp [Fold.rowGo]
      have HFIN := Lib.hid hfin
      clear hfin HGO
      go_wp2_with (at_builtin; refine wpList_append_bytes _ rfl (.tmp 38) (.tmp 39) 22 rfl w.heap.size 5 stBytes _ _ rfl (HO.out.alloc _) _ _ _ _ [36, 10] rfl (SliceAt.newBytes _ _ _ [36, 10] 2 (by simp) (by simp [maxLen]) rfl) rfl (by omega) (by have := HW.out.size; simp; omega) ?_; intro v3 w3 hown3 hg3 hat3; have HO3 := Lib.hid hown3; have HW3 := Lib.hid (below_own (HW.out.alloc HW.out.size _) (HO.out.alloc _) hg3 (by have := HW.out.size; simp; omega)); clear hown3 hg3 hat3)
      go_ret
      exact ⟨_, rfl, by rw [HFIN.out]; exact HO3.out, HW3.out⟩
set_option maxRecDepth 100000 in
set_option maxHeartbeats 4000000 in
theorem refRow_four (A : Option Addr) (n ca : Nat) (width : Int) (b : List UInt8) (w : World) (hn : Hid (n = b.length)) (hb : SliceAt Rep.byte w (under w.heap.size) A ca b) (hsize : n ≤ 4294967296) (h4 : width < 4) :
    Calls Tryd.prog 14 #[.slice A n ca, .int .i64 width] w fun e w' => ∃ v, e = .returned v ∧ Own Rep.byte 5 w' w.heap.size nob v (Fold.Row 4 b) ∧ Below w.heap.size w w' := by
  have HB := Lib.hid hb
  have h1 := hb.len
  have h2 := hb.max
  rw [← hn.out] at h1
  have hd : decide (width < 4) = true := decide_eq_true h4
  clear hb
  go_enter Tryd.func14, Tryd.ntmps14
  go_wp2_with fail
  go_loopg [5, 6, 7] n (fun k vo rv iv wr => ∃ (i r : Nat) (lo : List UInt8), i ≤ n ∧ iv = .int .i64 i ∧ rv = .int .i64 r ∧ k = n - i ∧ Hid (Own Rep.byte 5 wr w.heap.size nob vo lo) ∧ Hid (Below w.heap.size w wr) ∧ Hid (Fold.rowGo 4 0 b = lo ++ Fold.rowGo 4 r (b.drop i)) ∧ lo.length ≤ 6 * i ∧ r ≤ 4 * i)
  case atStart => exact ⟨0, 0, [], Nat.zero_le _, rfl, rfl, rfl, Lib.hid (Own.nil _ _ _ _), Lib.hid (Below.refl _ _), Lib.hid rfl, by simp, by omega⟩
  case round =>
    obtain ⟨i, r, lo, hi, rfl, rfl, rfl, HO, HW, HGO, hlo, hr⟩ := hrel
    by_cases hlt : i < n
    · have hkb : i < b.length := by have := hn.out; omega
      obtain ⟨g1, o1, rfl, hg1, hcw⟩ := HB.out.byte hkb
      have hc := (HW.out.cell (p := ⟨g1, o1 + i, none⟩) (World.block_lt_of_cell? w _ hcw)).trans hcw
      have hdrop := List.drop_eq_getElem_cons hkb
      obtain ⟨c, hce⟩ : ∃ c, c = b[i] := ⟨_, rfl⟩
      rw [← hce] at hc hdrop
      have hgo := HGO.out
      rw [hdrop] at hgo
      have hpl := Fold.piece_len c
      obtain ⟨m, hm⟩ : ∃ m, m = (Fold.piece c).length := ⟨_, rfl⟩
      have hz := HW.out.size
      have HG := Lib.hid hgo
      have HM := Lib.hid hm
      have HLO := Lib.hid hlo
      have hm1 : 1 ≤ m := by omega
      have hm4 : m ≤ 4 := by omega
      clear hgo hce hdrop hcw hpl hm hlo HGO
      by_cases hbr : (4 : Int) < (r : Int) + (m : Int)
      · have hgo2 : Fold.rowGo 4 0 b = (lo ++ [92, 10] ++ Fold.piece c) ++ Fold.rowGo 4 m (b.drop (i + 1)) := by
          rw [HG.out]
          show lo ++ (if r + (Fold.piece c).length > 4 then _ else _) = _
          rw [if_pos (by have := HM.out; omega), ← HM.out]
          simp only [List.append_assoc]
        have HGO2 := Lib.hid hgo2
        have hbr' : decide ((4 : Int) < (r : Int) + (m : Int)) = true := by simpa using hbr
        clear hgo2
        go_wp2_with fail
        refine (refPiece_any c wr).mono ?_
        rintro e w2 ⟨A2, n2, c2, rfl, hn2, hs2, hb2⟩
        obtain rfl : m = n2 := HM.out.trans hn2.out.symm
        have hmc := hs2.len
        rw [← HM.out] at hmc
        have hcm := hs2.max
        have HO2 := Lib.hid (HO.out.far hb2)
        have HS2 := Lib.hid hs2
        have HW2 := Lib.hid (HW.out.trans (hb2.mono hz))
        clear hs2 hb2
        go_wp2_with (first | (at_builtin; refine wpList_append_bytes _ rfl (.tmp 28) (.tmp 29) 22 rfl w.heap.size 5 stBytes _ _ rfl (HO2.out.alloc _) _ _ _ _ [92, 10] rfl (SliceAt.newBytes _ _ _ [92, 10] 2 (by simp) (by simp [maxLen]) rfl) rfl (by have := HLO.out; omega) (by have := HW2.out.size; simp; omega) ?_; intro v3 w3 hown3 hg3 hat3; have HO3 := Lib.hid hown3; have HW3 := Lib.hid (below_own (HW2.out.alloc HW2.out.size _) (HO2.out.alloc _) hg3 (by have := HW2.out.size; simp; omega)); have HS3 := Lib.hid ((HS2.out.keep (fun _ h => h) (fun b hb => (Below.heap_alloc w2 _ b hb.2))).keep (fun _ h => h) (Same.of_grown hg3 fun b hb => ⟨(by have := hb.2; simp; omega), fun e => (by have := (HO.out.block_lt e.symm).2; have := hb.1; omega)⟩)); clear hown3 hg3 hat3) | (at_builtin; refine wpList_append_bytes _ rfl (.tmp 31) (.tmp 32) 22 rfl w.heap.size 5 stBytes _ _ rfl HO3.out _ _ _ _ _ rfl HS3.out HM.out.symm (by have := HLO.out; simp; omega) HW3.out.size ?_; intro v4 w4 hown4 hg4 hat4; have HO4 := Lib.hid hown4; have HW4 := Lib.hid (below_own HW3.out HO3.out hg4 HW3.out.size); clear hown4 hg4 hat4))
        go_roundg (n - (i + 1))
        case measure => omega
        case rel => exact ⟨i + 1, m, _, by omega, by go_num, rfl, rfl, HO4, HW4, HGO2, by have := HLO.out; have := HM.out; simp; omega, by omega⟩
      · have hgo2 : Fold.rowGo 4 0 b = (lo ++ Fold.piece c) ++ Fold.rowGo 4 (r + m) (b.drop (i + 1)) := by
          rw [HG.out]
          show lo ++ (if r + (Fold.piece c).length > 4 then _ else _) = _
          rw [if_neg (by have := HM.out; omega), ← HM.out]
          simp only [List.append_assoc]
        have HGO2 := Lib.hid hgo2
        have hbr' : decide ((4 : Int) < (r : Int) + (m : Int)) = false := by simpa using hbr
        clear hgo2
        go_wp2_with fail
        refine (refPiece_any c wr).mono ?_
        rintro e w2 ⟨A2, n2, c2, rfl, hn2, hs2, hb2⟩
        obtain rfl : m = n2 := HM.out.trans hn2.out.symm
        have hmc := hs2.len
        rw [← HM.out] at hmc
        have hcm := hs2.max
        have HO2 := Lib.hid (HO.out.far hb2)
        have HS2 := Lib.hid hs2
        have HW2 := Lib.hid (HW.out.trans (hb2.mono hz))
        clear hs2 hb2
        go_wp2_with (at_builtin; refine wpList_append_bytes _ rfl (.tmp 31) (.tmp 32) 22 rfl w.heap.size 5 stBytes _ _ rfl HO2.out _ _ _ _ _ rfl HS2.out HM.out.symm (by have := HLO.out; simp; omega) HW2.out.size ?_; intro v4 w4 hown4 hg4 hat4; have HO4 := Lib.hid hown4; have HW4 := Lib.hid (below_own HW2.out HO2.out hg4 HW2.out.size); clear hown4 hg4 hat4)
        go_roundg (n - (i + 1))
        case measure => omega
        case rel => exact ⟨i + 1, r + m, _, by omega, by go_num, by go_num, rfl, HO4, HW4, HGO2, by have := HLO.out; have := HM.out; simp; omega, by omega⟩
    · have e0 : n = i := by omega
      subst e0
      have hfin : Fold.Row 4 b = lo ++ [36, 10] := by
        unfold Fold.Row
        rw [HGO.out, List.drop_of_length_le (by have := hn.out; omega)]
        simp [Fold.rowGo]
      have HFIN := Lib.hid hfin
      clear hfin HGO
      go_wp2_with (at_builtin; refine wpList_append_bytes _ rfl (.tmp 38) (.tmp 39) 22 rfl w.heap.size 5 stBytes _ _ rfl (HO.out.alloc _) _ _ _ _ [36, 10] rfl (SliceAt.newBytes _ _ _ [36, 10] 2 (by simp) (by simp [maxLen]) rfl) rfl (by omega) (by have := HW.out.size; simp; omega) ?_; intro v3 w3 hown3 hg3 hat3; have HO3 := Lib.hid hown3; have HW3 := Lib.hid (below_own (HW.out.alloc HW.out.size _) (HO.out.alloc _) hg3 (by have := HW.out.size; simp; omega)); clear hown3 hg3 hat3)
      go_ret
      exact ⟨_, rfl, by rw [HFIN.out]; exact HO3.out, HW3.out⟩
theorem refRow_any (A : Option Addr) (n ca W : Nat) (width : Int) (b : List UInt8) (w : World) (hn : Hid (n = b.length)) (hb : SliceAt Rep.byte w (under w.heap.size) A ca b) (hsize : n ≤ 4294967296) (hW : (W : Int) = max width 4) :
    Calls Tryd.prog 14 #[.slice A n ca, .int .i64 width] w fun e w' => ∃ v, e = .returned v ∧ Own Rep.byte 5 w' w.heap.size nob v (Fold.Row W b) ∧ Below w.heap.size w w' := by
  by_cases h4 : width < 4
  · obtain rfl : W = 4 := by omega
    exact refRow_four A n ca width b w hn hb hsize h4
  · obtain rfl : width = W := by omega
    exact refRow_wide A n ca W b w hn hb hsize (by omega)
end Go.Proofs.YtgbjcpnlllaeeaaDoor
