/- A replacement filled in: the walk of fill.Expand. Condition: what comes out is at most 4 MiB. -/
import Derived.Test.YtebbilkkacbfjaaDoorProg
import Derived.Test.YtebbilkkacbfjaaDoorMem
import Derived.Test.YtebbilkkacbfjaaDoorPieces
import Derived.WalkKit
import Derived.WalkSpells
import Derived.Deep.QuietTactic
import Derived.BigQuiet
import Derived.Lib.Hide
namespace Go.Proofs.YtebbilkkacbfjaaDoor
open Go.RowKit

def taken (t : List UInt8) (ss : List Span) (g : Int) : List UInt8 :=
  match ss[g.toNat]? with
  | some s => if 0 ≤ g ∧ 0 ≤ s.lo ∧ s.lo ≤ s.hi ∧ s.hi ≤ t.length then (t.take s.hi.toNat).drop s.lo.toNat else []
  | none => []
def one (t : List UInt8) (ss : List Span) (p : Piece) : List UInt8 := if p.group = -1 then p.text else taken t ss p.group
def expand (ps : List Piece) (t : List UInt8) (ss : List Span) : List UInt8 := ps.flatMap (one t ss)
theorem expand_snoc (ps : List Piece) (t : List UInt8) (ss : List Span) (k : Nat) (h : k < ps.length) : expand (ps.take (k + 1)) t ss = expand (ps.take k) t ss ++ one t ss ps[k] := by
  unfold expand; rw [List.take_succ_eq_append_getElem h, List.flatMap_append]; simp
theorem expand_le (ps : List Piece) (t : List UInt8) (ss : List Span) (k : Nat) : (expand (ps.take k) t ss).length ≤ (expand ps t ss).length := by
  conv => rhs; rw [← List.take_append_drop k ps]
  unfold expand
  rw [List.flatMap_append, List.length_append]
  omega

set_option maxHeartbeats 4000000 in
theorem expand_any (A T S : Option Addr) (ca ct cs : Nat) (ps : List Piece) (t : List UInt8) (ss : List Span) (w : World)
    (hp : SliceAt Rep.piece w (under w.heap.size) A ca ps) (ht : SliceAt Rep.byte w (under w.heap.size) T ct t) (hs : SliceAt Rep.span w (under w.heap.size) S cs ss) (hx : (expand ps t ss).length ≤ 4194304) :
    Calls Tryd.prog 22 #[.slice A ps.length ca, .slice T t.length ct, .slice S ss.length cs] w fun e w' => ∃ v, e = .returned v ∧ Own Rep.byte 5 w' w.heap.size nob v (expand ps t ss) ∧ Below w.heap.size w w' := by
  have HP := Lib.hid hp
  have HT := Lib.hid ht
  have HS := Lib.hid hs
  have hpl := hp.len
  have hpm := hp.max
  clear hp ht hs
  go_enter Tryd.func22, Tryd.ntmps22
  go_wp2
  go_loopw [7, 13] (fun o i wr => ∃ k : Nat, k ≤ ps.length ∧ i = .int .i64 k ∧ Own Rep.byte 5 wr w.heap.size nob o (expand (ps.take k) t ss) ∧ Below w.heap.size w wr) (fun _ i _ => ps.length - (intOf i).toNat)
  case atStart => exact ⟨0, Nat.zero_le _, rfl, Own.nil _ _ _ _, Below.refl _ _⟩
  case round =>
    obtain ⟨k, hk, rfl, hown, hbw⟩ := hrel
    by_cases hlt : k < ps.length
    · have hsame : Same (under w.heap.size) w wr := Same.of_below hbw fun _ h => h
      obtain ⟨g, o, At, ct', rfl, hc0, hc1, htx, hwf, hwf'⟩ := piece_at HP.out hsame hlt
      have hz := hbw.size
      have HTX := Lib.hid htx
      have HOWN := Lib.hid hown
      have HBW := Lib.hid hbw
      have HSAME := Lib.hid hsame
      clear htx hown hbw hsame
      by_cases h1 : ps[k].group = -1
      · have h1' : (ps[k].group == -1) = true := by simpa using h1
        have H1 := Lib.hid h1
        clear h1
        have hsn : (expand (ps.take k) t ss).length + ps[k].text.length ≤ 4194304 := by
          have := expand_le ps t ss (k + 1)
          rw [expand_snoc _ _ _ _ hlt, List.length_append, one, if_pos H1.out] at this
          omega
        go_wp2_with (at_builtin; refine wpList_append_bytes _ rfl (.tmp 20) (.tmp 22) 58 rfl w.heap.size 5 stBytes _ _ rfl (HOWN.out.alloc _) _ _ _ _ _ rfl (HTX.out.keep (S' := under w.heap.size) (fun _ h => h) (Same.of_below ((Below.refl _ _).alloc hz _) fun _ h => h)) rfl (by omega) (by simp; omega) ?_; intro v1 w1 hown1 hg1 hat1)
        have hb1 := below_own (HBW.out.alloc hz _) (HOWN.out.alloc _) hg1 (by simp; omega)
        go_roundw
        case rel => exact ⟨k + 1, by omega, by go_num, by rw [expand_snoc _ _ _ _ hlt, one, if_pos H1.out]; exact hown1, hb1⟩
        case measure => simp [intOf]; omega
      · have h1' : (ps[k].group == -1) = false := by simpa using h1
        by_cases h2 : ps[k].group < 0 ∨ (ss.length : Int) ≤ ps[k].group
        · have hone : one t ss ps[k] = [] := by
            unfold one taken
            rw [if_neg h1]
            split
            · rename_i s hs
              have hl := (List.getElem?_eq_some_iff.1 hs).1
              rw [if_neg (by omega)]
            · rfl
          have HONE := Lib.hid hone
          have H1 := Lib.hid h1
          clear hone h1
          rcases h2 with h2 | h2
          · go_wp2
            go_roundw
            case rel => exact ⟨k + 1, by omega, by go_num, by rw [expand_snoc _ _ _ _ hlt, HONE.out, List.append_nil]; exact HOWN.out.alloc _, HBW.out.alloc hz _⟩
            case measure => simp [intOf]; omega
          · have h3 : ¬ ps[k].group < 0 := by omega
            go_wp2
            go_roundw
            case rel => exact ⟨k + 1, by omega, by go_num, by rw [expand_snoc _ _ _ _ hlt, HONE.out, List.append_nil]; exact HOWN.out.alloc _, HBW.out.alloc hz _⟩
            case measure => simp [intOf]; omega
        · obtain ⟨j, hj⟩ : ∃ j : Nat, ps[k].group = j := ⟨ps[k].group.toNat, by omega⟩
          have hjl : j < ss.length := by omega
          obtain ⟨g2, o2, rfl, hd0, hd1, hwf1, hwf2, hwf3, hwf4⟩ := span_at HS.out HSAME.out hjl
          have hg2 : g2 < wr.heap.size := World.block_lt_of_cell? wr _ hd0
          rw [hj] at hc0 h1' h2 hwf hwf'
          have HJ := Lib.hid hj
          clear hj
          have hz2 : ((j : Nat) : Int) < ss.length := by omega
          have h3 : ¬ (j : Int) < 0 := by omega
          by_cases h4 : 0 ≤ ss[j].lo ∧ ss[j].lo ≤ ss[j].hi ∧ ss[j].hi ≤ t.length
          · obtain ⟨x, hx⟩ : ∃ x : Nat, ss[j].lo = x := ⟨ss[j].lo.toNat, by omega⟩
            obtain ⟨y, hy⟩ : ∃ y : Nat, ss[j].hi = y := ⟨ss[j].hi.toNat, by omega⟩
            obtain ⟨e1, e2, e3⟩ := h4
            rw [hx] at hd0 e1 e2 hwf1 hwf2
            rw [hy] at hd1 e2 e3 hwf3 hwf4
            have HX := Lib.hid hx
            have HY := Lib.hid hy
            have htc := HT.out.len
            have htm := HT.out.max
            have e2' : x ≤ y := by omega
            have e3' : y ≤ t.length := by omega
            clear hx hy
            have hone : one t ss ps[k] = (t.take y).drop x := by
              unfold one taken
              rw [if_neg h1, HJ.out, Int.toNat_natCast, List.getElem?_eq_getElem hjl]
              simp only [HX.out, HY.out, Int.toNat_natCast]
              rw [if_pos (by omega)]
            have hln : ((t.take y).drop x).length = y - x := by simp; omega
            have hsn : (expand (ps.take k) t ss).length + (y - x) ≤ 4194304 := by
              have := expand_le ps t ss (k + 1)
              rw [expand_snoc _ _ _ _ hlt, List.length_append, hone, hln] at this
              omega
            have HONE := Lib.hid hone
            have HLN := Lib.hid hln
            have hgz : w.heap.size ≤ wr.heap.size + 1 := by omega
            clear hone hln
            go_wp2_with (at_builtin; refine wpList_append_bytes _ rfl (.tmp 56) (.tmp 62) 58 rfl w.heap.size 5 stBytes _ _ rfl ((HOWN.out.alloc _).alloc _) _ _ _ _ _ rfl (SliceAt.cut1 (HT.out.keep (S' := under w.heap.size) (fun _ h => h) (HSAME.out.trans (Same.of_below (((Below.refl _ _).alloc hz _).alloc (by simp; omega) _) fun _ h => h))) rfl e2' e3') HLN.out (by omega) (by simp; omega) ?_; intro v1 w1 hown1 hg1 hat1)
            have hb1 := below_own ((HBW.out.alloc hz _).alloc (by simp; omega) _) ((HOWN.out.alloc _).alloc _) hg1 (by simp; omega)
            go_roundw
            case rel => exact ⟨k + 1, by omega, by go_num, by rw [expand_snoc _ _ _ _ hlt, HONE.out]; exact hown1, hb1⟩
            case measure => simp [intOf]; omega
          · have hone : one t ss ps[k] = [] := by
              unfold one taken
              rw [if_neg h1, HJ.out, Int.toNat_natCast, List.getElem?_eq_getElem hjl]
              exact if_neg (by omega)
            have HONE := Lib.hid hone
            clear hone
            have hend : (expand (ps.take (k + 1)) t ss) = expand (ps.take k) t ss := by rw [expand_snoc _ _ _ _ hlt, HONE.out, List.append_nil]
            have HEND := Lib.hid hend
            clear hend
            by_cases h5 : ss[j].lo < 0
            · have h5' : ¬ 0 ≤ ss[j].lo := by omega
              go_wp2
              go_roundw
              case rel => exact ⟨k + 1, by omega, by go_num, by rw [HEND.out]; exact (HOWN.out.alloc _).alloc _, (HBW.out.alloc hz _).alloc (by simp; omega) _⟩
              case measure => simp [intOf]; omega
            · by_cases h6 : ss[j].lo ≤ ss[j].hi
              · have h5' : 0 ≤ ss[j].lo := by omega
                have h7 : ¬ ss[j].hi ≤ t.length := by omega
                go_wp2
                go_roundw
                case rel => exact ⟨k + 1, by omega, by go_num, by rw [HEND.out]; exact (HOWN.out.alloc _).alloc _, (HBW.out.alloc hz _).alloc (by simp; omega) _⟩
                case measure => simp [intOf]; omega
              · have h5' : 0 ≤ ss[j].lo := by omega
                go_wp2
                go_roundw
                case rel => exact ⟨k + 1, by omega, by go_num, by rw [HEND.out]; exact (HOWN.out.alloc _).alloc _, (HBW.out.alloc hz _).alloc (by simp; omega) _⟩
                case measure => simp [intOf]; omega
    · obtain rfl : k = ps.length := by omega
      rw [List.take_length] at hown
      go_wp2
      go_ret
      exact ⟨_, rfl, hown, hbw⟩
end Go.Proofs.YtebbilkkacbfjaaDoor
