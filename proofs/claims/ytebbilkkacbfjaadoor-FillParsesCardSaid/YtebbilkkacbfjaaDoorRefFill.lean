/- The document's Expand (galleyref16): the walks of Taken and Expand. Condition: room. -/
import Derived.Test.YtebbilkkacbfjaaDoorExpand
import Derived.Test.YtebbilkkacbfjaaDoorFillLib
import Derived.Test.YtebbilkkacbfjaaDoorStepOwn
import Derived.Deep.LoopGhost
namespace Go.Proofs.YtebbilkkacbfjaaDoor
open Go.RowKit

set_option maxRecDepth 100000 in
set_option maxHeartbeats 2000000 in
theorem refTaken_any (k : Int) (T S : Option Addr) (m ct j cs : Nat) (t : List UInt8) (ss : List Span) (w : World) (S1 S2 : Blocks) (hm : Hid (m = t.length)) (hj : Hid (j = ss.length)) (ht : Hid (SliceAt Rep.byte w S1 T ct t)) (hs : Hid (SliceAt Rep.span w S2 S cs ss))
    (hS1 : Hid (∀ b, S1 b → b < w.heap.size)) (_ : Hid (∀ b, S2 b → b < w.heap.size)) (hk1 : -9223372036854775808 ≤ k) (hk2 : k ≤ 9223372036854775807) :
    Calls Tryd.prog 62 #[.int .i64 k, .slice T m ct, .slice S j cs] w fun e w' => ∃ A n c, e = .returned (.slice A n c) ∧ n ≤ c ∧ c ≤ 9223372036854775807 ∧ Hid (n = (taken t ss k).length) ∧ Hid (SliceAt Rep.byte w' S1 A c (taken t ss k)) ∧ Hid (Below w.heap.size w w') := by
  have hmc : m ≤ ct := by rw [hm.out]; exact ht.out.len
  have hctm := ht.out.max
  have hjc : j ≤ cs := by rw [hj.out]; exact hs.out.len
  have hcsm := hs.out.max
  by_cases h2 : k < 0 ∨ (j : Int) ≤ k
  · have hone : taken t ss k = [] := by
      unfold taken
      split
      · rename_i s hs
        have hl := (List.getElem?_eq_some_iff.1 hs).1
        have := hj.out
        rw [if_neg (by omega)]
      · rfl
    rw [hone]
    rcases h2 with h2 | h2
    · go_enter Tryd.func62, Tryd.ntmps62
      go_wp2_with fail
      go_ret
      exact ⟨_, _, _, rfl, Nat.le_refl _, by omega, Lib.hid rfl, Lib.hid (SliceAt.nil _ _ _), Lib.hid (Below.refl _ _)⟩
    · have h3 : ¬ k < 0 := by omega
      go_enter Tryd.func62, Tryd.ntmps62
      go_wp2_with fail
      go_ret
      exact ⟨_, _, _, rfl, Nat.le_refl _, by omega, Lib.hid rfl, Lib.hid (SliceAt.nil _ _ _), Lib.hid (Below.refl _ _)⟩
  · obtain ⟨q, rfl⟩ : ∃ q : Nat, k = q := ⟨k.toNat, by omega⟩
    have hql : q < ss.length := by have := hj.out; omega
    have hqj : (q : Int) < (j : Int) := by omega
    have hq0 : ¬ (q : Int) < 0 := by omega
    obtain ⟨g2, o2, rfl, hd0, hd1, hwf1, hwf2, hwf3, hwf4⟩ := span_at hs.out (Same.refl _ _) hql
    have hg2 : g2 < w.heap.size := World.block_lt_of_cell? w _ hd0
    have hba : ∀ o, Below w.heap.size w (w.alloc o) := fun o => (Below.refl _ _).alloc (Nat.le_refl _) _
    by_cases h4 : 0 ≤ ss[q].lo ∧ ss[q].lo ≤ ss[q].hi ∧ ss[q].hi ≤ t.length
    · obtain ⟨x, hx⟩ : ∃ x : Nat, ss[q].lo = x := ⟨ss[q].lo.toNat, by omega⟩
      obtain ⟨y, hy⟩ : ∃ y : Nat, ss[q].hi = y := ⟨ss[q].hi.toNat, by omega⟩
      obtain ⟨e1, e2, e3⟩ := h4
      have hone : taken t ss (q : Int) = (t.take y).drop x := by
        unfold taken
        rw [Int.toNat_natCast, List.getElem?_eq_getElem hql]
        simp only [hx, hy, Int.toNat_natCast]
        rw [if_pos (by omega)]
      rw [hx] at hd0 e1 e2 hwf1 hwf2
      rw [hy] at hd1 e2 e3 hwf3 hwf4
      rw [← hm.out] at e3
      have e2' : x ≤ y := by omega
      have e3' : y ≤ m := by omega
      have hsl := fun W => run_slice_both (P := Tryd.prog) W stBytes T m ct x y e2' (by omega)
      rw [hone]
      have HX := Lib.hid hx
      clear hx hy hone
      go_enter Tryd.func62, Tryd.ntmps62
      go_wp2_with fail
      go_ret
      refine ⟨_, _, _, rfl, by omega, by omega, Lib.hid ?_, Lib.hid ?_, Lib.hid (hba _)⟩
      · have h1 := hm.out
        have h2 : ((t.take y).drop x).length = y - x := by simp; omega
        first | omega | (rw [h2])
      · exact (ht.out.cutA e2' (by have := hm.out; omega) rfl).keep (fun _ h => h) (Same.of_below (hba _) hS1.out)
    · have hone : taken t ss (q : Int) = [] := by
        unfold taken
        rw [Int.toNat_natCast, List.getElem?_eq_getElem hql]
        exact if_neg (by omega)
      rw [hone]
      have hml := hm.out
      by_cases h5 : ss[q].lo < 0
      · have h5' : ¬ 0 ≤ ss[q].lo := by omega
        clear hone
        go_enter Tryd.func62, Tryd.ntmps62
        go_wp2_with fail
        go_ret
        exact ⟨_, _, _, rfl, Nat.le_refl _, by omega, Lib.hid rfl, Lib.hid (SliceAt.nil _ _ _), Lib.hid (hba _)⟩
      · by_cases h6 : ss[q].lo ≤ ss[q].hi
        · have h5' : 0 ≤ ss[q].lo := by omega
          have h7 : ¬ ss[q].hi ≤ m := by omega
          clear hone
          go_enter Tryd.func62, Tryd.ntmps62
          go_wp2_with fail
          go_ret
          exact ⟨_, _, _, rfl, Nat.le_refl _, by omega, Lib.hid rfl, Lib.hid (SliceAt.nil _ _ _), Lib.hid (hba _)⟩
        · have h5' : 0 ≤ ss[q].lo := by omega
          clear hone
          go_enter Tryd.func62, Tryd.ntmps62
          go_wp2_with fail
          go_ret
          exact ⟨_, _, _, rfl, Nat.le_refl _, by omega, Lib.hid rfl, Lib.hid (SliceAt.nil _ _ _), Lib.hid (hba _)⟩
set_option maxRecDepth 100000 in
set_option maxHeartbeats 4000000 in
theorem refExpand_any (A T S : Option Addr) (n ca m ct k cs : Nat) (ps : List Piece) (t : List UInt8) (ss : List Span) (w : World) (hn : Hid (n = ps.length)) (hm : Hid (m = t.length)) (hk : Hid (k = ss.length))
    (hp : Hid (SliceAt Rep.piece w (under w.heap.size) A ca ps)) (ht : Hid (SliceAt Rep.byte w (under w.heap.size) T ct t)) (hs : Hid (SliceAt Rep.span w (under w.heap.size) S cs ss)) (hx : Hid ((expand ps t ss).length ≤ 4194304)) :
    Calls Tryd.prog 23 #[.slice A n ca, .slice T m ct, .slice S k cs] w fun e w' => ∃ A1 n1 c1, e = .returned (.slice A1 n1 c1) ∧ n1 ≤ c1 ∧ c1 ≤ 9223372036854775807 ∧ Hid (n1 = (expand ps t ss).length) ∧ Hid (Own Rep.byte 5 w' w.heap.size nob (.slice A1 n1 c1) (expand ps t ss)) ∧ Hid (Below w.heap.size w w') := by
  have hnc : n ≤ ca := by rw [hn.out]; exact hp.out.len
  have hcm := hp.out.max
  go_enter Tryd.func23, Tryd.ntmps23
  go_wp2_with fail
  go_loopg [7, 8] n (fun q ov iv wr => ∃ i : Nat, i ≤ n ∧ iv = .int .i64 i ∧ q = n - i ∧ Hid (Own Rep.byte 5 wr w.heap.size nob ov (expand (ps.take i) t ss)) ∧ Hid (Below w.heap.size w wr))
  case atStart => exact ⟨0, Nat.zero_le _, rfl, rfl, Lib.hid (Own.nil _ _ _ _), Lib.hid (Below.refl _ _)⟩
  case round =>
    obtain ⟨i, hi, rfl, rfl, HO, HB⟩ := hrel
    obtain ⟨A1, n1, c1, rfl, hn1, kn1, kn2⟩ := HO.out.form
    have hsz := HB.out.size
    rcases Nat.lt_or_ge i n with hlt | hge
    · have hil : i < ps.length := by rw [← hn.out]; exact hlt
      have hsame : Same (under w.heap.size) w wr := Same.of_below HB.out fun _ h => h
      obtain ⟨g, o, At, ct', rfl, hc0, hc1, htx, hwf, hwf'⟩ := piece_at hp.out hsame hil
      have hsn := expand_le ps t ss (i + 1)
      have hxx := hx.out
      rw [expand_snoc _ _ _ _ hil, List.length_append] at hsn
      have HSN := Lib.hid hsn
      have HST := Lib.hid (expand_snoc ps t ss i hil)
      obtain ⟨p, hp'⟩ : ∃ p, p = ps[i] := ⟨_, rfl⟩
      rw [← hp'] at hc0 hc1 htx hwf hwf' HST HSN
      have HTX := Lib.hid htx
      have HSAME := Lib.hid hsame
      clear htx hsame hp' hsn
      by_cases h1 : p.group = -1
      · have h1' : (p.group == -1) = true := by simpa using h1
        have hone : one t ss p = p.text := if_pos h1
        rw [hone] at HST HSN
        obtain ⟨nt, hnt⟩ : ∃ n, n = p.text.length := ⟨_, rfl⟩
        rw [← hnt] at hc1
        have HNT := Lib.hid hnt
        clear h1 hone hnt
        go_wp2_with (at_builtin; refine wpList_append_bytes _ rfl (.tmp 21) (.tmp 26) 58 rfl w.heap.size 5 stBytes _ _ rfl HO.out _ _ _ _ p.text rfl HTX.out HNT.out.symm (by have := HSN.out; have := HNT.out; omega) hsz ?_; intro v2 w2 hown2 hg2 hat2; have HB2 := Lib.hid (below_own HB.out HO.out hg2 hsz); have HO2 := Lib.hid hown2; clear hown2 hg2 hat2)
        go_roundg (n - (i + 1))
        case measure => omega
        case rel => exact ⟨i + 1, by omega, by go_num, rfl, by rw [HST.out]; exact HO2, HB2⟩
      · have h1' : (p.group == -1) = false := by simpa using h1
        have hone : one t ss p = taken t ss p.group := if_neg h1
        rw [hone] at HST HSN
        obtain ⟨gr, hgr⟩ : ∃ x, x = p.group := ⟨_, rfl⟩
        rw [← hgr] at HST HSN hc0 h1' hwf hwf'
        clear h1 hone hgr
        go_wp2_with fail
        refine (refTaken_any gr T S m ct k cs t ss wr (under w.heap.size) (under w.heap.size) hm hk (Lib.hid (ht.out.keep (fun _ h => h) HSAME.out)) (Lib.hid (hs.out.keep (fun _ h => h) HSAME.out)) (Lib.hid fun b hb => Nat.lt_of_lt_of_le hb hsz) (Lib.hid fun b hb => Nat.lt_of_lt_of_le hb hsz) hwf hwf').mono ?_
        rintro e w2 ⟨A2, n2, c2, rfl, k1, k2, HN2, HS2, HB2⟩
        have HO2 := Lib.hid (HO.out.far HB2.out)
        have HBB := Lib.hid (HB.out.trans (HB2.out.mono hsz))
        have hsz2 := HBB.out.size
        go_wp2_with (at_builtin; refine wpList_append_bytes _ rfl (.tmp 28) (.tmp 36) 58 rfl w.heap.size 5 stBytes _ _ rfl HO2.out _ _ _ _ (taken t ss gr) rfl HS2.out HN2.out.symm (by have := HSN.out; have := HN2.out; omega) hsz2 ?_; intro v3 w3 hown3 hg3 hat3; have HB3 := Lib.hid (below_own HBB.out HO2.out hg3 hsz2); have HO3 := Lib.hid hown3; clear hown3 hg3 hat3)
        go_roundg (n - (i + 1))
        case measure => omega
        case rel => exact ⟨i + 1, by omega, by go_num, rfl, by rw [HST.out]; exact HO3, HB3⟩
    · obtain rfl : i = n := by omega
      have HO2 : Hid (Own Rep.byte 5 wr w.heap.size nob (.slice A1 n1 c1) (expand ps t ss)) := Lib.hid (by
        have := HO.out
        rwa [List.take_of_length_le (by rw [hn.out]; exact Nat.le_refl _)] at this)
      have HN1 : Hid (n1 = (expand ps t ss).length) := Lib.hid (by
        have := hn1.out
        rwa [List.take_of_length_le (by rw [hn.out]; exact Nat.le_refl _)] at this)
      clear HO hn1
      go_wp2_with fail
      go_ret
      exact ⟨A1, n1, c1, rfl, kn1, kn2, HN1, HO2, HB⟩
end Go.Proofs.YtebbilkkacbfjaaDoor
