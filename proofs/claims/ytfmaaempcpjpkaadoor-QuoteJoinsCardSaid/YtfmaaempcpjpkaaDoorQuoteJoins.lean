/- The walk of the law QuoteJoins. Conditions: the tables and the sentinels lie as they are laid. -/
import Derived.Test.YtfmaaempcpjpkaaDoorQuoteWorks
import Derived.Test.YtfmaaempcpjpkaaDoorNLib
import Derived.Test.YtfmaaempcpjpkaaDoorQuoteBack
import Derived.BigQuiet
import Derived.Deep.RegionHeld3
namespace Go.Proofs.YtfmaaempcpjpkaaDoor
open Go.RowKit Go.Deep

set_option maxRecDepth 100000 in
set_option maxHeartbeats 16000000 in
theorem quoteJoins_any (A B : Option Addr) (n c m d : Nat) (la lb : List UInt8) (w : World) (hn : Hid (n = la.length)) (hm : Hid (m = lb.length)) (ha : Hid (SliceAt Rep.byte w (under w.heap.size) A c la)) (hb : Hid (SliceAt Rep.byte w (under w.heap.size) B d lb)) (hsm : Hid (n + m ≤ 9223372036854775807)) (hQ : Hid (QEnv w)) :
    Calls Tryd.prog 8 #[.slice A n c, .slice B m d] w fun r w' => r = .returned (.bool true) ∧ Hid (Below w.heap.size w w') := by
  have hnm := hsm.out
  have hnmz : (n : Int) + (m : Int) ≤ 9223372036854775807 := by omega
  rcases Nat.lt_or_ge 2147483647 (n + m) with hl0 | hl0
  · go_enter Tryd.func8, Tryd.ntmps8
    go_wp2_with fail
    have HL := longY (n + m) w hl0
    rw [Int.natCast_add] at HL
    refine HL.mono ?_
    rintro r w' ⟨rfl, rfl⟩
    go_wp2_with fail
    go_ret
    exact ⟨rfl, Lib.hid (Below.refl _ _)⟩
  have HL := longN (n + m) w hl0
  rw [Int.natCast_add] at HL
  have HL' := Lib.hid HL
  clear HL
  have hn1 : n ≤ 2147483647 := by omega
  have hm1 : m ≤ 2147483647 := by omega
  have HWH := Lib.hid (whole_any A n c la _ w hn ha (by omega))
  cases hwh : Quote.whole la with
  | false =>
    rw [hwh] at HWH
    go_enter Tryd.func8, Tryd.ntmps8
    go_wp2_with fail
    refine HL'.out.mono ?_
    rintro r w' ⟨rfl, rfl⟩
    go_wp2_with fail
    refine HWH.out.mono ?_
    rintro r w' ⟨rfl, rfl⟩
    go_wp2_with fail
    go_ret
    exact ⟨rfl, Lib.hid (Below.refl _ _)⟩
  | true =>
    rw [hwh] at HWH
    have HKB : Hid (∀ w', Below w.heap.size w w' → SliceAt Rep.byte w' (under w.heap.size) B d lb) := Lib.hid fun w' h => hb.out.keep (fun _ h => h) (Same.of_below h (fun _ h => h))
    have HKA : Hid (∀ w', Below w.heap.size w w' → SliceAt Rep.byte w' (under w.heap.size) A c la) := Lib.hid fun w' h => ha.out.keep (fun _ h => h) (Same.of_below h (fun _ h => h))
    obtain ⟨X, hX⟩ : ∃ X : ByteArray, X = ⟨(Quote.show_ (la ++ lb)).toArray⟩ := ⟨_, rfl⟩
    obtain ⟨T, hT⟩ : ∃ T : ByteArray, T = ⟨(Quote.show_ la).toArray⟩ := ⟨_, rfl⟩
    obtain ⟨U, hU⟩ : ∃ U : ByteArray, U = ⟨(Quote.show_ lb).toArray⟩ := ⟨_, rfl⟩
    have HX := Lib.hid hX
    have HT := Lib.hid hT
    have HU := Lib.hid hU
    have hzs : ∀ (l : List UInt8) (Z : ByteArray), Z = ⟨(Quote.show_ l).toArray⟩ → l.length ≤ 2147483647 → 2 ≤ Z.size ∧ Z.size ≤ 8589934590 := fun l Z hZ hl => by
      rw [hZ]; show 2 ≤ (Quote.show_ l).toArray.size ∧ (Quote.show_ l).toArray.size ≤ _
      rw [List.size_toArray]; have := show_len l
      refine ⟨?_, by omega⟩
      unfold Quote.show_
      simp
    obtain ⟨htz1, htz2⟩ := hzs la T hT (by have := hn.out; omega)
    obtain ⟨huz1, huz2⟩ := hzs lb U hU (by have := hm.out; omega)
    obtain ⟨T1, hT1⟩ : ∃ T1, T.extract 0 (T.size - 1) = T1 := ⟨_, rfl⟩
    obtain ⟨U1, hU1⟩ : ∃ U1, U.extract 1 U.size = U1 := ⟨_, rfl⟩
    have hz1 : T1.size ≤ 8589934590 := by rw [← hT1, ByteArray.size_extract]; omega
    have hz2 : U1.size ≤ 8589934590 := by rw [← hU1, ByteArray.size_extract]; omega
    have hcat : X = T1 ++ U1 := by
      apply ba_list
      have hTl : T.data.toList = Quote.show_ la := by rw [hT]
      have hUl : U.data.toList = Quote.show_ lb := by rw [hU]
      have e1 : T1.data.toList = 34 :: Quote.body la := by
        rw [← hT1, ext_list, ba_size T _ hTl, hTl]
        unfold Quote.show_
        simp
      have e2 : U1.data.toList = Quote.body lb ++ [34] := by
        rw [← hU1, ext_list, ba_size U _ hUl, hUl, List.take_of_length_le (Nat.le_refl _)]
        rfl
      rw [ByteArray.data_append, Array.toList_append, e1, e2, hX]
      show Quote.show_ (la ++ lb) = _
      unfold Quote.show_
      rw [Quote.body_append lb la.length la hwh]
      simp
    have hbe : (X.toList == (T1 ++ U1).toList) = true := ba_yes hcat
    have htn : ((T.size : Int) - 1).toNat = T.size - 1 := by omega
    clear hX hT hU hzs hcat
    go_enter Tryd.func8, Tryd.ntmps8
    go_wp2_with fail
    refine HL'.out.mono ?_
    rintro r w' ⟨rfl, rfl⟩
    go_wp2_with fail
    refine HWH.out.mono ?_
    rintro r w' ⟨rfl, rfl⟩
    go_upto_region 6 with (first
      | (at_builtin; refine wpList_append_bytes _ rfl (.tmp 20) (.tmp 21) 23 rfl w.heap.size 5 stBytes (.slice none 0 0) [] rfl (Own.nil _ _ _ _) (under w.heap.size) A n c la rfl ha.out hn.out.symm (by simp; omega) (Nat.le_refl _) ?_; intro v4 w4 hown4 hg4 hat4; obtain ⟨A4, n4, c4, rfl, hn4, hnc4, hcm4⟩ := hown4.form; have HB4 := Lib.hid (below_own (Below.refl _ w) (Own.nil Rep.byte 5 w w.heap.size) hg4 (Nat.le_refl _)); have HO4 := Lib.hid hown4; clear hown4 hg4 hat4 hn4)
      | (at_builtin; refine wpList_append_bytes _ rfl (.tmp 23) (.tmp 24) 23 rfl w.heap.size 5 stBytes (.slice A4 n4 c4) _ rfl HO4.out (under w.heap.size) B m d lb rfl (HKB.out _ HB4.out) hm.out.symm (by have := hn.out; simp; omega) HB4.out.size ?_; intro v5 w5 hown5 hg5 hat5; obtain ⟨A5, n5, c5, rfl, hn5, hnc5, hcm5⟩ := hown5.form; have HB5 := Lib.hid (below_own HB4.out HO4.out hg5 HB4.out.size); have HO5 := Lib.hid hown5; have HN5 := Lib.hid hn5.out; clear hown5 hg5 hat5 hn5))
    have hn5 : n5 ≤ 2147483647 := by have := HN5.out; have := hn.out; have := hm.out; simp at *; omega
    go_wp2_with fail
    obtain ⟨A', n', c', e', q1, -, -, hs1⟩ := HO5.out.read
    simp only [Value.slice.injEq] at e'
    obtain ⟨rfl, rfl, rfl⟩ := e'
    refine (showP A5 n5 c5 (la ++ lb) X _ w5 q1.out hs1 (by omega) HX).mono ?_
    clear q1 hs1
    rintro r w6 ⟨rfl, HB6⟩
    have HA6 := Lib.hid (HB5.out.trans (HB6.out.mono HB5.out.size))
    go_wp2_with fail
    refine (cpB A n c la w6 _ hn.out (HKA.out _ HA6.out) (by omega)).mono ?_
    rintro r w7 ⟨A7, n7, c7, rfl, HO7, HN7, hc7, hm7, HB7⟩
    have HA7 := Lib.hid (HA6.out.trans (HB7.out.mono HA6.out.size))
    have hn7 : n7 ≤ 2147483647 := by have := HN7.out; have := hn.out; omega
    go_wp2_with fail
    obtain ⟨A', n', c', e', q1, -, -, hs1⟩ := HO7.out.read
    simp only [Value.slice.injEq] at e'
    obtain ⟨rfl, rfl, rfl⟩ := e'
    refine (showP A7 n7 c7 la T _ w7 q1.out hs1 (by omega) HT).mono ?_
    clear q1 hs1
    rintro r w8 ⟨rfl, HB8⟩
    have HA8 := Lib.hid (HA7.out.trans (HB8.out.mono HA7.out.size))
    go_wp2_with fail
    refine (cpB B m d lb w8 _ hm.out (HKB.out _ HA8.out) (by omega)).mono ?_
    rintro r w9 ⟨A9, n9, c9, rfl, HO9, HN9, hc9, hm9, HB9⟩
    have HA9 := Lib.hid (HA8.out.trans (HB9.out.mono HA8.out.size))
    have hn9 : n9 ≤ 2147483647 := by have := HN9.out; have := hm.out; omega
    go_wp2_with fail
    obtain ⟨A', n', c', e', q1, -, -, hs1⟩ := HO9.out.read
    simp only [Value.slice.injEq] at e'
    obtain ⟨rfl, rfl, rfl⟩ := e'
    refine (showP A9 n9 c9 lb U _ w9 q1.out hs1 (by omega) HU).mono ?_
    clear q1 hs1
    rintro r w10 ⟨rfl, HB10⟩
    have HA10 := Lib.hid (HA9.out.trans (HB10.out.mono HA9.out.size))
    have HWK : Hid (∀ W, Below w10.heap.size w10 W → Calls Tryd.prog 15 #[] W fun r w' => r = .returned (.bool true) ∧ Below W.heap.size W w') := Lib.hid fun W h => (worksQ W (Lib.hid ((hQ.out.below HA10.out).below h))).mono fun _ _ h => ⟨h.1, h.2.out⟩
    have HK0 : Hid (Below w10.heap.size w10 w10.drew) := Lib.hid (Below.refl _ _).drew
    have HKK : Hid (∀ W W', Below w10.heap.size w10 W → Below W.heap.size W W' → Below w10.heap.size w10 W') := Lib.hid fun W W' h hb => h.trans (hb.mono h.size)
    have hd1 : decide ((1 : Int) < (T.size : Int)) = true := decide_eq_true (by omega)
    have hd2 : decide ((1 : Int) < (U.size : Int)) = true := decide_eq_true (by omega)
    have hq1 : (0 : Int) ≤ (T.size : Int) - 1 := by omega
    have hq2 : (T.size : Int) - 1 ≤ (T.size : Int) := by omega
    have hq3 : (1 : Int) ≤ (U.size : Int) := by omega
    obtain ⟨kT, hkT⟩ : ∃ kT, kT = T.size - 1 := ⟨_, rfl⟩
    have hq4 : IntKind.i64.wrap ((T.size : Int) - 1) = (kT : Int) := by rw [IntKind.wrap_i64]; omega
    have hq6 : (kT : Int) ≤ (T.size : Int) := by omega
    have hq7 : (0 : Int) ≤ (kT : Int) := by omega
    rw [← hkT] at hT1
    clear hkT htn hq1 hq2
    have hq5 : ¬ 9223372036854775807 < T1.size + U1.size := by omega
    clear HO5 HO7 HO9 HN5 HN7 HN9 hn5 hn7 hn9
    go_upto_region 9 with fail
    go_region_held3 (fun W => Below w10.heap.size w10 W) (first | exact HK0.out | exact HKK.out _ _ (by assumption) (by assumption)) (first | (go_at_call 15; refine (HWK.out _ (by assumption)).mono ?_; rintro r w11 ⟨rfl, hb11⟩))
    have hfin : Below w10.heap.size w10 w11 := by assumption
    have HFIN := Lib.hid (HA10.out.trans (hfin.mono HA10.out.size))
    go_wp2_with fail
    go_ret
    exact ⟨rfl, HFIN⟩
end Go.Proofs.YtfmaaempcpjpkaaDoor
