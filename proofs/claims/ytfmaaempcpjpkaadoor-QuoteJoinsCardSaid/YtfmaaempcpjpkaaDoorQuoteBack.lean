/- The walk of the law QuoteBack. Conditions: the tables and the sentinels lie as they are laid. -/
import Derived.Test.YtfmaaempcpjpkaaDoorQuoteWorks
import Derived.Test.YtfmaaempcpjpkaaDoorNLib
import Derived.Test.YtfmaaempcpjpkaaDoorQuotePlainW
import Derived.BigQuiet
import Derived.Deep.RegionHeld3
namespace Go.Proofs.YtfmaaempcpjpkaaDoor
open Go.RowKit Go.Deep

/-- Show, its answer by a name. -/
theorem showP (A : Option Addr) (n c : Nat) (l : List UInt8) (T : ByteArray) (S : Blocks) (w : World) (hn : n = l.length) (hl : SliceAt Rep.byte w S A c l) (hnb : n ≤ 17179869184) (hT : Hid (T = ⟨(Quote.show_ l).toArray⟩)) :
    Calls Tryd.prog 20 #[.slice A n c] w fun e w' => e = .returned (.string T) ∧ Hid (Below w.heap.size w w') :=
  (show_any A n c l S w (Lib.hid hn) (Lib.hid hl) hnb).mono fun _ _ h => ⟨by rw [h.1, hT.out], h.2⟩
set_option maxRecDepth 100000 in
set_option maxHeartbeats 16000000 in
theorem quoteBack_any (A B : Option Addr) (n c m d : Nat) (lb lc : List UInt8) (t : ByteArray) (w : World) (hn : Hid (n = lb.length)) (hm : Hid (m = lc.length)) (hb : Hid (SliceAt Rep.byte w (under w.heap.size) A c lb)) (hc : Hid (SliceAt Rep.byte w (under w.heap.size) B d lc)) (hQ : Hid (QEnv w)) :
    Calls Tryd.prog 6 #[.slice A n c, .slice B m d, .string t] w fun r w' => r = .returned (.bool true) ∧ Hid (Below w.heap.size w w') := by
  rcases Nat.lt_or_ge 2147483647 n with hl0 | hl0
  · go_enter Tryd.func6, Tryd.ntmps6
    go_wp2_with fail
    refine (longY _ _ hl0).mono ?_
    rintro r w' ⟨rfl, rfl⟩
    go_wp2_with fail
    go_ret
    exact ⟨rfl, Lib.hid (Below.refl _ _)⟩
  rcases Nat.lt_or_ge 2147483647 m with hl1 | hl1
  · go_enter Tryd.func6, Tryd.ntmps6
    go_wp2_with fail
    refine (longN _ _ hl0).mono ?_
    rintro r w' ⟨rfl, rfl⟩
    go_wp2_with fail
    refine (longY _ _ hl1).mono ?_
    rintro r w' ⟨rfl, rfl⟩
    go_wp2_with fail
    go_ret
    exact ⟨rfl, Lib.hid (Below.refl _ _)⟩
  rcases Nat.lt_or_ge 2147483647 t.size with hl2 | hl2
  · go_enter Tryd.func6, Tryd.ntmps6
    go_wp2_with fail
    refine (longN _ _ hl0).mono ?_
    rintro r w' ⟨rfl, rfl⟩
    go_wp2_with fail
    refine (longN _ _ hl1).mono ?_
    rintro r w' ⟨rfl, rfl⟩
    go_wp2_with fail
    refine (longY _ _ hl2).mono ?_
    rintro r w' ⟨rfl, rfl⟩
    go_wp2_with fail
    go_ret
    exact ⟨rfl, Lib.hid (Below.refl _ _)⟩
  have HKB : Hid (∀ w', Below w.heap.size w w' → SliceAt Rep.byte w' (under w.heap.size) A c lb) := Lib.hid fun w' h => hb.out.keep (fun _ h => h) (Same.of_below h (fun _ h => h))
  have HKC : Hid (∀ w', Below w.heap.size w w' → SliceAt Rep.byte w' (under w.heap.size) B d lc) := Lib.hid fun w' h => hc.out.keep (fun _ h => h) (Same.of_below h (fun _ h => h))
  obtain ⟨T, hT⟩ : ∃ T : ByteArray, T = ⟨(Quote.show_ lb).toArray⟩ := ⟨_, rfl⟩
  obtain ⟨U, hU⟩ : ∃ U : ByteArray, U = ⟨(Quote.show_ lc).toArray⟩ := ⟨_, rfl⟩
  have HT := Lib.hid hT
  have HU := Lib.hid hU
  have HTL : Hid (T.data.toList = Quote.show_ lb) := Lib.hid (by rw [hT])
  have htz : T.size ≤ 8589934590 := by
    rw [hT]; show (Quote.show_ lb).toArray.size ≤ _
    rw [List.size_toArray]; have := show_len lb; have := hn.out; omega
  have hTU : (T.toList == U.toList) = decide (lb = lc) := by
    by_cases h : lb = lc
    · rw [decide_eq_true h, hT, hU, h]; simp
    · rw [decide_eq_false h]
      refine ba_no fun e => h ?_
      rw [hT, hU] at e
      have e2 := congrArg (fun t : ByteArray => t.data.toList) e
      exact show_inj e2
  obtain ⟨q, hq⟩ : ∃ q, decide (lb = lc) = q := ⟨_, rfl⟩
  rw [hq] at hTU
  have HQQ := Lib.hid hq
  have hqq : (q != q) = false := by simp
  clear hT hU hq
  obtain ⟨z, x, hUn, hxl⟩ := un_some t.data.toList
  have HUN := Lib.hid hUn
  have HXL : Hid (x.length ≤ 2147483647) := Lib.hid (by
    have h9 : t.data.toList.length = t.size := by rw [Array.length_toList]; rfl
    omega)
  clear hUn hxl
  go_enter Tryd.func6, Tryd.ntmps6
  go_wp2_with fail
  refine (longN _ _ hl0).mono ?_
  rintro r w' ⟨rfl, rfl⟩
  go_wp2_with fail
  refine (longN _ _ hl1).mono ?_
  rintro r w' ⟨rfl, rfl⟩
  go_wp2_with fail
  refine (longN _ _ hl2).mono ?_
  rintro r w' ⟨rfl, rfl⟩
  go_wp2_with fail
  refine (cpB A n c lb w _ hn.out hb.out (by omega)).mono ?_
  rintro r w1 ⟨A1, n1, c1, rfl, HO1, HN1, hc1, hm1, HB1⟩
  have hn1 : n1 ≤ 2147483647 := by have := HN1.out; have := hn.out; omega
  go_wp2_with fail
  obtain ⟨A', n', c', e', q1, -, -, hs1⟩ := HO1.out.read
  simp only [Value.slice.injEq] at e'
  obtain ⟨rfl, rfl, rfl⟩ := e'
  refine (showP A1 n1 c1 lb T _ w1 q1.out hs1 (by omega) HT).mono ?_
  clear q1 hs1
  rintro r w2 ⟨rfl, HB2⟩
  have HA2 := Lib.hid (HB1.out.trans (HB2.out.mono HB1.out.size))
  go_wp2_with fail
  refine (cpB B m d lc w2 _ hm.out (HKC.out _ HA2.out) (by omega)).mono ?_
  rintro r w3 ⟨A3, n3, c3, rfl, HO3, HN3, hc3, hm3, HB3⟩
  have HA3 := Lib.hid (HA2.out.trans (HB3.out.mono HA2.out.size))
  have hn3 : n3 ≤ 2147483647 := by have := HN3.out; have := hm.out; omega
  go_wp2_with fail
  obtain ⟨A', n', c', e', q1, -, -, hs1⟩ := HO3.out.read
  simp only [Value.slice.injEq] at e'
  obtain ⟨rfl, rfl, rfl⟩ := e'
  refine (showP A3 n3 c3 lc U _ w3 q1.out hs1 (by omega) HU).mono ?_
  clear q1 hs1
  rintro r w4 ⟨rfl, HB4⟩
  have HA4 := Lib.hid (HA3.out.trans (HB4.out.mono HA3.out.size))
  go_wp2_with fail
  refine (unP T lb true w4 (by omega) (Lib.hid (hQ.out.below HA4.out)) (Lib.hid (.inl ⟨rfl, HTL.out.symm⟩))).mono ?_
  rintro r w5 ⟨A5, n5, c5, rfl, hc5, hm5, HN5, HO5, HB5⟩
  have HA5 := Lib.hid (HA4.out.trans (HB5.out.mono HA4.out.size))
  have hn5 : n5 ≤ 2147483647 := by have := HN5.out; have := hn.out; omega
  go_wp2_with fail
  obtain ⟨A', n', c', e', q1, -, -, hs1⟩ := HO5.out.read
  simp only [Value.slice.injEq] at e'
  obtain ⟨rfl, rfl, rfl⟩ := e'
  refine (eqN A5 A n5 c5 n c _ _ w5 true q1.out hn.out (decide_eq_true rfl) _ _ hs1 (HKB.out _ HA5.out)).mono ?_
  clear q1 hs1
  rintro r w6 ⟨rfl, HB6⟩
  have HA6 := Lib.hid (HA5.out.trans (HB6.out.mono HA5.out.size))
  go_wp2_with fail
  refine (plain_any T (Quote.body lb) w6 (by omega) HTL (Lib.hid (Quote.plain_body lb.length lb (Nat.le_refl _)))).mono ?_
  rintro r w7 ⟨rfl, rfl⟩
  have hcv := Lib.run_convert_string_bytes (P := Tryd.prog) w6 9 23 5 T (u := .string) Tryd.underlying9 Tryd.underlying23 Tryd.underlying5
  have HSL := Lib.hid (bytesSlice w6 5 T (by simp only [maxLen]; omega))
  have HBB := Lib.hid (Lib.bytesWorld_below w6 5 T)
  obtain ⟨W1, hW1⟩ : ∃ W1, W1 = Lib.bytesWorld w6 5 T := ⟨_, rfl⟩
  obtain ⟨cc, hcc⟩ : ∃ cc, cc = grownCap w6 T.size 0 5 := ⟨_, rfl⟩
  rw [← hW1] at hcv HSL HBB
  rw [← hcc] at hcv HSL
  clear hW1 hcc
  have HA8 := Lib.hid (HA6.out.trans (HBB.out.mono HA6.out.size))
  have hwh : Quote.whole T.data.toList = true := by
    rw [HTL.out]
    unfold Quote.show_
    rw [Quote.whole_ascii 34 _ (by decide), Quote.whole_body [34] lb.length lb (Nat.le_refl _)]
    decide
  have HWH := whole_any (some ⟨w6.heap.size, 0, none⟩) T.size cc T.data.toList _ W1 (Lib.hid (by rw [Array.length_toList]; rfl)) HSL (by omega)
  rw [hwh] at HWH
  have HWH' := Lib.hid HWH
  clear HWH hwh
  go_wp2_with fail
  refine HWH'.out.mono ?_
  rintro r w9 ⟨rfl, rfl⟩
  go_wp2_with fail
  refine (eqN A B n c m d _ _ W1 q hn.out hm.out HQQ.out _ _ (HKB.out _ HA8.out) (HKC.out _ HA8.out)).mono ?_
  rintro r w10 ⟨rfl, HB10⟩
  have HA10 := Lib.hid (HA8.out.trans (HB10.out.mono HA8.out.size))
  go_wp2_with fail
  refine (unP t x z w10 (by omega) (Lib.hid (hQ.out.below HA10.out)) HUN).mono ?_
  rintro r w11 ⟨A11, n11, c11, rfl, hc11, hm11, HN11, HO11, HB11⟩
  have HA11 := Lib.hid (HA10.out.trans (HB11.out.mono HA10.out.size))
  rcases HUN.out with ⟨rfl, hsh⟩ | ⟨rfl, rfl, -⟩
  · have hn11 : n11 ≤ 2147483647 := by have := HN11.out; have := HXL.out; omega
    have hte : Hid (t = ⟨(Quote.show_ x).toArray⟩) := Lib.hid (ba_eta t _ hsh.symm)
    have hbe : (t.toList == t.toList) = true := by simp
    clear hsh
    go_wp2_with fail
    obtain ⟨A', n', c', e', q1, -, -, hs1⟩ := HO11.out.read
    simp only [Value.slice.injEq] at e'
    obtain ⟨rfl, rfl, rfl⟩ := e'
    refine (showP A11 n11 c11 x t _ w11 q1.out hs1 (by omega) hte).mono ?_
    clear q1 hs1
    rintro r w12 ⟨rfl, HB12⟩
    have HA12 := Lib.hid (HA11.out.trans (HB12.out.mono HA11.out.size))
    go_wp2_with fail
    refine (worksQ w12 (Lib.hid (hQ.out.below HA12.out))).mono ?_
    rintro r w13 ⟨rfl, HB13⟩
    go_wp2_with fail
    go_ret
    exact ⟨rfl, Lib.hid (HA12.out.trans (HB13.out.mono HA12.out.size))⟩
  · obtain rfl : n11 = 0 := HN11.out
    go_wp2_with fail
    refine (worksQ w11 (Lib.hid (hQ.out.below HA11.out))).mono ?_
    rintro r w13 ⟨rfl, HB13⟩
    go_wp2_with fail
    go_ret
    exact ⟨rfl, Lib.hid (HA11.out.trans (HB13.out.mono HA11.out.size))⟩
end Go.Proofs.YtfmaaempcpjpkaaDoor
