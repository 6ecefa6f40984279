/- The walk of the law QuoteReads. Conditions: the tables and the sentinels lie as they are laid. -/
import Derived.Test.YtfmaaempcpjpkaaDoorQuoteWorks
import Derived.Test.YtfmaaempcpjpkaaDoorNLib
import Derived.Test.YtfmaaempcpjpkaaDoorBag
namespace Go.Proofs.YtfmaaempcpjpkaaDoor
open Go.RowKit Go.Deep

set_option maxRecDepth 100000 in
set_option maxHeartbeats 16000000 in
theorem quoteReads_any (t : ByteArray) (w : World) (hQ : Hid (QEnv w)) :
    Calls Tryd.prog 3 #[.string t] w fun r w' => r = .returned (.bool true) ∧ Hid (Below w.heap.size w w') := by
  rcases Nat.lt_or_ge 2147483647 t.size with hlong | hlong
  · go_enter Tryd.func3, Tryd.ntmps3
    go_wp2_with fail
    refine (longY _ _ hlong).mono ?_
    rintro e w' ⟨rfl, rfl⟩
    go_wp2_with fail
    go_ret
    exact ⟨rfl, Lib.hid (Below.refl _ _)⟩
  obtain ⟨b, x, hU, hxl⟩ := un_some t.data.toList
  have HU := Lib.hid hU
  have HXL : Hid (x.length ≤ 2147483647) := Lib.hid (by
    have h9 : t.data.toList.length = t.size := by rw [Array.length_toList]; rfl
    omega)
  have hss : (b != b) = false := by simp
  have hse : (b == b) = true := by simp
  have hnb : t.size ≤ 17179869184 := by omega
  clear hU hxl
  go_enter Tryd.func3, Tryd.ntmps3
  go_wp2_with fail
  refine (longN _ _ hlong).mono ?_
  rintro e w' ⟨rfl, rfl⟩
  go_wp2_with fail
  refine (unP t x b w hnb hQ HU).mono ?_
  rintro e w3 ⟨A3, n3, c3, rfl, hc3, hm3, HN3, HO3, HB3⟩
  have HR3 := Lib.hid ((Rws.nil 5 (Below.refl w.heap.size w)).add HB3.out HO3.out)
  simp only [List.nil_append] at HR3
  go_wp2_with fail
  refine (unP t x b w3 hnb (Lib.hid (hQ.out.below HR3.out.b)) HU).mono ?_
  rintro e w4 ⟨A4, n4, c4, rfl, hc4, hm4, HN4, HO4, HB4⟩
  have HR4 := Lib.hid (HR3.out.add HB4.out HO4.out)
  simp only [List.cons_append, List.nil_append] at HR4
  go_wp2_with fail
  refine (unD t x b w4 hnb HU).mono ?_
  rintro e w5 ⟨A5, n5, c5, rfl, hc5, hm5, HN5, HO5, HB5⟩
  have HR5 := Lib.hid (HR4.out.add HB5.out HO5.out)
  simp only [List.cons_append, List.nil_append] at HR5
  go_wp2_with fail
  obtain ⟨q1, -, -, hs1⟩ := HR5.out.read (k := 0) rfl
  obtain ⟨q2, -, -, hs2⟩ := HR5.out.read (k := 2) rfl
  refine (eqN A3 A5 n3 c3 n5 c5 _ _ w5 true q1 q2 (decide_eq_true rfl) _ _ hs1 hs2).mono ?_
  clear q1 q2 hs1 hs2
  rintro e w6 ⟨rfl, HB6⟩
  have HR6 := Lib.hid (HR5.out.far HB6.out)
  go_wp2_with fail
  obtain ⟨q1, -, -, hs1⟩ := HR6.out.read (k := 1) rfl
  obtain ⟨q2, -, -, hs2⟩ := HR6.out.read (k := 2) rfl
  refine (eqN A4 A5 n4 c4 n5 c5 _ _ w6 true q1 q2 (decide_eq_true rfl) _ _ hs1 hs2).mono ?_
  clear q1 q2 hs1 hs2
  rintro e w7 ⟨rfl, HB7⟩
  have HR7 := Lib.hid (HR6.out.far HB7.out)
  have hl3 : n3 ≤ 2147483647 := by have := HN3.out; have := HXL.out; omega
  have hl4 : n4 ≤ 2147483647 := by have := HN4.out; have := HXL.out; omega
  go_wp2_with fail
  have HG0 := Lib.hid (BagB.start w7 w.heap.size HR7.out.b.size)
  have HR14 := Lib.hid (HR7.out.far ((Below.refl _ _).alloc (Nat.le_refl _) (bagB (.slice none 0 0))))
  refine (addBytes_any w.heap.size _ _ [] _ HG0.out (by simp) _ _ _).mono ?_
  rintro e w15 ⟨rfl, v1, hbg1, ho1⟩
  have HR15 := Lib.hid (HR14.out.bag HG0.out ho1)
  have HG1 := Lib.hid hbg1
  clear hbg1 ho1
  go_wp2_with fail
  refine (addBytes_any w.heap.size _ _ _ _ HG1.out (by simp) _ _ _).mono ?_
  rintro e w16 ⟨rfl, v2, hbg1, ho1⟩
  have HR16 := Lib.hid (HR15.out.bag HG1.out ho1)
  have HG2 := Lib.hid hbg1
  clear hbg1 ho1
  go_wp2_with fail
  obtain ⟨ho, hd⟩ := HR16.out.chosen (fs := [((A3, n3, c3), x), ((A4, n4, c4), x)]) (.cons_cons _ (.cons_cons _ (.cons _ .slnil)))
  refine (apart_bytesO w.heap.size _ v2 [(A3, n3, c3), (A4, n4, c4)] w16 HG2.out (by simp) (by simp) ho (by simp; omega) hd).mono ?_
  clear ho hd
  rintro e w17 ⟨rfl, ho17⟩
  have HB17 : Hid (Below w.heap.size w w17) := Lib.hid (HR16.out.b.trans (ho17.below HR16.out.b.size fun b ⟨y, hy, hb⟩ => by
    have hy : y = (A3, n3, c3) ∨ y = (A4, n4, c4) := by simpa using hy
    rcases hy with rfl | rfl
    · exact ((HR16.out.get (k := 0) rfl).block_lt hb).1
    · exact ((HR16.out.get (k := 1) rfl).block_lt hb).1))
  have HW17 : Hid (Own Rep.byte 5 w17 w.heap.size nob (.slice A5 n5 c5) x) := Lib.hid ((HR16.out.get (k := 2) rfl).only ho17 fun b hb ⟨y, hy, hyb⟩ => by
    have hy : y = (A3, n3, c3) ∨ y = (A4, n4, c4) := by simpa using hy
    have hdd := HR16.out.dist
    simp only [List.pairwise_cons, List.mem_cons, List.not_mem_nil, or_false, forall_eq_or_imp, forall_eq] at hdd
    rcases hy with rfl | rfl
    · exact hdd.1.2 b hyb hb
    · exact hdd.2.1 b hyb hb)
  clear ho17
  go_wp2_with fail
  refine (unP t x b w17 hnb (Lib.hid (hQ.out.below HB17.out)) HU).mono ?_
  rintro e w18 ⟨A18, n18, c18, rfl, hc18, hm18, HN18, HO18, HB18⟩
  have HW18 := Lib.hid (HW17.out.far HB18.out)
  have HA18 := Lib.hid (HB17.out.trans (HB18.out.mono HB17.out.size))
  go_wp2_with fail
  obtain ⟨A', n', c', e', q1, -, -, hs1⟩ := HO18.out.read
  simp only [Value.slice.injEq] at e'
  obtain ⟨rfl, rfl, rfl⟩ := e'
  obtain ⟨A', n', c', e', q2, -, -, hs2⟩ := HW18.out.read
  simp only [Value.slice.injEq] at e'
  obtain ⟨rfl, rfl, rfl⟩ := e'
  refine (eqN A18 A5 n18 c18 n5 c5 _ _ w18 true q1.out q2.out (decide_eq_true rfl) _ _ hs1 hs2).mono ?_
  clear q1 q2 hs1 hs2
  rintro e w19 ⟨rfl, HB19⟩
  have HA19 := Lib.hid (HA18.out.trans (HB19.out.mono HA18.out.size))
  go_wp2_with fail
  refine (worksQ w19 (Lib.hid (hQ.out.below HA19.out))).mono ?_
  rintro e w20 ⟨rfl, HB20⟩
  go_wp2_with fail
  go_ret
  exact ⟨rfl, Lib.hid (HA19.out.trans (HB20.out.mono HA19.out.size))⟩
end Go.Proofs.YtfmaaempcpjpkaaDoor
