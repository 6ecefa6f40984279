/- The walk of the law OptsJoins. Conditions: no text, no row of more than 2^47 (the reach); the tables of UTF-8 and of powers of ten. -/
import Derived.Test.YtmjagjcaepbklaaDoorProg
import Derived.Test.YtmjagjcaepbklaaDoorOptsWorks
import Derived.Test.YtmjagjcaepbklaaDoorTexts
import Derived.Test.YtmjagjcaepbklaaDoorJoin
import Derived.Test.YtmjagjcaepbklaaDoorBag
import Derived.Test.YtmjagjcaepbklaaDoorRws
namespace Go.Proofs.YtmjagjcaepbklaaDoor
open Go.RowKit

theorem eqB (A B : Option Addr) (n c m d : Nat) (xs ys : List UInt8) (w : World) (r : Bool) (hn : n = xs.length) (hm : m = ys.length) (hr : decide (xs = ys) = r) (S S' : Blocks) (hx : SliceAt Rep.byte w S A c xs) (hy : SliceAt Rep.byte w S' B d ys) :
    Calls Tryd.prog 25 #[.slice A n c, .slice B m d] w fun e w' => e = .returned (.bool r) ∧ Below w.heap.size w w' := by
  subst hn
  subst hm
  refine (eqBytes A B c d xs ys w S S' hx hy).mono ?_
  rintro e w' ⟨rfl, k, rfl⟩
  exact ⟨by rw [hr], ⟨rfl, rfl, rfl, Nat.le_refl _, fun _ _ => rfl⟩⟩
theorem eqT (A B : Option Addr) (n c m d : Nat) (xs ys : List ByteArray) (w : World) (r : Bool) (hn : n = xs.length) (hm : m = ys.length) (hr : decide (xs = ys) = r) (S S' : Blocks) (hx : SliceAt Rep.str w S A c xs) (hy : SliceAt Rep.str w S' B d ys) :
    Calls Tryd.prog 15 #[.slice A n c, .slice B m d] w fun e w' => e = .returned (.bool r) ∧ Below w.heap.size w w' := by
  subst hn
  subst hm
  refine (eqTexts A B c d xs ys w S S' hx hy).mono ?_
  rintro e w' ⟨rfl, k, rfl⟩
  exact ⟨by rw [hr], ⟨rfl, rfl, rfl, Nat.le_refl _, fun _ _ => rfl⟩⟩
theorem Own.at1 {α : Type} {r : Rep α} {e : TypeId} {w : World} {base : Nat} {A : Option Addr} {n c : Nat} {l : List α} (h : Own r e w base nob (.slice A n c) l) : n = l.length ∧ n ≤ c ∧ c ≤ 9223372036854775807 ∧ SliceAt r w (under w.heap.size) A c l := by
  obtain ⟨A', n', c', e, hn, h1, h2, hs⟩ := h.read
  simp only [Value.slice.injEq] at e
  obtain ⟨rfl, rfl, rfl⟩ := e
  exact ⟨hn.out, h1, h2, hs.up (btw_under (Nat.le_refl _))⟩
set_option maxRecDepth 100000 in
set_option maxHeartbeats 8000000 in
theorem optsJoins_any (l m : List ByteArray) (A B : Option Addr) (n ca p cb : Nat) (w : World) (hn : Hid (n = l.length)) (hl : Hid (SliceAt Rep.str w (under w.heap.size) A ca l))
    (hp : Hid (p = m.length)) (hm : Hid (SliceAt Rep.str w (under w.heap.size) B cb m)) (hT : Hid (Lib.Utf8Tabs 0 1 w)) (hP : Hid (Pow w)) (hsl : Hid (∀ x ∈ l, x.size ≤ 140737488351232)) (hsm : Hid (∀ x ∈ m, x.size ≤ 140737488351232)) :
    Calls Tryd.prog 7 #[.slice A n ca, .slice B p cb] w fun e' w' => e' = .returned (.bool true) ∧ Below w.heap.size w w' := by
  have hnc := hl.out.len
  have hcm := hl.out.max
  rw [← hn.out] at hnc
  have hpc := hm.out.len
  have hpm := hm.out.max
  rw [← hp.out] at hpc
  have HIN : Hid (∀ W, Below w.heap.size w W → SliceAt Rep.str W (under W.heap.size) A ca l ∧ SliceAt Rep.str W (under W.heap.size) B cb m ∧ Pow W) := Lib.hid fun W hW => ⟨hl.out.keep (fun _ h => Nat.lt_of_lt_of_le h hW.size) (Same.of_below hW fun _ h => h), hm.out.keep (fun _ h => Nat.lt_of_lt_of_le h hW.size) (Same.of_below hW fun _ h => h), hP.out.below hW⟩
  go_enter Tryd.func7, Tryd.ntmps7
  go_wp2_with fail
  refine (worksO_any w hT).mono ?_
  rintro e1 w1 ⟨rfl, hb1⟩
  have HB1 := Lib.hid hb1
  clear hb1
  go_wp2_with fail
  refine (longJ_any A n ca l w1 _ hn (Lib.hid (HIN.out w1 HB1.out).1) hsl).mono ?_
  rintro e1 w1' ⟨⟨b, rfl, hbn⟩, rfl⟩
  cases b
  case true =>
    go_wp2_with fail
    go_ret
    exact ⟨rfl, HB1.out⟩
  have HR1 := Lib.hid (hbn rfl)
  clear hbn
  go_wp2_with fail
  refine (longJ_any B p cb m w1 _ hp (Lib.hid (HIN.out w1 HB1.out).2.1) hsm).mono ?_
  rintro e1 w1' ⟨⟨b, rfl, hbn⟩, rfl⟩
  cases b
  case true =>
    go_wp2_with fail
    go_ret
    exact ⟨rfl, HB1.out⟩
  have HRM := Lib.hid (hbn rfl)
  clear hbn
  have hnb : n ≤ 67108864 := by have := rawJ_len_ge l; have := HR1.out; have := hn.out; omega
  have hpb : p ≤ 67108864 := by have := rawJ_len_ge m; have := HRM.out; have := hp.out; omega
  have HRA : Hid ((rawJ (l ++ m)).length ≤ 134217728) := Lib.hid (by rw [rawJ_append, List.length_append]; have := HR1.out; have := HRM.out; omega)
  go_wp2_with fail
  refine (wideTexts_any A n ca l w1 _ hn.out (HIN.out w1 HB1.out).1 (fun _ h => h) (by omega) (Lib.hid (HIN.out w1 HB1.out).2.2)).mono ?_
  rintro e w2 ⟨g, rfl, hown2, hb2⟩
  have hfst : Own Rep.str 9 w2 w1.heap.size nob (.slice (some ⟨g, 0, none⟩) n (n + 64)) l := by
    have := hown2.first (k := n) (by rw [List.length_append, marksT_len, ← hn.out]) (by omega)
    rw [List.take_append_of_le_length (by have := hn.out; omega), List.take_of_length_le (by have := hn.out; omega)] at this
    exact this
  have HR2 := Lib.hid ((Rws.nil 5 HB1.out).far hb2)
  have HF2 := Lib.hid hown2
  have HI2 := Lib.hid hfst
  clear hown2 hb2 hfst
  go_wp2_with fail
  refine (join_any (some ⟨g, 0, none⟩) n (n + 64) l w2 hn (Lib.hid HI2.out.at1.2.2.2) (Lib.hid (by have := HR1.out; omega))).mono ?_
  rintro e w3 ⟨A7, n7, c7, rfl, HO7, hc7, hm7, HB7⟩
  have HR3 := Lib.hid (HR2.out.add HB7.out HO7.out)
  have HF3 := Lib.hid (HF2.out.far HB7.out)
  have HI3 := Lib.hid (HI2.out.far HB7.out)
  simp only [List.nil_append] at HR3
  clear HF2 HI2
  go_wp2_with fail
  refine (join_any B p cb m w3 hp (Lib.hid (HIN.out w3 HR3.out.b).2.1) (Lib.hid (by have := HRM.out; omega))).mono ?_
  rintro e w4 ⟨A8, n8, c8, rfl, HO8, hc8, hm8, HB8⟩
  have HR4 := Lib.hid (HR3.out.add HB8.out HO8.out)
  have HF4 := Lib.hid (HF3.out.far HB8.out)
  have HI4 := Lib.hid (HI3.out.far HB8.out)
  simp only [List.cons_append, List.nil_append] at HR4
  clear HF3 HI3
  go_wp2_with fail
  refine (copyTexts_any A n ca l w4 _ hn.out (Lib.hid (HIN.out w4 HR4.out.b).1) (by omega)).mono ?_
  rintro e w5 ⟨v9, rfl, HO9, hb9⟩
  obtain ⟨A9, n9, c9, rfl, -, hn9, hc9⟩ := HO9.out.form
  have HB9 := Lib.hid hb9
  clear hb9
  go_wp2_with (at_builtin; refine wpList_append_Own _ rfl (.tmp 29) (.tmp 30) 22 rfl Rep.str w4.heap.size 9 16 stTxt nob (.slice A9 n9 c9) l rfl HO9.out (under w5.heap.size) B cb m (by rw [← hp.out]; rfl) (HIN.out w5 (HR4.out.b.trans (HB9.out.mono HR4.out.b.size))).2.1 nob (fun _ h => h.elim) (fun _ h => h) (fun _ _ h => h) (by have := hn.out; have := hp.out; omega) (by have := hn.out; have := hp.out; omega) HB9.out.size ?_; intro v6 w6 hown6 hg6 hat6; obtain ⟨A6, n6, c6, rfl, -, hnc6, hcm6⟩ := hown6.form; have HB6 := Lib.hid (below_own HB9.out HO9.out hg6 HB9.out.size); have HALL := Lib.hid hown6; clear hown6 hg6 hat6)
  have HR6 := Lib.hid (HR4.out.far HB6.out)
  have HF6 := Lib.hid (HF4.out.far HB6.out)
  have HI6 := Lib.hid (HI4.out.far HB6.out)
  clear HF4 HI4
  refine (join_any A6 n6 c6 (l ++ m) w6 (Lib.hid HALL.out.at1.1) (Lib.hid HALL.out.at1.2.2.2) (Lib.hid (by have := HRA.out; omega))).mono ?_
  rintro e w7 ⟨A10, n10, c10, rfl, HO10, hc10, hm10, HB10⟩
  have HR7 := Lib.hid (HR6.out.add HB10.out HO10.out)
  have HF7 := Lib.hid (HF6.out.far HB10.out)
  have HI7 := Lib.hid (HI6.out.far HB10.out)
  have HA7 := Lib.hid (HALL.out.far HB10.out)
  simp only [List.cons_append, List.nil_append] at HR7
  clear HF6 HI6 HALL HR2 HR3 HR4 HR6
  go_wp2_with fail
  refine (refJoin_any A n ca l w7 hn (Lib.hid (HIN.out w7 HR7.out.b).1) (Lib.hid (by have := HR1.out; omega))).mono ?_
  rintro e w8 ⟨A11, n11, c11, rfl, HO11, hc11, hm11, HB11⟩
  have HR8 := Lib.hid (HR7.out.add HB11.out HO11.out)
  have HF8 := Lib.hid (HF7.out.far HB11.out)
  have HI8 := Lib.hid (HI7.out.far HB11.out)
  have HA8 := Lib.hid (HA7.out.far HB11.out)
  simp only [List.cons_append, List.nil_append] at HR8
  clear HF7 HI7 HA7 HR7
  go_wp2_with fail
  obtain ⟨q1, -, -, hs1⟩ := HR8.out.read (k := 0) rfl
  obtain ⟨q2, -, -, hs2⟩ := HR8.out.read (k := 3) rfl
  refine (eqB A7 A11 n7 c7 n11 c11 _ _ w8 true q1 q2 (decide_eq_true rfl) _ _ hs1 hs2).mono ?_
  clear q1 q2 hs1 hs2
  rintro e w9 ⟨rfl, hb9⟩
  have HR9 := Lib.hid (HR8.out.far hb9)
  have HF9 := Lib.hid (HF8.out.far hb9)
  have HI9 := Lib.hid (HI8.out.far hb9)
  have HA9 := Lib.hid (HA8.out.far hb9)
  clear HF8 HI8 HA8 HR8 hb9
  go_wp2_with fail
  refine (eqT (some ⟨g, 0, none⟩) A n (n + 64) n ca _ _ w9 true hn.out hn.out (decide_eq_true rfl) _ _ HI9.out.at1.2.2.2 (HIN.out w9 HR9.out.b).1).mono ?_
  rintro e wA ⟨rfl, hbA⟩
  have HRA' := Lib.hid (HR9.out.far hbA)
  have HFA := Lib.hid (HF9.out.far hbA)
  have HAA := Lib.hid (HA9.out.far hbA)
  clear HF9 HI9 HA9 HR9 hbA
  go_wp2_with fail
  refine (spareTexts_any g n _ l wA hn.out HFA.out (by omega) (Lib.hid (HIN.out wA HRA'.out.b).2.2)).mono ?_
  rintro e wB ⟨rfl, hbB⟩
  have HRB := Lib.hid (HRA'.out.far hbB)
  have HAB := Lib.hid (HAA.out.far hbB)
  clear HFA HAA HRA' hbB
  go_wp2_with fail
  refine (refJoin_any A6 n6 c6 (l ++ m) wB (Lib.hid HAB.out.at1.1) (Lib.hid HAB.out.at1.2.2.2) (Lib.hid (by have := HRA.out; omega))).mono ?_
  rintro e wC ⟨A12, n12, c12, rfl, HO12, hc12, hm12, HB12⟩
  have HRC := Lib.hid (HRB.out.add HB12.out HO12.out)
  simp only [List.cons_append, List.nil_append] at HRC
  clear HAB HRB
  go_wp2_with fail
  obtain ⟨q1, -, -, hs1⟩ := HRC.out.read (k := 2) rfl
  obtain ⟨q2, -, -, hs2⟩ := HRC.out.read (k := 4) rfl
  refine (eqB A10 A12 n10 c10 n12 c12 _ _ wC true q1 q2 (decide_eq_true rfl) _ _ hs1 hs2).mono ?_
  clear q1 q2 hs1 hs2
  rintro e wD ⟨rfl, hbD⟩
  have HRD := Lib.hid (HRC.out.far hbD)
  clear HRC hbD
  have hl7 : n7 ≤ 134217728 := by have := (HRD.out.read (k := 0) rfl).1; have := joinJ_len l; have := HR1.out; omega
  have hl8 : n8 ≤ 134217728 := by
    have := (HRD.out.read (k := 1) rfl).1; have := joinJ_len m; have := HRM.out
    omega
  have hl10 : n10 ≤ 134217728 := by have := (HRD.out.read (k := 2) rfl).1; have := joinJ_len (l ++ m); have := HRA.out; omega
  have HEN : Hid (0 < n → 0 < p → n10 = n7 + 1 + n8 ∧ joinJ (l ++ m) = joinJ l ++ 10 :: joinJ m) := Lib.hid fun h1 h2 => by
    have e := joinJ_append (l := l) (m := m) (by rintro rfl; have := hn.out; simp at this; omega) (by rintro rfl; have := hp.out; simp at this; omega)
    have q1 := (HRD.out.read (k := 0) rfl).1
    have q2 := (HRD.out.read (k := 1) rfl).1
    have q3 := (HRD.out.read (k := 2) rfl).1
    rw [e, List.length_append, List.length_cons] at q3
    exact ⟨by omega, e⟩
  obtain ⟨wX, HRX, hcase⟩ : ∃ wX, Hid (Rws 5 w wX [((A7, n7, c7), joinJ l), ((A8, n8, c8), joinJ m), ((A10, n10, c10), joinJ (l ++ m)), ((A11, n11, c11), joinJ l), ((A12, n12, c12), joinJ (l ++ m))]) ∧ wX = wD := ⟨wD, HRD, rfl⟩
  subst hcase
  clear HRD
  have h3 : n = 0 ∨ (0 < n ∧ p = 0) ∨ (0 < n ∧ 0 < p) := by omega
  rcases h3 with rfl | ⟨h0, rfl⟩ | ⟨h0, h1⟩
  case inr.inr =>
    obtain ⟨he, hj⟩ := HEN.out h0 h1
    have hd1 : decide ((0 : Int) < n) = true := decide_eq_true (by omega)
    have hd2 : decide ((0 : Int) < p) = true := decide_eq_true (by omega)
    have hd3 : ((n10 : Int) != (n7 : Int) + 1 + n8) = false := by rw [bne_eq_false_iff_eq]; omega
    have hln7 : n7 = (joinJ l).length := (HRX.out.read (k := 0) rfl).1
    have hln10 : n10 = (joinJ (l ++ m)).length := (HRX.out.read (k := 2) rfl).1
    have hlt : n7 < (joinJ (l ++ m)).length := by omega
    obtain ⟨g10, rfl, hcell, -⟩ := HRX.out.cell (k := 2) rfl (i := n7) hlt
    have hten : (joinJ (l ++ m))[n7] = 10 := by
      have : ∀ (L : List UInt8) (h : n7 < L.length), L = joinJ l ++ 10 :: joinJ m → L[n7] = 10 := by
        intro L h e
        subst e
        rw [List.getElem_append_right (by omega)]
        simp [hln7]
      exact this _ hlt hj
    rw [hten] at hcell
    have hcell2 : wX.cell? ⟨g10, n7, none⟩ = some (.int .u8 10) := hcell
    have hsl : ∀ W : World, (Instr.sliceAt 68 (.slice (some ⟨g10, 0, none⟩) n10 c10) (some (.int .i64 ((n7 : Int) + 1))) none none).run Tryd.prog W = .ok (.slice (cutA (some ⟨g10, 0, none⟩) c10 (n7 + 1) 1) (n10 - (n7 + 1)) (c10 - (n7 + 1))) W := fun W => run_slice_from W stBytes _ n10 c10 (n7 + 1) (by omega)
    have hi7 : (0 : Int) ≤ (n7 : Int) := Int.natCast_nonneg _
    have hi10 : (n7 : Int) < (n10 : Int) := by omega
    have hn7c : n7 ≤ c10 := by omega
    have HJ := Lib.hid hj
    have HL7 := Lib.hid hln7
    have HL10 := Lib.hid hln10
    clear hj hln7 hln10 hlt hten hcell he
    go_wp2_with fail
    obtain ⟨q1, -, -, hs1⟩ := HRX.out.read (k := 0) rfl
    obtain ⟨-, -, -, hs2⟩ := HRX.out.read (k := 2) rfl
    refine (eqB (some ⟨g10, 0, none⟩) A7 n7 c10 n7 c7 ((joinJ (l ++ m)).take n7) (joinJ l) wX true (by rw [List.length_take]; have := HL10.out; omega) q1 (decide_eq_true (by rw [HJ.out, q1, List.take_left])) _ _ (hs2.cutTo (by have := HL10.out; omega)) hs1).mono ?_
    clear q1 hs1 hs2 hcell2
    rintro e wE ⟨rfl, hbE⟩
    have HRE := Lib.hid (HRX.out.far hbE)
    clear hbE
    go_wp2_with fail
    obtain ⟨q1, -, -, hs1⟩ := HRE.out.read (k := 1) rfl
    obtain ⟨-, -, -, hs2⟩ := HRE.out.read (k := 2) rfl
    refine (eqB _ A8 (n10 - (n7 + 1)) _ n8 c8 ((joinJ (l ++ m)).drop (n7 + 1)) (joinJ m) wE true (by rw [List.length_drop]; have := HL10.out; omega) q1 (decide_eq_true (by rw [HJ.out, HL7.out, List.drop_append]; simp)) _ _ (hs2.cutFromA (i := n7 + 1) (s := 1) (by have := HL10.out; omega) rfl) hs1).mono ?_
    clear q1 hs1 hs2
    rintro e wF ⟨rfl, hbF⟩
    have HRF := Lib.hid (HRE.out.far hbF)
    clear hbF HRX HRE
    go_wp2_with fail
    have HG0 := Lib.hid (BagB.start wF w.heap.size HRF.out.b.size)
    have HRa := Lib.hid (HRF.out.far ((Below.refl _ _).alloc (Nat.le_refl _) (bagB (.slice none 0 0))))
    refine (addBytes_any w.heap.size _ _ [] _ HG0.out (by simp) _ _ _).mono ?_
    rintro e wb ⟨rfl, v1, hbg1, ho1⟩
    have HRb := Lib.hid (HRa.out.bag HG0.out ho1)
    have HG1 := Lib.hid hbg1
    clear hbg1 ho1
    go_wp2_with fail
    refine (addBytes_any w.heap.size _ _ _ _ HG1.out (by simp) _ _ _).mono ?_
    rintro e wc ⟨rfl, v2, hbg1, ho1⟩
    have HRc := Lib.hid (HRb.out.bag HG1.out ho1)
    have HG2 := Lib.hid hbg1
    clear hbg1 ho1
    go_wp2_with fail
    refine (addBytes_any w.heap.size _ _ _ _ HG2.out (by simp) _ _ _).mono ?_
    rintro e wd ⟨rfl, v3, hbg1, ho1⟩
    have HRd := Lib.hid (HRc.out.bag HG2.out ho1)
    have HG3 := Lib.hid hbg1
    clear hbg1 ho1
    go_wp2_with fail
    obtain ⟨ho, hd⟩ := HRd.out.chosen (fs := [((A7, n7, c7), joinJ l), ((A8, n8, c8), joinJ m), ((some ⟨g10, 0, none⟩, n10, c10), joinJ (l ++ m))]) (.cons_cons _ (.cons_cons _ (.cons_cons _ (.cons _ (.cons _ .slnil)))))
    refine (apart_bytes w.heap.size _ v3 [(A7, n7, c7), (A8, n8, c8), (some ⟨g10, 0, none⟩, n10, c10)] wd HG3.out (by simp) (by simp) ho (by simp; omega) hd).mono ?_
    clear ho hd
    rintro e we ⟨rfl, hbe⟩
    have HBe := Lib.hid (HRd.out.b.trans hbe)
    clear hbe
    go_wp2_with fail
    go_ret
    exact ⟨rfl, HBe.out⟩
  all_goals
    go_wp2_with fail
    have HG0 := Lib.hid (BagB.start wX w.heap.size HRX.out.b.size)
    have HRa := Lib.hid (HRX.out.far ((Below.refl _ _).alloc (Nat.le_refl _) (bagB (.slice none 0 0))))
    refine (addBytes_any w.heap.size _ _ [] _ HG0.out (by simp) _ _ _).mono ?_
    rintro e wb ⟨rfl, v1, hbg1, ho1⟩
    have HRb := Lib.hid (HRa.out.bag HG0.out ho1)
    have HG1 := Lib.hid hbg1
    clear hbg1 ho1
    go_wp2_with fail
    refine (addBytes_any w.heap.size _ _ _ _ HG1.out (by simp) _ _ _).mono ?_
    rintro e wc ⟨rfl, v2, hbg1, ho1⟩
    have HRc := Lib.hid (HRb.out.bag HG1.out ho1)
    have HG2 := Lib.hid hbg1
    clear hbg1 ho1
    go_wp2_with fail
    refine (addBytes_any w.heap.size _ _ _ _ HG2.out (by simp) _ _ _).mono ?_
    rintro e wd ⟨rfl, v3, hbg1, ho1⟩
    have HRd := Lib.hid (HRc.out.bag HG2.out ho1)
    have HG3 := Lib.hid hbg1
    clear hbg1 ho1
    go_wp2_with fail
    obtain ⟨ho, hd⟩ := HRd.out.chosen (fs := [((A7, n7, c7), joinJ l), ((A8, n8, c8), joinJ m), ((A10, n10, c10), joinJ (l ++ m))]) (.cons_cons _ (.cons_cons _ (.cons_cons _ (.cons _ (.cons _ .slnil)))))
    refine (apart_bytes w.heap.size _ v3 [(A7, n7, c7), (A8, n8, c8), (A10, n10, c10)] wd HG3.out (by simp) (by simp) ho (by simp; omega) hd).mono ?_
    clear ho hd
    rintro e we ⟨rfl, hbe⟩
    have HBe := Lib.hid (HRd.out.b.trans hbe)
    clear hbe
    go_wp2_with fail
    go_ret
    exact ⟨rfl, HBe.out⟩
end Go.Proofs.YtmjagjcaepbklaaDoor
