/- The walk of the law FillParses. Condition: room. -/
import Derived.Test.YtebbilkkacbfjaaDoorParses16
namespace Go.Proofs.YtebbilkkacbfjaaDoor
open Go.RowKit

set_option maxHeartbeats 1000000 in
theorem long_yes16 (n : Nat) (w : World) (h : 2147483647 < n) (hb : n ≤ 9223372036854775807) : Calls Tryd.prog 7 #[.int .i64 n] w fun e w' => e = .returned (.bool true) ∧ Below w.heap.size w w' := by
  have h' : decide ((2147483647 : Int) < n) = true := decide_eq_true (by omega)
  go_enter Tryd.func7, Tryd.ntmps7
  go_wp2
  go_ret
  exact ⟨rfl, Below.refl _ _⟩
set_option maxRecDepth 100000 in
set_option maxHeartbeats 2000000 in
theorem fillParses_long (A : Option Addr) (n ca : Nat) (w : World) (hnc : n ≤ ca) (hcm : ca ≤ 9223372036854775807) (h : 2147483647 < n) :
    Calls Tryd.prog 3 #[.slice A n ca] w fun e w' => e = .returned (.bool true) ∧ Below w.heap.size w w' := by
  go_enter Tryd.func3, Tryd.ntmps3
  go_wp2_with fail
  refine (works_any _).mono ?_
  rintro e w1 ⟨rfl, hb1⟩
  have HB1 := Lib.hid hb1
  clear hb1
  go_wp2_with fail
  refine (long_yes16 _ _ h (by omega)).mono ?_
  rintro e w2 ⟨rfl, hb2⟩
  have HB2 := Lib.hid (bfar HB1.out hb2)
  clear hb2 HB1
  go_wp2_with fail
  go_ret
  exact ⟨rfl, HB2.out⟩
theorem PT.form {w : World} {base : Nat} {A : Option Addr} {n c : Nat} {l : List Piece} {ts : List Value} (h : PT w base (.slice A n c) l ts) (x : Ent) (hx : x = (A, n, c)) : ∃ L : List (List Value), Own (Rep.raw 2) 81 w base nob (Ent.v x) L := by
  subst hx; exact h.raw
theorem PT.lts {w : World} {base : Nat} {v : Value} {l : List Piece} {ts : List Value} (h : PT w base v l ts) : (∀ i (hi : i < ts.length) q, (ts[i]).ownBlock = some q → base ≤ q) ∧ ∀ i (hi : i < ts.length) q, (ts[i]).ownBlock = some q → q < w.heap.size :=
  ⟨fun i hi q hq => ((h.2.2.2.1 i (by have := h.1; omega) hi).block_lt hq).1, fun i hi q hq => ((h.2.2.2.1 i (by have := h.1; omega) hi).block_lt hq).2⟩
theorem PT.block {w : World} {base : Nat} {v : Value} {l : List Piece} {ts : List Value} (h : PT w base v l ts) {q : Nat} (hq : v.ownBlock = some q) : base ≤ q ∧ q < w.heap.size := by
  obtain ⟨L, hL⟩ := h.raw
  exact hL.block_lt hq
theorem PT.mark {w w' : World} {base b2 gi n c : Nat} {v : Value} {l : List Piece} {ts : List Value} {m : List Mark} (h : PT w base v l ts) (hm : Own Rep.mark 34 w b2 nob (.slice (some ⟨gi, 0, none⟩) n c) m) (ho : Only (fun b => b = gi) w w') : PT w' base v l ts := by
  obtain ⟨L, hL⟩ := h.raw
  refine h.only ho (fun b hb e => ?_) fun i hi b hb e => ?_
  · subst e
    exact hm.ne_type hL (by decide) rfl hb
  · subst e
    exact hm.ne_type (h.2.2.2.1 i (by have := h.1; omega) hi) (by decide) rfl hb
theorem Below.of_onlyAt {w w' : World} {B gi : Nat} {a : World} (h : Below B a w) (ho : Only (fun b => b = gi) w w') (hB : B ≤ w.heap.size) (hg : B ≤ gi) : Below B a w' := h.trans (ho.below hB fun b hb => by omega)
theorem BagP.below {w w' : World} {base gb : Nat} {v u : Value} {rows prs : List (List Value)} (h : BagP w base gb v u rows prs) (ho : Only (BagF gb v u) w w') : Below base w w' :=
  ho.below (Nat.le_trans h.hb (Nat.le_of_lt (Array.getElem?_eq_some_iff.1 h.blk).1)) fun b hb => by
    rcases hb with rfl | hb | hb
    · exact h.hb
    · exact (h.own.block_lt hb.symm).1
    · exact (h.ownP.block_lt hb.symm).1
theorem eqP (A B : Option Addr) (n m c d : Nat) (l : List Piece) (w : World) (hn : Hid (n = l.length)) (hm : Hid (m = l.length)) (hx : SliceAt Rep.piece w (under w.heap.size) A c l) (hy : SliceAt Rep.piece w (under w.heap.size) B d l) :
    Calls Tryd.prog 13 #[.slice A n c, .slice B m d] w fun e w' => e = .returned (.bool true) ∧ Below w.heap.size w w' := by
  obtain rfl : m = n := hm.out.trans hn.out.symm
  exact eqPieces_true A B m c d l w hn hx hy
set_option maxRecDepth 100000 in
set_option maxHeartbeats 8000000 in
theorem fillParses_short (A : Option Addr) (n ca : Nat) (l : List Mark) (w : World) (hn : Hid (n = l.length)) (hl : Hid (SliceAt Rep.mark w (under w.heap.size) A ca l)) (hb : n ≤ 2147483647) :
    Calls Tryd.prog 3 #[.slice A n ca] w fun e w' => e = .returned (.bool true) ∧ Below w.heap.size w w' := by
  have hnc : n ≤ ca := by rw [hn.out]; exact hl.out.len
  have hcm := hl.out.max
  obtain ⟨P, er, pl, hPl, HPT, hP1, hP2⟩ := parses l (by rw [← hn.out]; exact hb)
  have HP1 := Lib.hid hP1
  have HP2 := Lib.hid hP2
  have HPL := Lib.hid hPl
  have hen : (er != er) = false := by simp
  have hpn : (pl != pl) = false := by simp
  clear hP1 hP2 hPl
  go_enter Tryd.func3, Tryd.ntmps3
  go_wp2_with fail
  refine (works_any _).mono ?_
  rintro e w1 ⟨rfl, hb1⟩
  have HB1 := Lib.hid hb1
  clear hb1
  go_wp2_with fail
  refine (long_no _ _ (by omega)).mono ?_
  rintro e w2 ⟨rfl, hb2⟩
  have HB2 := Lib.hid (bfar HB1.out hb2)
  clear hb2 HB1
  go_wp2_with fail
  refine (wideMarks_any A n ca l w2 _ hn.out (SliceAt.grow hl.out HB2.out) (fun b hb => hb) (by omega)).mono ?_
  rintro e w3 ⟨gi, rfl, ho3, hb3⟩
  have HC3 := Lib.hid (bfar HB2.out hb3)
  have HI0 := Lib.hid ho3
  have HI3 : Hid (Own Rep.mark 34 w3 w2.heap.size nob (.slice (some ⟨gi, 0, none⟩) n (n + 64)) l) := Lib.hid (by
    have := ho3.first (k := n) (by rw [List.length_append, marksK_len, hn.out]) (by omega)
    rwa [show (l ++ marksK n).take n = l by rw [hn.out, List.take_left]] at this)
  have HA : Hid (∀ W, Below w3.heap.size w3 W → SliceAt Rep.mark W (under W.heap.size) A ca l) := Lib.hid fun W hW => SliceAt.grow hl.out (bfar HC3.out hW)
  have HIN : Hid (∀ W, Below w3.heap.size w3 W → SliceAt Rep.mark W (under W.heap.size) (some ⟨gi, 0, none⟩) (n + 64) l) := Lib.hid fun W hW => (HI3.out.far hW).at1.2.2.2
  have HIW : Hid (∀ W, Below w3.heap.size w3 W → SliceAt Rep.mark W (under W.heap.size) (some ⟨gi, 0, none⟩) (n + 64) (l ++ marksK n)) := Lib.hid fun W hW => (HI0.out.far hW).at1.2.2.2
  have HB33 := Lib.hid (Below.refl w3.heap.size w3)
  clear ho3 hb3
  go_wp2_with fail
  refine (HP1.out (some ⟨gi, 0, none⟩) n (n + 64) w3 hn (Lib.hid (HIN.out w3 HB33.out))).mono ?_
  rintro e w4 ⟨A4, n4, c4, rfl, k41, k42, HN4, ⟨ts4, hpt4⟩, HB4⟩
  have HT4 := Lib.hid hpt4
  have HL4 := Lib.hid hpt4.lts
  have HK4 : Hid (∀ q, (Value.slice A4 n4 c4).ownBlock = some q → w3.heap.size ≤ q ∧ q < w4.heap.size) := Lib.hid fun q hq => hpt4.block hq
  have hz4 := HB4.out.size
  clear hpt4
  go_wp2_with fail
  refine (HP1.out (some ⟨gi, 0, none⟩) n (n + 64) w4 hn (Lib.hid (HIN.out w4 HB4.out))).mono ?_
  rintro e w5 ⟨A5, n5, c5, rfl, k51, k52, HN5, ⟨ts5, hpt5⟩, HB5⟩
  have HT5 := Lib.hid hpt5
  have HL5 := Lib.hid hpt5.lts
  have HK5 : Hid (∀ q, (Value.slice A5 n5 c5).ownBlock = some q → w4.heap.size ≤ q ∧ q < w5.heap.size) := Lib.hid fun q hq => hpt5.block hq
  have hz5 := HB5.out.size
  have HC5 := Lib.hid (bfar HB4.out HB5.out)
  clear hpt5
  go_wp2_with fail
  refine (HP2.out A n ca w5 hn (Lib.hid (HA.out w5 HC5.out))).mono ?_
  rintro e w6 ⟨A6, n6, c6, rfl, k61, k62, HN6, ⟨ts6, hpt6⟩, HB6⟩
  have HT6 := Lib.hid hpt6
  have HC6 := Lib.hid (bfar HC5.out HB6.out)
  have HQ4 := Lib.hid ((HT4.out.far HB5.out).far HB6.out)
  have HQ5 := Lib.hid (HT5.out.far HB6.out)
  clear hpt6
  go_wp2_with fail
  refine (eqMarks16 (some ⟨gi, 0, none⟩) A n n (n + 64) ca l w6 _ _ hn hn (Lib.hid (HIN.out w6 HC6.out)) (Lib.hid (HA.out w6 HC6.out))).mono ?_
  rintro e w7 ⟨rfl, q7, rfl⟩
  have HE7 := Lib.hid (drew_below w6 q7)
  generalize hW : w6.drewN q7 = w7 at HE7 ⊢
  clear hW
  go_wp2_with fail
  refine (spareMarks_any gi n l w7 _ hn.out (HIW.out w7 (bfar HC6.out HE7.out)) (by omega)).mono ?_
  rintro e w8 ⟨rfl, q8, rfl⟩
  have HE8 := Lib.hid (bfar HE7.out (drew_below w7 q8))
  generalize hW : w7.drewN q8 = w8 at HE8 ⊢
  clear hW HE7
  go_wp2_with fail
  refine (eqP A4 A6 n4 n6 c4 c6 P w8 HN4 HN6 (HQ4.out.far HE8.out).read (HT6.out.far HE8.out).read).mono ?_
  rintro e w9 ⟨rfl, hb9⟩
  have HE9 := Lib.hid (bfar HE8.out hb9)
  clear hb9 HE8
  go_wp2_with fail
  refine (eqP A5 A6 n5 n6 c5 c6 P w9 HN5 HN6 (HQ5.out.far HE9.out).read (HT6.out.far HE9.out).read).mono ?_
  rintro e w10 ⟨rfl, hb10⟩
  have HE10 := Lib.hid (bfar HE9.out hb10)
  clear hb10 HE9
  have HQ4b := Lib.hid (HQ4.out.far HE10.out)
  have HQ5b := Lib.hid (HQ5.out.far HE10.out)
  have HQ6b := Lib.hid (HT6.out.far HE10.out)
  have HI10 := Lib.hid (HI3.out.far (bfar HC6.out HE10.out))
  have HB10 := Lib.hid (bfar HC3.out (bfar HC6.out HE10.out))
  have hz10 : w5.heap.size ≤ w10.heap.size := Nat.le_trans HB6.out.size HE10.out.size
  clear HQ4 HQ5 HA HIN HIW HI0 HE10 HC6 HC5 HI3
  have hgi : w.heap.size ≤ gi := by
    have h1 : w2.heap.size ≤ gi := (HI10.out.block_lt (b := gi) rfl).1
    have h2 : w.heap.size ≤ w2.heap.size := HB2.out.size
    exact Nat.le_trans h2 h1
  go_wp2_with fail
  go_loopg [15] n (fun k iv wr => ∃ (i : Nat) (l' : List Mark), i ≤ n ∧ iv = .int .i64 i ∧ k = n - i ∧ Hid (n = l'.length) ∧ Hid (Own Rep.mark 34 wr w2.heap.size nob (.slice (some ⟨gi, 0, none⟩) n (n + 64)) l') ∧ Hid (Only (fun b => b = gi) w10 wr))
  case atStart => exact ⟨0, l, Nat.zero_le _, rfl, rfl, hn, HI10, Lib.hid (Only.refl _ _)⟩
  case round =>
    obtain ⟨i, l', hi, rfl, rfl, hn', HI, HO⟩ := hrel
    rcases Nat.lt_or_ge i n with hlt | hge
    · have hil : i < l'.length := by rw [← hn'.out]; exact hlt
      obtain ⟨g', o', he, k0, k1⟩ := mark_at HI.out.readF (Same.refl _ _) hil
      simp only [Option.some.injEq, Addr.mk.injEq] at he
      obtain ⟨rfl, rfl, -⟩ := he
      simp only [Nat.zero_add] at k0 k1
      have hfr := HI.out.free (i * 2)
      obtain ⟨z, hz⟩ : ∃ z, z = l'[i].byte := ⟨_, rfl⟩
      rw [← hz] at k0
      clear hz k1
      go_wp2_with fail
      obtain ⟨y, hy⟩ := u8_bits .xor z.toNat 4
      go_roundg (n - (i + 1))
      case measure => omega
      case rel =>
        refine ⟨i + 1, l'.set i ⟨y, l'[i].plain⟩, by omega, by go_num, rfl, Lib.hid (by rw [List.length_set]; exact hn'.out), Lib.hid ?_, Lib.hid (HO.out.setCell (.inl rfl) _)⟩
        rw [hy]
        exact HI.out.setByte hil y
    · obtain rfl : i = n := by omega
      clear hge
      have HQ4c := Lib.hid (HQ4b.out.mark HI10.out HO.out)
      have HQ5c := Lib.hid (HQ5b.out.mark HI10.out HO.out)
      have HQ6c := Lib.hid (HQ6b.out.mark HI10.out HO.out)
      have hz11 := HO.out.size
      have HB11 := Lib.hid (Below.of_onlyAt HB10.out HO.out HB10.out.size hgi)
      obtain ⟨P', er', pl', hPl', HPT', hP1', hP2'⟩ := parses l' (by rw [← hn'.out]; exact hb)
      have HP1' := Lib.hid hP1'
      have HP2' := Lib.hid hP2'
      have hen' : (er' == er') = true := by simp
      obtain ⟨w11, rfl⟩ : ∃ W : World, W = wr := ⟨_, rfl⟩
      clear HQ4b HQ5b HQ6b HB10 HI10 HO hP1' hP2' HT4 HT5 HT6 HB4 HB5 HB6
      go_wp2_with fail
      refine (eqP A4 A6 n4 n6 c4 c6 P w11 HN4 HN6 HQ4c.out.read HQ6c.out.read).mono ?_
      rintro e w12 ⟨rfl, hb12⟩
      have HB12 := Lib.hid hb12
      have HI12 := Lib.hid (HI.out.far hb12)
      clear hb12 HI
      go_wp2_with fail
      refine (copyMarks_any (some ⟨gi, 0, none⟩) i (i + 64) l' w12 _ hn' (Lib.hid HI12.out.at1.2.2.2) hb).mono ?_
      rintro e w13 ⟨A13, n13, c13, rfl, k131, k132, HN13, HO13, HB13⟩
      have HB13' := Lib.hid (bfar HB12.out HB13.out)
      have HI13 := Lib.hid (HI12.out.far HB13.out)
      clear HI12 HB12 HB13
      go_wp2_with fail
      refine (HP1'.out (some ⟨gi, 0, none⟩) i (i + 64) w13 hn' (Lib.hid HI13.out.at1.2.2.2)).mono ?_
      rintro e w14 ⟨A14, n14, c14, rfl, k141, k142, HN14, ⟨ts14, hpt14⟩, HB14⟩
      have HT14 := Lib.hid hpt14
      have HL14 := Lib.hid hpt14.lts
      have HK14 : Hid (∀ q, (Value.slice A14 n14 c14).ownBlock = some q → w13.heap.size ≤ q ∧ q < w14.heap.size) := Lib.hid fun q hq => hpt14.block hq
      have hz13 : w5.heap.size ≤ w13.heap.size := by have := HB13'.out.size; omega
      clear hpt14
      go_wp2_with fail
      refine (HP2'.out A13 n13 c13 w14 HN13 (Lib.hid (HO13.out.far HB14.out).at1.2.2.2)).mono ?_
      rintro e w15 ⟨A15, n15, c15, rfl, k151, k152, HN15, ⟨ts15, hpt15⟩, HB15⟩
      have HT15 := Lib.hid hpt15
      clear hpt15
      have HE15 := Lib.hid (bfar HB13'.out (bfar HB14.out HB15.out))
      have HR4 := Lib.hid (HQ4c.out.far HE15.out)
      have HR5 := Lib.hid (HQ5c.out.far HE15.out)
      have HR14 := Lib.hid (HT14.out.far HB15.out)
      have HF15 := Lib.hid (bfar HB11.out HE15.out)
      have hz3 := HC3.out.size
      have hz15 : w3.heap.size ≤ w15.heap.size := by have := HE15.out.size; omega
      have HPL' := Lib.hid hPl'
      go_wp2_with fail
      have HG0 := Lib.hid (BagP.start w15 w3.heap.size hz15)
      have HX0 := Lib.hid (TX.nil (w15.alloc (bagP (.slice none 0 0) (.slice none 0 0))) w3.heap.size w3.heap.size)
      have hal : Below w15.heap.size w15 (w15.alloc (bagP (.slice none 0 0) (.slice none 0 0))) := (Below.refl _ _).alloc (Nat.le_refl _) _
      have HS4 := Lib.hid (HR4.out.far hal)
      have HS5 := Lib.hid ((HR5.out.far hal).low (base' := w3.heap.size) hz4)
      have HS14 := Lib.hid ((HR14.out.far hal).low (base' := w3.heap.size) (by omega))
      have HS15 := Lib.hid (HT15.out.far hal)
      have HF16 := Lib.hid (bfar HF15.out hal)
      clear hal HR4 HR5 HR14 HF15 HT15
      refine (addPieces_any w3.heap.size _ w3.heap.size _ _ [] [] _ A4 n4 c4 P ts4 HG0 HX0 (by simp) HS4 HN4 k41 k42 (Lib.hid HL4.out.1) HPT).mono ?_
      rintro e w17 ⟨rfl, hap⟩
      obtain ⟨v1, u1, es1, hbg, htx, hon⟩ := hap.tx HX0.out hz4 HL4.out.2
      have HG1 := Lib.hid hbg
      have HX1 := Lib.hid htx
      have HU4 := Lib.hid (HS4.out.bag HG0.out hon)
      have HU5 := Lib.hid (HS5.out.bag HG0.out hon)
      have HU14 := Lib.hid (HS14.out.bag HG0.out hon)
      have HU15 := Lib.hid (HS15.out.bag HG0.out hon)
      have HF17 := Lib.hid (HF16.out.trans ((HG0.out.below hon).mono hz3))
      clear hap hbg htx hon HS4 HS5 HS14 HS15 HF16 HG0 HX0
      go_wp2_with fail
      refine (addPieces_any w3.heap.size _ w4.heap.size _ _ es1 _ _ A5 n5 c5 P ts5 HG1 HX1 (by simp) HU5 HN5 k51 k52 (Lib.hid HL5.out.1) HPT).mono ?_
      rintro e w18 ⟨rfl, hap⟩
      obtain ⟨v2, u2, es2, hbg, htx, hon⟩ := hap.tx HX1.out hz5 HL5.out.2
      have HG2 := Lib.hid hbg
      have HX2 := Lib.hid (htx.up (B' := w13.heap.size) hz13)
      have HV4 := Lib.hid (HU4.out.bag HG1.out hon)
      have HV5 := Lib.hid (HU5.out.bag HG1.out hon)
      have HV14 := Lib.hid (HU14.out.bag HG1.out hon)
      have HV15 := Lib.hid (HU15.out.bag HG1.out hon)
      have HF18 := Lib.hid (HF17.out.trans ((HG1.out.below hon).mono hz3))
      clear hap hbg htx hon HU4 HU5 HU14 HU15 HF17 HG1 HX1
      go_wp2_with fail
      refine (eqP A14 A15 n14 n15 c14 c15 P' w18 HN14 HN15 HV14.out.read HV15.out.read).mono ?_
      rintro e w19 ⟨rfl, hb19⟩
      have HW4 := Lib.hid (HV4.out.far hb19)
      have HW5 := Lib.hid (HV5.out.far hb19)
      have HW14 := Lib.hid (HV14.out.far hb19)
      have HG3 := Lib.hid (HG2.out.far hb19)
      have HX3 := Lib.hid (HX2.out.far hb19)
      have HF19 := Lib.hid (bfar HF18.out hb19)
      clear hb19 HV4 HV5 HV14 HV15 HG2 HX2 HF18
      go_wp2_with fail
      refine (addPieces_any w3.heap.size _ w13.heap.size _ _ es2 _ _ A14 n14 c14 P' ts14 HG3 HX3 (by simp) HW14 HN14 k141 k142 (Lib.hid HL14.out.1) HPT').mono ?_
      rintro e w20 ⟨rfl, hap⟩
      obtain ⟨v3, u3, es3, hbg, htx, hon⟩ := hap.tx (B1 := w14.heap.size) HX3.out HB14.out.size HL14.out.2
      have HG4 := Lib.hid hbg
      have HX4 := Lib.hid htx
      have HY4 := Lib.hid (HW4.out.bag HG3.out hon).raw
      have HY5 := Lib.hid (HW5.out.bag HG3.out hon).raw
      have HY14 := Lib.hid (HW14.out.bag HG3.out hon).raw
      have HF20 := Lib.hid (HF19.out.trans ((HG3.out.below hon).mono hz3))
      clear hap hbg htx hon HW4 HW5 HW14 HF19 HG3 HX3
      go_wp2_with fail
      refine (apart_P w3.heap.size _ w14.heap.size v3 u3 es3 [(A4, n4, c4), (A5, n5, c5), (A14, n14, c14)] w20 HG4.out HX4.out (by have := HX4.out.num; omega) (by simp) (by simp) ?_ ?_ ?_).mono ?_
      · simp only [List.mem_cons, List.not_mem_nil, or_false]
        rintro x (rfl | rfl | rfl)
        · exact HY4.out
        · exact HY5.out
        · exact HY14.out
      · simp only [List.mem_cons, List.not_mem_nil, or_false]
        have hPl2 := HPL'.out
        have hnp := HN4.out
        have hnq := HN5.out
        have hnr := HN14.out
        have hPL := HPL.out
        rintro x (rfl | rfl | rfl) <;> simp only <;> omega
      · have h4 := HK4.out
        have h5 := HK5.out
        have h14 := HK14.out
        refine List.pairwise_cons.2 ⟨fun y hy q hq hq' => ?_, List.pairwise_cons.2 ⟨fun y hy q hq hq' => ?_, List.pairwise_singleton _ _⟩⟩
        · have h1 := h4 q hq
          simp only [List.mem_cons, List.not_mem_nil, or_false] at hy
          rcases hy with rfl | rfl
          · have := h5 q hq'; omega
          · have := h14 q hq'; omega
        · have h1 := h5 q hq
          simp only [List.mem_cons, List.not_mem_nil, or_false] at hy
          subst hy
          have := h14 q hq'
          omega
      rintro e w21 ⟨rfl, hb21⟩
      have HF21 := Lib.hid (HF20.out.trans (hb21.mono hz3))
      clear hb21
      go_wp2_with fail
      go_ret
      exact ⟨rfl, HF21.out⟩
theorem fillParses_any (A : Option Addr) (n ca : Nat) (l : List Mark) (w : World) (hn : Hid (n = l.length)) (hl : Hid (SliceAt Rep.mark w (under w.heap.size) A ca l)) :
    Calls Tryd.prog 3 #[.slice A n ca] w fun e w' => e = .returned (.bool true) ∧ Below w.heap.size w w' := by
  rcases Nat.lt_or_ge 2147483647 n with h | h
  · exact fillParses_long A n ca w (by rw [hn.out]; exact hl.out.len) hl.out.max h
  · exact fillParses_short A n ca l w hn hl h
end Go.Proofs.YtebbilkkacbfjaaDoor
