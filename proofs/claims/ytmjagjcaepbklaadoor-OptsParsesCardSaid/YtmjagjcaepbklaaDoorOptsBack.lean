/- The walk of the law OptsBack. Conditions: no text, no row of more than 2^47 (the reach); the tables of UTF-8. -/
import Derived.Test.YtmjagjcaepbklaaDoorProg
import Derived.Test.YtmjagjcaepbklaaDoorOptsWorks
import Derived.Test.YtmjagjcaepbklaaDoorEqOptions
namespace Go.Proofs.YtmjagjcaepbklaaDoor
open Go.RowKit

theorem eqO (f : Opts.Fl) (ps : List Opts.Prt) (fs : List ByteArray) (A B C D : Option Addr) (n n' m m' ca cb cc cd : Nat) (w : World) (S1 S2 S3 S4 : Blocks) (hn : n = ps.length) (hn' : n' = ps.length) (hm : m = fs.length) (hm' : m' = fs.length)
    (h1 : SliceAt Rep.prt w S1 A ca ps) (h2 : SliceAt Rep.prt w S2 B cb ps) (h3 : SliceAt Rep.str w S3 C cc fs) (h4 : SliceAt Rep.str w S4 D cd fs) (s1 : ∀ b, S1 b → b < w.heap.size) (s2 : ∀ b, S2 b → b < w.heap.size) (s3 : ∀ b, S3 b → b < w.heap.size) (s4 : ∀ b, S4 b → b < w.heap.size) :
    Calls Tryd.prog 11 #[.agg #[.bool f.q, .bool f.e, .bool f.a, .bool f.i, .slice A n ca, .slice C m cc], .agg #[.bool f.q, .bool f.e, .bool f.a, .bool f.i, .slice B n' cb, .slice D m' cd]] w fun e w' => e = .returned (.bool true) ∧ Below w.heap.size w w' := by
  obtain rfl : n' = n := by omega
  obtain rfl : m' = m := by omega
  exact eqOptions_yes f ps fs A B C D n' m' ca cb cc cd w S1 S2 S3 S4 (Lib.hid hn) (Lib.hid hm) (Lib.hid h1) (Lib.hid h2) (Lib.hid h3) (Lib.hid h4) (Lib.hid s1) (Lib.hid s2) (Lib.hid s3) (Lib.hid s4)
theorem Own.atB {α : Type} {r : Rep α} {e : TypeId} {w w' : World} {B : Nat} {v : Value} {l : List α} (h : Own r e w B nob v l) (hb : Below w.heap.size w w') : ∃ A n c, v = .slice A n c ∧ n = l.length ∧ n ≤ c ∧ c ≤ 9223372036854775807 ∧ SliceAt r w' (under w.heap.size) A c l := by
  obtain ⟨A, c, e1, hs⟩ := h.slice
  have hS : ∀ b, ((B ≤ b ∧ b < w.heap.size ∧ some b = v.ownBlock) ∨ nob b) → b < w.heap.size := fun b hb => by
    rcases hb with h | h
    · exact h.2.1
    · exact h.elim
  exact ⟨A, _, c, e1, rfl, hs.len, hs.max, hs.keep hS (Same.of_below hb hS)⟩
set_option maxRecDepth 100000 in
set_option maxHeartbeats 8000000 in
theorem optsBack_any (q e a i : Bool) (l : List ByteArray) (ps : List Opts.Prt) (fs : List ByteArray) (A P F : Option Addr) (n c pn pc fn fc : Nat) (w : World) (hn : Hid (n = l.length)) (hl : Hid (SliceAt Rep.str w (under w.heap.size) A c l))
    (hpn : Hid (pn = ps.length)) (hps : Hid (SliceAt Rep.prt w (under w.heap.size) P pc ps)) (hfn : Hid (fn = fs.length)) (hfs : Hid (SliceAt Rep.str w (under w.heap.size) F fc fs)) (hT : Hid (Lib.Utf8Tabs 0 1 w)) (hsm : Hid (∀ x ∈ l, x.size ≤ 140737488351232)) (hpb : pn ≤ 140737488351232) (hfb : fn ≤ 140737488351232) :
    Calls Tryd.prog 3 #[.slice A n c, .agg #[.bool q, .bool e, .bool a, .bool i, .slice P pn pc, .slice F fn fc]] w fun e' w' => e' = .returned (.bool true) ∧ Below w.heap.size w w' := by
  have hpc := hps.out.len
  have hpm := hps.out.max
  have hfc := hfs.out.len
  have hfm := hfs.out.max
  have hnc := hl.out.len
  have hcm := hl.out.max
  rw [← hpn.out] at hpc
  rw [← hfn.out] at hfc
  rw [← hn.out] at hnc
  obtain ⟨W0, hW0⟩ : ∃ W0, W0 = w.alloc (.cells #[.bool q, .bool e, .bool a, .bool i, .slice P pn pc, .slice F fn fc] 25) := ⟨_, rfl⟩
  have hobj : W0.heap[w.heap.size]? = some (.cells #[.bool q, .bool e, .bool a, .bool i, .slice P pn pc, .slice F fn fc] 25) := by rw [hW0]; exact heap_alloc_new _ _
  have hb0 : Below w.heap.size w W0 := by rw [hW0]; exact (Below.refl _ _).alloc (Nat.le_refl _) _
  have hs0 : W0.heap.size = w.heap.size + 1 := by rw [hW0]; simp
  have HB0 := Lib.hid hb0
  have HC : Hid (∀ W, Below W0.heap.size W0 W → W.cell? ⟨w.heap.size, 0, none⟩ = some (.bool q) ∧ W.cell? ⟨w.heap.size, 1, none⟩ = some (.bool e) ∧ W.cell? ⟨w.heap.size, 2, none⟩ = some (.bool a) ∧ W.cell? ⟨w.heap.size, 3, none⟩ = some (.bool i) ∧ W.cell? ⟨w.heap.size, 4, none⟩ = some (.slice P pn pc) ∧ W.cell? ⟨w.heap.size, 5, none⟩ = some (.slice F fn fc)) := Lib.hid fun W hW => by
    have hblk := (hW.block w.heap.size (by omega)).trans hobj
    exact ⟨cell_of_row W _ 0 _ _ (0, 0) hblk, cell_of_row W _ 1 _ _ (0, 0) hblk, cell_of_row W _ 2 _ _ (0, 0) hblk, cell_of_row W _ 3 _ _ (0, 0) hblk, cell_of_row W _ 4 _ _ (0, 0) hblk, cell_of_row W _ 5 _ _ (0, 0) hblk⟩
  have HIN : Hid (∀ W, Below W0.heap.size W0 W → SliceAt Rep.str W (under W.heap.size) A c l ∧ SliceAt Rep.prt W (under W.heap.size) P pc ps ∧ SliceAt Rep.str W (under W.heap.size) F fc fs ∧ Lib.Utf8Tabs 0 1 W ∧ w.heap.size < W.heap.size) := Lib.hid fun W hW => by
    have hbW := hb0.trans (hW.mono (by omega))
    have hlt : w.heap.size < W.heap.size := by have := hW.size; omega
    exact ⟨hl.out.keep (fun b hb => Nat.lt_trans hb hlt) (Same.of_below hbW fun _ h => h), hps.out.keep (fun b hb => Nat.lt_trans hb hlt) (Same.of_below hbW fun _ h => h), hfs.out.keep (fun b hb => Nat.lt_trans hb hlt) (Same.of_below hbW fun _ h => h), Utf8Tabs_below hT.out hbW, hlt⟩
  have HWK := Lib.hid (worksO_any W0 (Lib.hid (HIN.out W0 (Below.refl _ _)).2.2.2.1))
  rw [hW0] at HWK
  have HW0 := Lib.hid hW0
  clear hW0 hobj hb0
  go_enter Tryd.func3, Tryd.ntmps3
  go_wp2_with fail
  refine HWK.out.mono ?_
  clear HWK
  rintro e1 w1 ⟨rfl, hb1'⟩
  rw [← HW0.out] at hb1'
  have HB1 := Lib.hid hb1'
  clear hb1'
  obtain ⟨-, -, -, -, k4, k5⟩ := HC.out w1 HB1.out
  go_wp2_with fail
  refine (long_any A n c l w1 _ hn (Lib.hid (HIN.out w1 HB1.out).1) hsm).mono ?_
  rintro e1 w1' ⟨⟨b, rfl, hbn⟩, rfl⟩
  cases b
  case true =>
    go_wp2_with fail
    go_ret
    exact ⟨rfl, HB0.out.trans (HB1.out.mono (by omega))⟩
  case false =>
    have hb1 := hbn rfl
    clear hbn
    by_cases hb2 : pn + fn ≤ 1048576
    · have hd : decide ((1048576 : Int) < (pn : Int) + fn) = false := decide_eq_false (by omega)
      go_wp2_with fail
      refine (parse_any A n c l w1 hn (Lib.hid (HIN.out w1 HB1.out).1) (Lib.hid (HIN.out w1 HB1.out).2.2.2.1) (by omega)).mono ?_
      clear k4 k5
      rintro e1 w2 ⟨hp, hb2'⟩
      have hok := Opts.parse_ok l
      have hfit := Opts.parse_fits l
      have HB2 := Lib.hid (HB1.out.trans (hb2'.mono HB1.out.size))
      have HB2' := Lib.hid hb2'
      clear hb2'
      cases hres : Opts.parse l with
      | fault k s =>
        rw [hres] at hp hok
        simp only [OParsed, oCells, none_] at hp
        subst hp
        have HOK : Hid ((k = 90 ∧ 0 < s.size ∧ ∀ c ∈ [(110 : UInt8), 69, 115, 105, 101, 102], s ≠ ⟨#[c]⟩) ∨ (k = 91 ∧ (s = ⟨#[]⟩ ∨ s = ⟨#[101]⟩ ∨ s = ⟨#[102]⟩))) := Lib.hid hok
        have hk0 : ((k : Int) != 0) = true := by rw [bne_iff_ne]; rcases HOK.out with ⟨rfl, -⟩ | ⟨rfl, -⟩ <;> decide
        clear hok hres hfit
        have HEQ : Hid (∀ W, Calls Tryd.prog 11 #[.agg #[.bool false, .bool false, .bool false, .bool false, .slice none 0 0, .slice none 0 0], .agg #[.bool false, .bool false, .bool false, .bool false, .slice none 0 0, .slice none 0 0]] W fun e w' => e = .returned (.bool true) ∧ Below W.heap.size W w') := Lib.hid fun W => eqO none_ [] [] none none none none 0 0 0 0 0 0 0 0 W nob nob nob nob rfl rfl rfl rfl (SliceAt.nil _ _ _) (SliceAt.nil _ _ _) (SliceAt.nil _ _ _) (SliceAt.nil _ _ _) (fun _ h => h.elim) (fun _ h => h.elim) (fun _ h => h.elim) (fun _ h => h.elim)
        go_upto_region 6 with fail
        go_cut [97] from 6 (fun v wc => v = .bool false ∧ Hid (Below W0.heap.size W0 wc))
        case first =>
          rcases HOK.out with ⟨rfl, hs1, hs2⟩ | ⟨rfl, hs1⟩
          · have e0 : (s.toList == []) = false := Opts.str_no (by rintro rfl; exact absurd hs1 (by decide))
            have e1 : (s.toList == [110]) = false := Opts.str_no (hs2 110 (by decide))
            have e2 : (s.toList == [69]) = false := Opts.str_no (hs2 69 (by decide))
            have e3 : (s.toList == [115]) = false := Opts.str_no (hs2 115 (by decide))
            have e4 : (s.toList == [105]) = false := Opts.str_no (hs2 105 (by decide))
            have e5 : (s.toList == [101]) = false := Opts.str_no (hs2 101 (by decide))
            have e6 : (s.toList == [102]) = false := Opts.str_no (hs2 102 (by decide))
            clear hs1 hs2 HOK hk0
            go_wp2_with fail
            refine (HEQ.out _).mono ?_
            rintro e3 w3 ⟨rfl, hb3⟩
            have HB3 := Lib.hid (HB2.out.trans (((Below.refl w2.heap.size w2).alloc (Nat.le_refl _) (.cells #[.bool false, .bool false, .bool false, .bool false, .slice none 0 0, .slice none 0 0] 25)).trans (hb3.mono (by simp)) |>.mono HB2.out.size))
            clear hb3
            go_wp2_with fail
            go_meet
            case rel => exact ⟨rfl, HB3⟩
          · rcases hs1 with rfl | rfl | rfl
            · go_wp2_with fail
              refine (HEQ.out _).mono ?_
              rintro e3 w3 ⟨rfl, hb3⟩
              have HB3 := Lib.hid (HB2.out.trans (((Below.refl w2.heap.size w2).alloc (Nat.le_refl _) (.cells #[.bool false, .bool false, .bool false, .bool false, .slice none 0 0, .slice none 0 0] 25)).trans (hb3.mono (by simp)) |>.mono HB2.out.size))
              clear hb3
              go_wp2_with fail
              go_meet
              case rel => exact ⟨rfl, HB3⟩
            · go_wp2_with fail
              refine (HEQ.out _).mono ?_
              rintro e3 w3 ⟨rfl, hb3⟩
              have HB3 := Lib.hid (HB2.out.trans (((Below.refl w2.heap.size w2).alloc (Nat.le_refl _) (.cells #[.bool false, .bool false, .bool false, .bool false, .slice none 0 0, .slice none 0 0] 25)).trans (hb3.mono (by simp)) |>.mono HB2.out.size))
              clear hb3
              go_wp2_with fail
              go_meet
              case rel => exact ⟨rfl, HB3⟩
            · go_wp2_with fail
              refine (HEQ.out _).mono ?_
              rintro e3 w3 ⟨rfl, hb3⟩
              have HB3 := Lib.hid (HB2.out.trans (((Below.refl w2.heap.size w2).alloc (Nat.le_refl _) (.cells #[.bool false, .bool false, .bool false, .bool false, .slice none 0 0, .slice none 0 0] 25)).trans (hb3.mono (by simp)) |>.mono HB2.out.size))
              clear hb3
              go_wp2_with fail
              go_meet
              case rel => exact ⟨rfl, HB3⟩
        case rest =>
          obtain ⟨rfl, HBc⟩ := hcut
          obtain ⟨k0, k1, k2, k3, k4, k5⟩ := HC.out wc HBc.out
          obtain ⟨i1, i2, i3, i4, i5⟩ := HIN.out wc HBc.out
          have HP4 := Lib.hid (print_any q e a i ps fs P F pn fn pc fc wc hpn hfn (Lib.hid i2) (Lib.hid i3) (by omega) (by omega))
          clear i1 i2 i3 i4
          go_wp2_with fail
          refine HP4.out.mono ?_
          clear HP4
          rintro e4 w4 ⟨v4, rfl, ho4, hb4⟩
          have HB4 := Lib.hid (HBc.out.trans (hb4.mono HBc.out.size))
          obtain ⟨A4, n4, c4, rfl, hn4, hnc4, hcm4, hs4⟩ := ho4.atB (Below.refl _ _)
          have hlen := Opts.print_len ⟨⟨q, e, a, i⟩, ps, fs⟩
          have hnil := Opts.print_nil ⟨⟨q, e, a, i⟩, ps, fs⟩
          rw [← hn4] at hlen hnil
          simp only [← hpn.out, ← hfn.out] at hlen
          have HN4 := Lib.hid hn4
          have HS4 := Lib.hid hs4
          have HNIL := Lib.hid hnil
          clear ho4 hb4 hn4 hs4 hnil k0 k1 k2 k3 k4 k5 i5
          obtain ⟨k0, k1, k2, k3, k4, k5⟩ := HC.out w4 HB4.out
          by_cases h4 : n4 = 0
          · have hbad := HNIL.out.1 h4
            subst h4
            by_cases hp0 : pn = 0
            · subst hp0
              clear hbad
              go_wp2_with fail
              go_ret
              exact ⟨rfl, HB0.out.trans (HB4.out.mono (by omega))⟩
            · have hdp : ((pn : Int) == 0) = false := by rw [beq_eq_false_iff_ne]; omega
              have hia : i = true ∧ a = false := by
                have hpl := hpn.out
                cases ps with
                | nil => exact absurd hpl hp0
                | cons x r =>
                  have h' : (i && !a) = true := hbad
                  simpa using h'
              obtain ⟨rfl, rfl⟩ := hia
              clear hbad hp0
              go_wp2_with fail
              go_ret
              exact ⟨rfl, HB0.out.trans (HB4.out.mono (by omega))⟩
          · have hbad : Opts.bad ⟨⟨q, e, a, i⟩, ps, fs⟩ = false := by
              cases hbb : Opts.bad ⟨⟨q, e, a, i⟩, ps, fs⟩ with
              | false => rfl
              | true => exact absurd (HNIL.out.2 hbb) h4
            have hd4 : ((n4 : Int) == 0) = false := by rw [beq_eq_false_iff_ne]; omega
            obtain ⟨i1, i2, i3, i4, i5⟩ := HIN.out w4 HB4.out
            have HP5 := Lib.hid (parse_any A4 n4 c4 (Opts.print ⟨⟨q, e, a, i⟩, ps, fs⟩) w4 HN4 HS4 (Lib.hid i4) (by omega))
            rw [Opts.parse_print _ hbad] at HP5
            clear i1 i2 i3 i4 hbad
            go_wp2_with fail
            refine HP5.out.mono ?_
            clear HP5
            rintro e5 w5 ⟨⟨v5, u5, he5, ho5, hu5, -⟩, hb5⟩
            simp only [oCells] at he5
            subst he5
            have HB5 := Lib.hid (HB4.out.trans (hb5.mono HB4.out.size))
            clear hb5 k0 k1 k2 k3 k4 k5 i5
            obtain ⟨A5, n5, c5, rfl, hn5, hnc5, hcm5, hs5⟩ := ho5.atB (Below.refl _ _)
            obtain ⟨B5, m5, d5, rfl, hm5, hmd5, hdm5, ht5⟩ := hu5.atB (Below.refl _ _)
            obtain ⟨k0, k1, k2, k3, k4, k5⟩ := HC.out w5 HB5.out
            obtain ⟨i1, i2, i3, i4, i5⟩ := HIN.out w5 HB5.out
            have hal := fun (o : Obj) => (Below.refl w5.heap.size w5).alloc (Nat.le_refl _) o
            have HEQ2 : Hid (∀ o : Obj, Calls Tryd.prog 11 #[.agg #[.bool q, .bool e, .bool a, .bool i, .slice A5 n5 c5, .slice B5 m5 d5], .agg #[.bool q, .bool e, .bool a, .bool i, .slice P pn pc, .slice F fn fc]] (w5.alloc o) fun e w' => e = .returned (.bool true) ∧ Below (w5.alloc o).heap.size (w5.alloc o) w') := Lib.hid fun o =>
              eqO ⟨q, e, a, i⟩ ps fs A5 P B5 F n5 pn m5 fn c5 pc d5 fc (w5.alloc o) (under w5.heap.size) (under w5.heap.size) (under w5.heap.size) (under w5.heap.size) hn5 hpn.out hm5 hfn.out
                (hs5.keep (fun _ h => h) (Same.of_below (hal o) fun _ h => h)) (i2.keep (fun _ h => h) (Same.of_below (hal o) fun _ h => h)) (ht5.keep (fun _ h => h) (Same.of_below (hal o) fun _ h => h)) (i3.keep (fun _ h => h) (Same.of_below (hal o) fun _ h => h))
                (fun b h => Nat.lt_of_lt_of_le h (hal o).size) (fun b h => Nat.lt_of_lt_of_le h (hal o).size) (fun b h => Nat.lt_of_lt_of_le h (hal o).size) (fun b h => Nat.lt_of_lt_of_le h (hal o).size)
            have HAL := Lib.hid hal
            clear ho5 hu5 hn5 hm5 hs5 ht5 i1 i2 i3 i4 hal
            go_wp2_with fail
            refine (HEQ2.out _).mono ?_
            rintro e6 w6 ⟨rfl, hb6⟩
            have HB6 := Lib.hid (HB5.out.trans (((HAL.out _).trans (hb6.mono (by simp))).mono HB5.out.size))
            clear hb6
            go_wp2_with fail
            go_ret
            exact ⟨rfl, HB0.out.trans (HB6.out.mono (by omega))⟩
      | good m =>
        rw [hres] at hp hok hfit
        obtain ⟨⟨q', e', a', i'⟩, ps', fs'⟩ := m
        obtain ⟨v, u, he, ho1, ho2, -⟩ := hp
        simp only [oCells] at he
        subst he
        have hfit' : ps'.length + fs'.length ≤ l.length := hfit
        have hbad' : Opts.bad ⟨⟨q', e', a', i'⟩, ps', fs'⟩ = false := hok
        obtain ⟨A1, n1, c1, rfl, hn1, hnc1, hcm1, hs1⟩ := ho1.atB (Below.refl _ _)
        obtain ⟨B1, m1, d1, rfl, hm1, hmd1, hdm1, ht1⟩ := ho2.atB (Below.refl _ _)
        rw [← hn1, ← hm1, ← hn.out] at hfit'
        obtain ⟨W2, hW2⟩ : ∃ W2, W2 = w2.alloc (.cells #[.bool q', .bool e', .bool a', .bool i', .slice A1 n1 c1, .slice B1 m1 d1] 25) := ⟨_, rfl⟩
        have hO2 : W2.heap[w2.heap.size]? = some (.cells #[.bool q', .bool e', .bool a', .bool i', .slice A1 n1 c1, .slice B1 m1 d1] 25) := by rw [hW2]; exact heap_alloc_new _ _
        have hB2a : Below w2.heap.size w2 W2 := by rw [hW2]; exact (Below.refl _ _).alloc (Nat.le_refl _) _
        have hs2 : W2.heap.size = w2.heap.size + 1 := by rw [hW2]; simp
        have hsA : SliceAt Rep.prt W2 (under W2.heap.size) A1 c1 ps' := hs1.keep (fun b h => Nat.lt_of_lt_of_le h hB2a.size) (Same.of_below hB2a fun _ h => h)
        have hsB : SliceAt Rep.str W2 (under W2.heap.size) B1 d1 fs' := ht1.keep (fun b h => Nat.lt_of_lt_of_le h hB2a.size) (Same.of_below hB2a fun _ h => h)
        have HPP := Lib.hid (print_any q' e' a' i' ps' fs' A1 B1 n1 m1 c1 d1 W2 (Lib.hid hn1) (Lib.hid hm1) (Lib.hid hsA) (Lib.hid hsB) (by omega) (by omega))
        rw [hW2] at HPP
        have HW2 := Lib.hid hW2
        have HO2 := Lib.hid hO2
        have HB2a := Lib.hid hB2a
        have HSA := Lib.hid hsA
        have HSB := Lib.hid hsB
        have HBAD := Lib.hid hbad'
        have HN1 := Lib.hid hn1
        have HM1 := Lib.hid hm1
        clear hW2 hO2 hB2a hsA hsB ho1 ho2 hs1 ht1 hok hfit hres hbad' hn1 hm1
        go_wp2_with fail
        refine HPP.out.mono ?_
        clear HPP
        rintro e3 w3 ⟨v3, rfl, ho3, hb3⟩
        rw [← HW2.out] at ho3 hb3
        obtain ⟨A3, n3, c3, rfl, hn3, hnc3, hcm3, hs3⟩ := ho3.atB (Below.refl _ _)
        have hlen3 := Opts.print_len ⟨⟨q', e', a', i'⟩, ps', fs'⟩
        rw [← hn3] at hlen3
        simp only [← HN1.out, ← HM1.out] at hlen3
        have hB3 : Below W0.heap.size W0 w3 := HB2.out.trans ((HB2a.out.trans (hb3.mono (by omega))).mono HB2.out.size)
        have HQ := Lib.hid (parse_any A3 n3 c3 (Opts.print ⟨⟨q', e', a', i'⟩, ps', fs'⟩) w3 (Lib.hid hn3) (Lib.hid hs3) (Lib.hid (HIN.out w3 hB3).2.2.2.1) (by omega))
        rw [Opts.parse_print _ HBAD.out] at HQ
        have HB3a := Lib.hid hb3
        clear ho3 hn3 hs3 hb3 hB3
        go_wp2_with fail
        refine HQ.out.mono ?_
        clear HQ
        rintro e5 w5 ⟨⟨v5, u5, he5, ho5, hu5, -⟩, hb5⟩
        simp only [oCells] at he5
        subst he5
        have hB25 : Below W2.heap.size W2 w5 := HB3a.out.trans (hb5.mono HB3a.out.size)
        have HB5 := Lib.hid (HB2.out.trans ((HB2a.out.trans (hB25.mono (by omega))).mono HB2.out.size))
        obtain ⟨A5, n5, c5, rfl, hn5, hnc5, hcm5, hs5⟩ := ho5.atB (Below.refl _ _)
        obtain ⟨B5, m5, d5, rfl, hm5, hmd5, hdm5, ht5⟩ := hu5.atB (Below.refl _ _)
        have hblk := (hB25.block w2.heap.size (by omega)).trans HO2.out
        have k0 : w5.cell? ⟨w2.heap.size, 0, none⟩ = some (.bool q') := cell_of_row w5 _ 0 _ _ (0, 0) hblk
        have k1 : w5.cell? ⟨w2.heap.size, 1, none⟩ = some (.bool e') := cell_of_row w5 _ 1 _ _ (0, 0) hblk
        have k2 : w5.cell? ⟨w2.heap.size, 2, none⟩ = some (.bool a') := cell_of_row w5 _ 2 _ _ (0, 0) hblk
        have k3 : w5.cell? ⟨w2.heap.size, 3, none⟩ = some (.bool i') := cell_of_row w5 _ 3 _ _ (0, 0) hblk
        have k4 : w5.cell? ⟨w2.heap.size, 4, none⟩ = some (.slice A1 n1 c1) := cell_of_row w5 _ 4 _ _ (0, 0) hblk
        have k5 : w5.cell? ⟨w2.heap.size, 5, none⟩ = some (.slice B1 m1 d1) := cell_of_row w5 _ 5 _ _ (0, 0) hblk
        have hlt25 : w2.heap.size < w5.heap.size := by have := hB25.size; omega
        have hal := fun (o : Obj) => (Below.refl w5.heap.size w5).alloc (Nat.le_refl _) o
        have i2 : SliceAt Rep.prt w5 (under w5.heap.size) A1 c1 ps' := HSA.out.keep (fun b h => Nat.lt_of_lt_of_le h hB25.size) (Same.of_below hB25 fun _ h => h)
        have i3 : SliceAt Rep.str w5 (under w5.heap.size) B1 d1 fs' := HSB.out.keep (fun b h => Nat.lt_of_lt_of_le h hB25.size) (Same.of_below hB25 fun _ h => h)
        have HEQ2 : Hid (∀ o : Obj, Calls Tryd.prog 11 #[.agg #[.bool q', .bool e', .bool a', .bool i', .slice A5 n5 c5, .slice B5 m5 d5], .agg #[.bool q', .bool e', .bool a', .bool i', .slice A1 n1 c1, .slice B1 m1 d1]] (w5.alloc o) fun e w' => e = .returned (.bool true) ∧ Below (w5.alloc o).heap.size (w5.alloc o) w') := Lib.hid fun o =>
          eqO ⟨q', e', a', i'⟩ ps' fs' A5 A1 B5 B1 n5 n1 m5 m1 c5 c1 d5 d1 (w5.alloc o) (under w5.heap.size) (under w5.heap.size) (under w5.heap.size) (under w5.heap.size) hn5 HN1.out hm5 HM1.out
            (hs5.keep (fun _ h => h) (Same.of_below (hal o) fun _ h => h)) (i2.keep (fun _ h => h) (Same.of_below (hal o) fun _ h => h)) (ht5.keep (fun _ h => h) (Same.of_below (hal o) fun _ h => h)) (i3.keep (fun _ h => h) (Same.of_below (hal o) fun _ h => h))
            (fun b h => Nat.lt_of_lt_of_le h (hal o).size) (fun b h => Nat.lt_of_lt_of_le h (hal o).size) (fun b h => Nat.lt_of_lt_of_le h (hal o).size) (fun b h => Nat.lt_of_lt_of_le h (hal o).size)
        have HAL := Lib.hid hal
        clear ho5 hu5 hn5 hm5 hs5 ht5 i2 i3 hal hblk hb5
        go_wp2_with fail
        refine (HEQ2.out _).mono ?_
        rintro e6 wc ⟨rfl, hb6⟩
        have HBc := Lib.hid (HB5.out.trans (((HAL.out _).trans (hb6.mono (by simp))).mono HB5.out.size))
        clear hb6 k0 k1 k2 k3 k4 k5 HEQ2 HAL
        obtain ⟨k0, k1, k2, k3, k4, k5⟩ := HC.out wc HBc.out
        obtain ⟨i1, i2, i3, i4, i5⟩ := HIN.out wc HBc.out
        have HP4 := Lib.hid (print_any q e a i ps fs P F pn fn pc fc wc hpn hfn (Lib.hid i2) (Lib.hid i3) (by omega) (by omega))
        clear i1 i2 i3 i4
        go_wp2_with fail
        refine HP4.out.mono ?_
        clear HP4
        rintro e4 w4 ⟨v4, rfl, ho4, hb4⟩
        have HB4 := Lib.hid (HBc.out.trans (hb4.mono HBc.out.size))
        obtain ⟨A4, n4, c4, rfl, hn4, hnc4, hcm4, hs4⟩ := ho4.atB (Below.refl _ _)
        have hlen := Opts.print_len ⟨⟨q, e, a, i⟩, ps, fs⟩
        have hnil := Opts.print_nil ⟨⟨q, e, a, i⟩, ps, fs⟩
        rw [← hn4] at hlen hnil
        simp only [← hpn.out, ← hfn.out] at hlen
        have HN4 := Lib.hid hn4
        have HS4 := Lib.hid hs4
        have HNIL := Lib.hid hnil
        clear ho4 hb4 hn4 hs4 hnil k0 k1 k2 k3 k4 k5 i5
        obtain ⟨k0, k1, k2, k3, k4, k5⟩ := HC.out w4 HB4.out
        by_cases h4 : n4 = 0
        · have hbad := HNIL.out.1 h4
          subst h4
          by_cases hp0 : pn = 0
          · subst hp0
            clear hbad
            go_wp2_with fail
            go_ret
            exact ⟨rfl, HB0.out.trans (HB4.out.mono (by omega))⟩
          · have hdp : ((pn : Int) == 0) = false := by rw [beq_eq_false_iff_ne]; omega
            have hia : i = true ∧ a = false := by
              have hpl := hpn.out
              cases ps with
              | nil => exact absurd hpl hp0
              | cons x r =>
                have h' : (i && !a) = true := hbad
                simpa using h'
            obtain ⟨rfl, rfl⟩ := hia
            clear hbad hp0
            go_wp2_with fail
            go_ret
            exact ⟨rfl, HB0.out.trans (HB4.out.mono (by omega))⟩
        · have hbad : Opts.bad ⟨⟨q, e, a, i⟩, ps, fs⟩ = false := by
            cases hbb : Opts.bad ⟨⟨q, e, a, i⟩, ps, fs⟩ with
            | false => rfl
            | true => exact absurd (HNIL.out.2 hbb) h4
          have hd4 : ((n4 : Int) == 0) = false := by rw [beq_eq_false_iff_ne]; omega
          obtain ⟨i1, i2, i3, i4, i5⟩ := HIN.out w4 HB4.out
          have HP5 := Lib.hid (parse_any A4 n4 c4 (Opts.print ⟨⟨q, e, a, i⟩, ps, fs⟩) w4 HN4 HS4 (Lib.hid i4) (by omega))
          rw [Opts.parse_print _ hbad] at HP5
          clear i1 i2 i3 i4 hbad
          go_wp2_with fail
          refine HP5.out.mono ?_
          clear HP5
          rintro e5 w5 ⟨⟨v5, u5, he5, ho5, hu5, -⟩, hb5⟩
          simp only [oCells] at he5
          subst he5
          have HB5 := Lib.hid (HB4.out.trans (hb5.mono HB4.out.size))
          clear hb5 k0 k1 k2 k3 k4 k5 i5
          obtain ⟨A5, n5, c5, rfl, hn5, hnc5, hcm5, hs5⟩ := ho5.atB (Below.refl _ _)
          obtain ⟨B5, m5, d5, rfl, hm5, hmd5, hdm5, ht5⟩ := hu5.atB (Below.refl _ _)
          obtain ⟨k0, k1, k2, k3, k4, k5⟩ := HC.out w5 HB5.out
          obtain ⟨i1, i2, i3, i4, i5⟩ := HIN.out w5 HB5.out
          have hal := fun (o : Obj) => (Below.refl w5.heap.size w5).alloc (Nat.le_refl _) o
          have HEQ2 : Hid (∀ o : Obj, Calls Tryd.prog 11 #[.agg #[.bool q, .bool e, .bool a, .bool i, .slice A5 n5 c5, .slice B5 m5 d5], .agg #[.bool q, .bool e, .bool a, .bool i, .slice P pn pc, .slice F fn fc]] (w5.alloc o) fun e w' => e = .returned (.bool true) ∧ Below (w5.alloc o).heap.size (w5.alloc o) w') := Lib.hid fun o =>
            eqO ⟨q, e, a, i⟩ ps fs A5 P B5 F n5 pn m5 fn c5 pc d5 fc (w5.alloc o) (under w5.heap.size) (under w5.heap.size) (under w5.heap.size) (under w5.heap.size) hn5 hpn.out hm5 hfn.out
              (hs5.keep (fun _ h => h) (Same.of_below (hal o) fun _ h => h)) (i2.keep (fun _ h => h) (Same.of_below (hal o) fun _ h => h)) (ht5.keep (fun _ h => h) (Same.of_below (hal o) fun _ h => h)) (i3.keep (fun _ h => h) (Same.of_below (hal o) fun _ h => h))
              (fun b h => Nat.lt_of_lt_of_le h (hal o).size) (fun b h => Nat.lt_of_lt_of_le h (hal o).size) (fun b h => Nat.lt_of_lt_of_le h (hal o).size) (fun b h => Nat.lt_of_lt_of_le h (hal o).size)
          have HAL := Lib.hid hal
          clear ho5 hu5 hn5 hm5 hs5 ht5 i1 i2 i3 i4 hal
          go_wp2_with fail
          refine (HEQ2.out _).mono ?_
          rintro e6 w6 ⟨rfl, hb6⟩
          have HB6 := Lib.hid (HB5.out.trans (((HAL.out _).trans (hb6.mono (by simp))).mono HB5.out.size))
          clear hb6
          go_wp2_with fail
          go_ret
          exact ⟨rfl, HB0.out.trans (HB6.out.mono (by omega))⟩
    · have hd : decide ((1048576 : Int) < (pn : Int) + fn) = true := decide_eq_true (by omega)
      go_wp2_with fail
      go_ret
      exact ⟨rfl, HB0.out.trans (HB1.out.mono (by omega))⟩
end Go.Proofs.YtmjagjcaepbklaaDoor
