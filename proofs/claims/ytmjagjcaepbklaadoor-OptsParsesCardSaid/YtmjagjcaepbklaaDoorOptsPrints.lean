/- The walk of the law OptsPrints. Conditions: the tables of UTF-8 and of powers of ten lie as they are laid. -/
import Derived.Test.YtmjagjcaepbklaaDoorRefPrint28
import Derived.Test.YtmjagjcaepbklaaDoorOptsJoins
import Derived.Test.YtmjagjcaepbklaaDoorOptsBack
import Derived.Test.YtmjagjcaepbklaaDoorBagGTexts
import Derived.Test.YtmjagjcaepbklaaDoorLookTP
namespace Go.Proofs.YtmjagjcaepbklaaDoor
open Go.RowKit

/-- What is handed in, and its twin with marks behind. -/
structure PrIn (w W : World) (G H : Nat) (f : Opts.Fl) (P F : Option Addr) (pn pc fn fc g1 g2 : Nat) (ps : List Opts.Prt) (fs : List ByteArray) : Prop where
  og : W.heap[G]? = some (oObj f (.slice P pn pc) (.slice F fn fc))
  oh : W.heap[H]? = some (oObj f (.slice (some ⟨g1, 0, none⟩) pn (pn + 64)) (.slice (some ⟨g2, 0, none⟩) fn (fn + 64)))
  sp : SliceAt Rep.prt W (under w.heap.size) P pc ps
  sf : SliceAt Rep.str W (under w.heap.size) F fc fs
  op : Own Rep.prt 38 W w.heap.size nob (.slice (some ⟨g1, 0, none⟩) (pn + 64) (pn + 64)) (ps ++ marksPt pn)
  of : Own Rep.str 9 W w.heap.size nob (.slice (some ⟨g2, 0, none⟩) (fn + 64) (fn + 64)) (fs ++ marksT fn)
  po : Pow W
  b0 : Below w.heap.size w W
section
variable {w W W' : World} {G H : Nat} {f : Opts.Fl} {P F : Option Addr} {pn pc fn fc g1 g2 : Nat} {ps : List Opts.Prt} {fs : List ByteArray}
theorem PrIn.far (h : PrIn w W G H f P F pn pc fn fc g1 g2 ps fs) (hb : Below W.heap.size W W') : PrIn w W' G H f P F pn pc fn fc g1 g2 ps fs :=
  have hz := h.b0.size
  ⟨(hb.block _ (Array.getElem?_eq_some_iff.1 h.og).1).trans h.og, (hb.block _ (Array.getElem?_eq_some_iff.1 h.oh).1).trans h.oh, h.sp.keep (fun _ h => h) (Same.of_below hb fun _ h => Nat.lt_of_lt_of_le h hz), h.sf.keep (fun _ h => h) (Same.of_below hb fun _ h => Nat.lt_of_lt_of_le h hz), h.op.far hb, h.of.far hb, h.po.below hb, h.b0.trans (hb.mono hz)⟩
theorem PrIn.inP (h : PrIn w W G H f P F pn pc fn fc g1 g2 ps fs) (hn : pn = ps.length) : SliceAt Rep.prt W (under W.heap.size) (some ⟨g1, 0, none⟩) (pn + 64) ps := by
  have := h.op.first (k := pn) (by rw [List.length_append, marksPt_len, hn]) (by omega)
  rw [show (ps ++ marksPt pn).take pn = ps by rw [hn, List.take_left]] at this
  exact this.at1.2.2.2
theorem PrIn.inF (h : PrIn w W G H f P F pn pc fn fc g1 g2 ps fs) (hn : fn = fs.length) : SliceAt Rep.str W (under W.heap.size) (some ⟨g2, 0, none⟩) (fn + 64) fs := by
  have := h.of.first (k := fn) (by rw [List.length_append, marksT_len, hn]) (by omega)
  rw [show (fs ++ marksT fn).take fn = fs by rw [hn, List.take_left]] at this
  exact this.at1.2.2.2
theorem PrIn.sp' (h : PrIn w W G H f P F pn pc fn fc g1 g2 ps fs) : SliceAt Rep.prt W (under W.heap.size) P pc ps := h.sp.up fun _ hb => Nat.lt_of_lt_of_le hb h.b0.size
theorem PrIn.sf' (h : PrIn w W G H f P F pn pc fn fc g1 g2 ps fs) : SliceAt Rep.str W (under W.heap.size) F fc fs := h.sf.up fun _ hb => Nat.lt_of_lt_of_le hb h.b0.size
end
theorem eqT' (A B : Option Addr) (n c m d : Nat) (xs : List ByteArray) (w : World) (base1 base2 : Nat) (hx : Own Rep.str 9 w base1 nob (.slice A n c) xs) (hy : Own Rep.str 9 w base2 nob (.slice B m d) xs) :
    Calls Tryd.prog 15 #[.slice A n c, .slice B m d] w fun e w' => e = .returned (.bool true) ∧ Below w.heap.size w w' :=
  eqT A B n c m d xs xs w true hx.at1.1 hy.at1.1 (decide_eq_true rfl) _ _ hx.at1.2.2.2 hy.at1.2.2.2
set_option maxRecDepth 100000 in
set_option maxHeartbeats 8000000 in
theorem optsPrints_any (q e a i : Bool) (ps : List Opts.Prt) (fs : List ByteArray) (P F : Option Addr) (pn pc fn fc : Nat) (w : World)
    (hpn : Hid (pn = ps.length)) (hps : Hid (SliceAt Rep.prt w (under w.heap.size) P pc ps)) (hfn : Hid (fn = fs.length)) (hfs : Hid (SliceAt Rep.str w (under w.heap.size) F fc fs)) (hT : Hid (Lib.Utf8Tabs 0 1 w)) (hP : Hid (Pow w)) (hpb : pn ≤ 140737488351232) (hfb : fn ≤ 140737488351232) :
    Calls Tryd.prog 6 #[.agg #[.bool q, .bool e, .bool a, .bool i, .slice P pn pc, .slice F fn fc]] w fun e' w' => e' = .returned (.bool true) ∧ Below w.heap.size w w' := by
  obtain ⟨W0, hW0⟩ : ∃ W0, W0 = w.alloc (oObj ⟨q, e, a, i⟩ (.slice P pn pc) (.slice F fn fc)) := ⟨_, rfl⟩
  have hobj : W0.heap[w.heap.size]? = some (oObj ⟨q, e, a, i⟩ (.slice P pn pc) (.slice F fn fc)) := by rw [hW0]; exact heap_alloc_new _ _
  have hb0 : Below w.heap.size w W0 := by rw [hW0]; exact (Below.refl _ _).alloc (Nat.le_refl _) _
  have hs0 : W0.heap.size = w.heap.size + 1 := by rw [hW0]; simp
  have HB0 := Lib.hid hb0
  have HS0 := Lib.hid hs0
  have HOBJ : Hid (∀ W, Below W0.heap.size W0 W → W.heap[w.heap.size]? = some (oObj ⟨q, e, a, i⟩ (.slice P pn pc) (.slice F fn fc))) := Lib.hid fun W hW => (hW.block _ (by omega)).trans hobj
  have HWK : Hid (∀ W, W = W0 → Calls Tryd.prog 8 #[] W fun e w' => e = .returned (.bool true) ∧ Below W0.heap.size W0 w') := Lib.hid fun W h => by subst h; exact worksO_any W (Lib.hid (Utf8Tabs_below hT.out hb0))
  have HW0 := Lib.hid hW0
  clear hW0 hobj hb0 hs0
  go_enter Tryd.func6, Tryd.ntmps6
  go_wp2_with fail
  refine (HWK.out _ HW0.out.symm).mono ?_
  clear HWK
  rintro e1 w1 ⟨rfl, hb1⟩
  have HB1 := Lib.hid hb1
  have HB1w := Lib.hid (HB0.out.trans (hb1.mono HB0.out.size))
  obtain ⟨k0, k1, k2, k3, k4, k5⟩ := oObj_cells (HOBJ.out w1 hb1)
  clear hb1
  by_cases hbig : 1048576 < pn + fn
  · have hd : decide ((1048576 : Int) < (pn : Int) + fn) = true := decide_eq_true (by omega)
    go_wp2_with fail
    go_ret
    exact ⟨rfl, HB1w.out⟩
  have hd : decide ((1048576 : Int) < (pn : Int) + fn) = false := decide_eq_false (by omega)
  have hpb2 : pn ≤ 1048576 := by omega
  have hfb2 : fn ≤ 1048576 := by omega
  have hp1 : SliceAt Rep.prt w1 (under w1.heap.size) P pc ps := hps.out.below HB1w.out (Nat.le_refl _) |>.up fun b hb => Nat.lt_of_lt_of_le hb HB1w.out.size
  have hf1 : SliceAt Rep.str w1 (under w1.heap.size) F fc fs := hfs.out.below HB1w.out (Nat.le_refl _) |>.up fun b hb => Nat.lt_of_lt_of_le hb HB1w.out.size
  have HWO := Lib.hid (wideOptions_any q e a i P F pn pc fn fc ps fs w1 hpn hfn (Lib.hid hp1) (Lib.hid hf1) (by omega) (by omega) (Lib.hid (hP.out.below HB1w.out)))
  clear hp1 hf1
  go_wp2_with fail
  refine HWO.out.mono ?_
  clear HWO k0 k1 k2 k3 k4 k5
  rintro r w2 ⟨g1, g2, rfl, ho2⟩
  obtain ⟨W3, hW3⟩ : ∃ W3, W3 = w2.alloc (oObj ⟨q, e, a, i⟩ (.slice (some ⟨g1, 0, none⟩) pn (pn + 64)) (.slice (some ⟨g2, 0, none⟩) fn (fn + 64))) := ⟨_, rfl⟩
  have hb3 : Below w2.heap.size w2 W3 := by rw [hW3]; exact (Below.refl _ _).alloc (Nat.le_refl _) _
  have hb13 : Below w1.heap.size w1 W3 := ho2.b.trans (hb3.mono ho2.b.size)
  obtain ⟨H, hH⟩ : ∃ H, H = w2.heap.size := ⟨_, rfl⟩
  have HI3 : Hid (PrIn w W3 w.heap.size w2.heap.size ⟨q, e, a, i⟩ P F pn pc fn fc g1 g2 ps fs) := Lib.hid (by
    have hw : Below w.heap.size w W3 := HB1w.out.trans (hb13.mono HB1w.out.size)
    refine ⟨HOBJ.out W3 (HB1.out.trans (hb13.mono HB1.out.size)), by rw [hW3]; exact heap_alloc_new _ _, hps.out.keep (fun _ h => h) (Same.of_below hw fun _ h => h), hfs.out.keep (fun _ h => h) (Same.of_below hw fun _ h => h), (ho2.p.far hb3).base_le HB1w.out.size, (ho2.f.far hb3).base_le HB1w.out.size, hP.out.below hw, hw⟩)
  have hlt2 : w.heap.size < w2.heap.size := by have := HS0.out; have := HB1.out.size; have := ho2.b.size; omega
  have hz3 : W3.heap.size = w2.heap.size + 1 := by rw [hW3]; simp
  have HZ3 := Lib.hid hz3
  have hg2 : g2 < W3.heap.size := (HI3.out.of.block_lt rfl).2
  obtain ⟨g0, g1', g2', g3, g4, g5⟩ := oObj_cells HI3.out.og
  obtain ⟨h0, h1, h2, h3, h4, h5⟩ := oObj_cells HI3.out.oh
  have HPR : Hid (∀ W, W = W3 → Calls Tryd.prog 12 #[.agg #[.bool q, .bool e, .bool a, .bool i, .slice (some ⟨g1, 0, none⟩) pn (pn + 64), .slice (some ⟨g2, 0, none⟩) fn (fn + 64)]] W fun e' w' => ∃ v, e' = .returned v ∧ Own Rep.str 9 w' W3.heap.size nob v (Opts.print ⟨⟨q, e, a, i⟩, ps, fs⟩) ∧ Below W3.heap.size W3 w') := Lib.hid fun W h => by
    subst h
    exact print_any q e a i ps fs _ _ pn fn (pn + 64) (fn + 64) W hpn hfn (Lib.hid (HI3.out.inP hpn.out)) (Lib.hid (HI3.out.inF hfn.out)) (by omega) (by omega)
  have HW3 := Lib.hid hW3
  clear hH hW3 hb3 hb13 ho2 hz3
  go_wp2_with fail
  refine (HPR.out _ HW3.out.symm).mono ?_
  clear HPR g0 g1' g2' g3 g4 g5 h0 h1 h2 h3 h4 h5
  rintro r w4 ⟨v4, rfl, ho4, hb4⟩
  obtain ⟨A4, n4, c4, rfl, hn4, k41, k42⟩ := ho4.form
  have hlen : n4 ≤ 4194304 := by
    have := Opts.print_len ⟨⟨q, e, a, i⟩, ps, fs⟩
    have h1 := hn4.out
    have h2 := hpn.out
    have h3 := hfn.out
    simp only at this
    omega
  have HI4 := Lib.hid (HI3.out.far hb4)
  have HA4 := Lib.hid ho4
  have hzz4 := hb4.size
  have HZ4 := Lib.hid hzz4
  have HK4 : Hid (∀ b, (Value.slice A4 n4 c4).ownBlock = some b → W3.heap.size ≤ b ∧ b < w4.heap.size) := Lib.hid fun b hb => ho4.block_lt hb
  have hp := print_any q e a i ps fs _ _ pn fn (pn + 64) (fn + 64) w4 hpn hfn (Lib.hid (HI4.out.inP hpn.out)) (Lib.hid (HI4.out.inF hfn.out)) (by omega) (by omega)
  have HPR := Lib.hid hp
  clear ho4 hb4 hp hzz4
  obtain ⟨h0, h1, h2, h3, h4, h5⟩ := oObj_cells HI4.out.oh
  go_wp2_with fail
  refine HPR.out.mono ?_
  clear HPR h0 h1 h2 h3 h4 h5
  rintro r w5 ⟨v5, rfl, ho5, hb5⟩
  obtain ⟨A5, n5, c5, rfl, hn5, k51, k52⟩ := ho5.form
  have hlen5 : n5 ≤ 4194304 := by have := hn4.out; have := hn5.out; omega
  have HI5 := Lib.hid (HI4.out.far hb5)
  have HA5 := Lib.hid (HA4.out.far hb5)
  have HB5 := Lib.hid ho5
  have HZ5 := Lib.hid hb5.size
  have HK5 : Hid (∀ b, (Value.slice A5 n5 c5).ownBlock = some b → w4.heap.size ≤ b ∧ b < w5.heap.size) := Lib.hid fun b hb => ho5.block_lt hb
  have hp := refPrint_any q e a i ps fs P F pn fn pc fc w5 hpn hfn (Lib.hid HI5.out.sp') (Lib.hid HI5.out.sf') (by omega) (by omega)
  have HPR := Lib.hid hp
  clear ho5 hb5 hp
  obtain ⟨h0, h1, h2, h3, h4, h5⟩ := oObj_cells HI5.out.og
  go_wp2_with fail
  refine HPR.out.mono ?_
  clear HPR h0 h1 h2 h3 h4 h5
  rintro r w6 ⟨v6, rfl, ho6, hb6⟩
  obtain ⟨A6, n6, c6, rfl, hn6, k61, k62⟩ := ho6.form
  have HI6 := Lib.hid (HI5.out.far hb6)
  have HA6 := Lib.hid (HA5.out.far hb6)
  have HB6 := Lib.hid (HB5.out.far hb6)
  have HC6 := Lib.hid ho6
  have HZ6 := Lib.hid hb6.size
  clear ho6 hb6
  have hp := eqO ⟨q, e, a, i⟩ ps fs (some ⟨g1, 0, none⟩) P (some ⟨g2, 0, none⟩) F pn pn fn fn (pn + 64) pc (fn + 64) fc w6 (under w6.heap.size) (under w6.heap.size) (under w6.heap.size) (under w6.heap.size) hpn.out hpn.out hfn.out hfn.out
    (HI6.out.inP hpn.out) HI6.out.sp' (HI6.out.inF hfn.out) HI6.out.sf' (fun _ h => h) (fun _ h => h) (fun _ h => h) (fun _ h => h)
  have HEQ := Lib.hid hp
  clear hp
  obtain ⟨g0, g1', g2', g3, g4, g5⟩ := oObj_cells HI6.out.og
  obtain ⟨h0, h1, h2, h3, h4, h5⟩ := oObj_cells HI6.out.oh
  go_wp2_with fail
  refine HEQ.out.mono ?_
  clear HEQ h0 h1 h2 h3 h4 h5 g0 g1' g2' g3 g4 g5
  rintro r w7 ⟨rfl, hb7⟩
  have HI7 := Lib.hid (HI6.out.far hb7)
  have HA7 := Lib.hid (HA6.out.far hb7)
  have HB7 := Lib.hid (HB6.out.far hb7)
  have HC7 := Lib.hid (HC6.out.far hb7)
  have HZ7 := Lib.hid hb7.size
  clear hb7
  have hp := spareOptions_any q e a i pn fn ps fs g1 g2 w.heap.size w7 hpn hfn (Lib.hid HI7.out.op) (Lib.hid HI7.out.of) (by omega) (by omega) (Lib.hid HI7.out.po)
  have HSP := Lib.hid hp
  clear hp
  obtain ⟨h0, h1, h2, h3, h4, h5⟩ := oObj_cells HI7.out.oh
  go_wp2_with fail
  refine HSP.out.mono ?_
  clear HSP h0 h1 h2 h3 h4 h5
  rintro r w8 ⟨rfl, hb8⟩
  have HI8 := Lib.hid (HI7.out.far hb8)
  have HA8 := Lib.hid (HA7.out.far hb8)
  have HB8 := Lib.hid (HB7.out.far hb8)
  have HC8 := Lib.hid (HC7.out.far hb8)
  have HZ8 := Lib.hid hb8.size
  clear hb8
  go_wp2_with fail
  refine (eqT' A4 A6 n4 c4 n6 c6 _ w8 _ _ HA8.out HC8.out).mono ?_
  rintro r w9 ⟨rfl, hb9⟩
  have HI9 := Lib.hid (HI8.out.far hb9)
  have HA9 := Lib.hid (HA8.out.far hb9)
  have HB9 := Lib.hid (HB8.out.far hb9)
  have HC9 := Lib.hid (HC8.out.far hb9)
  have HZ9 := Lib.hid hb9.size
  clear hb9
  go_wp2_with fail
  refine (eqT' A5 A6 n5 c5 n6 c6 _ w9 _ _ HB9.out HC9.out).mono ?_
  rintro r w10 ⟨rfl, hb10⟩
  have HI10 := Lib.hid (HI9.out.far hb10)
  have HA10 := Lib.hid (HA9.out.far hb10)
  have HB10 := Lib.hid (HB9.out.far hb10)
  have HC10 := Lib.hid (HC9.out.far hb10)
  have HZ10 := Lib.hid hb10.size
  clear hb10 HI3 HI4 HI5 HI6 HI7 HI8 HI9 HA4 HA5 HA6 HA7 HA8 HA9 HB5 HB6 HB7 HB8 HB9 HC6 HC7 HC8 HC9
  obtain ⟨h0, h1, h2, h3, h4, h5⟩ := oObj_cells HI10.out.oh
  go_wp2_with fail
  clear h0 h1 h2 h3 h4 h5
  go_loopg [9] fn (fun k iv wr => ∃ (j : Nat), j ≤ fn ∧ iv = .int .i64 j ∧ k = fn - j ∧ Hid (Only (fun b => b = g2) w10 wr) ∧ Hid (∃ L : List ByteArray, L.length = fn + 64 ∧ Own Rep.str 9 wr w.heap.size nob (.slice (some ⟨g2, 0, none⟩) (fn + 64) (fn + 64)) L))
  case atStart => exact ⟨0, Nat.zero_le _, rfl, rfl, Lib.hid (Only.refl _ _), Lib.hid ⟨_, by rw [List.length_append, marksT_len, hfn.out], HI10.out.of⟩⟩
  case round =>
    obtain ⟨j, hj, rfl, rfl, HO, HL⟩ := hrel
    have hoh : wr.heap[w2.heap.size]? = some (oObj ⟨q, e, a, i⟩ (.slice (some ⟨g1, 0, none⟩) pn (pn + 64)) (.slice (some ⟨g2, 0, none⟩) fn (fn + 64))) :=
      (HO.out.block _ (Array.getElem?_eq_some_iff.1 HI10.out.oh).1 (fun e => by
        have h1 := HI10.out.of.ne_block HI10.out.oh (by decide)
        exact h1 (by rw [e]; rfl))).trans HI10.out.oh
    obtain ⟨h0, h1, h2, h3, h4, h5⟩ := oObj_cells hoh
    clear hoh
    by_cases hjn : j < fn
    · obtain ⟨L, hL, hown⟩ := HL.out
      obtain ⟨g', c', u, he, -, -, hcu, hfz, -, -⟩ := hown.cellAt rfl (k := j) (by omega)
      simp only [Value.slice.injEq, Option.some.injEq, Addr.mk.injEq] at he
      obtain ⟨⟨rfl, -⟩, -, -⟩ := he
      have HOWN := Lib.hid hown
      have HLL := Lib.hid hL
      clear hown hL
      go_wp2_with fail
      go_roundg (fn - (j + 1))
      case measure => omega
      case rel => exact ⟨j + 1, by omega, by go_num, rfl, Lib.hid (HO.out.grown (setCell_grown _ _ _ _) fun b hb => .inl (by simpa using hb)), Lib.hid ⟨_, by rw [List.length_set]; exact HLL.out, HOWN.out.setCell1 (x := ⟨#[115, 112, 111, 105, 108, 116]⟩) rfl (by have := HLL.out; omega) ⟨rfl, by decide⟩⟩⟩
    · obtain rfl : j = fn := by omega
      have hne : ∀ b, W3.heap.size ≤ b → ¬ b = g2 := fun b hb => by omega
      have HA11 := Lib.hid (HA10.out.only HO.out fun b hb => hne b (HA10.out.block_lt hb).1)
      have HB11 := Lib.hid (HB10.out.only HO.out fun b hb => hne b (Nat.le_trans HZ4.out (HB10.out.block_lt hb).1))
      have HC11 := Lib.hid (HC10.out.only HO.out fun b hb => hne b (Nat.le_trans (Nat.le_trans HZ4.out HZ5.out) (HC10.out.block_lt hb).1))
      have HW11 : Hid (Below w.heap.size w wr) := Lib.hid (HI10.out.b0.trans (HO.out.below HI10.out.b0.size fun b hb => by have := (HI10.out.of.block_lt rfl).1; rw [hb]; exact this))
      clear hne HL HA10 HB10 HC10
      go_wp2_with fail
      clear h0 h1 h2 h3 h4 h5
      refine (eqT' A4 A6 n4 c4 n6 c6 _ wr _ _ HA11.out HC11.out).mono ?_
      rintro r w12 ⟨rfl, hb12⟩
      have HA12 := Lib.hid (HA11.out.far hb12)
      have HB12 := Lib.hid (HB11.out.far hb12)
      have HW12 := Lib.hid (HW11.out.trans (hb12.mono HW11.out.size))
      clear hb12 HA11 HB11 HC11
      go_wp2_with fail
      have hal := (Below.refl w12.heap.size w12).alloc (Nat.le_refl _) (bagG fun _ => .slice none 0 0)
      have HG0 := Lib.hid (BagG.start w12 w.heap.size HW12.out.size)
      have HA13 := Lib.hid (HA12.out.far hal)
      have HB13 := Lib.hid (HB12.out.far hal)
      have HW13 := Lib.hid (HW12.out.trans (hal.mono HW12.out.size))
      clear hal HA12 HB12
      refine (addTexts_G w.heap.size _ _ _ _ A4 n4 c4 HG0 (Lib.hid (Fits.of HG0.out (k := 3) (by omega) (by omega) (by omega) (by omega) HA13.out (by have := HZ3.out; omega) rfl (by omega) (fun _ _ _ hy => (List.not_mem_nil hy).elim)))).mono ?_
      rintro r w14 ⟨rfl, hadd⟩
      obtain ⟨v14, hG1, hon, -⟩ := hadd
      have HG1 := Lib.hid hG1
      have HB14 := Lib.hid (HB13.out.only hon fun b hb => HG0.out.notF HB13.out (by decide) (kE_kS 3 (by omega) (by omega) (by omega) (by omega)) hb)
      have HW14 := Lib.hid (HW13.out.trans ((HG0.out.below hon).mono (Nat.le_refl _)))
      clear hG1 hon HA13 HB13
      go_wp2_with fail
      refine (addTexts_G w.heap.size _ _ _ _ A5 n5 c5 HG1 (Lib.hid (Fits.of HG1.out (k := 3) (by omega) (by omega) (by omega) (by omega) HB14.out (by have := HZ3.out; have := HZ4.out; omega) rfl (by omega) (fun b hb y hy hy2 => by
        have : y = (A4, n4, c4) := by simpa [addE] using hy
        subst this
        have h1 := (HK4.out b hy2).2
        have h2 := (HB14.out.block_lt hb).1
        omega)))).mono ?_
      rintro r w15 ⟨rfl, hadd⟩
      obtain ⟨v15, hG2, hon, -⟩ := hadd
      have HG2 := Lib.hid hG2
      have HW15 := Lib.hid (HW14.out.trans ((HG1.out.below hon).mono (Nat.le_refl _)))
      clear hG2 hon HB14
      go_wp2_with fail
      refine (apart_Gb HG2.out (Q := Pow) (fun W hW => hP.out.below (HW15.out.trans hW)) (fun k hk hne => ?_)).mono ?_
      · by_cases h3 : k = 3
        · subst h3; exact looked_texts
        · exact absurd (by simp [addE, h3]) hne
      rintro r w16 ⟨rfl, hb16⟩
      have HW16 := Lib.hid (HW15.out.trans hb16)
      clear hb16
      go_wp2_with fail
      go_ret
      exact ⟨rfl, HW16.out⟩
end Go.Proofs.YtmjagjcaepbklaaDoor
