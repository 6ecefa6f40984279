/- The walks of galleylaw02's works and plain; the contracts of quote's functions over one reading of the world. Conditions: the tables and the sentinels lie as they are laid. -/
import Derived.Test.YtfmaaempcpjpkaaDoorUnshow
import Derived.Test.YtfmaaempcpjpkaaDoorLine
namespace Go.Proofs.YtfmaaempcpjpkaaDoor
open Go.RowKit Go.Deep

/-- The package-level variables lie as they are laid. -/
def QEnv (w : World) : Prop := ∃ (ea : Addr) (se : Value), (∃ te pe, se = .iface te pe) ∧ w.cell? ⟨0, 0, none⟩ = some (.iface 168 (.pointer (some ea))) ∧ w.cell? ⟨2, 0, none⟩ = some se ∧ Pow10 w ∧ Words w
theorem QEnv.below {w w' : World} (h : QEnv w) (hb : Below w.heap.size w w') : QEnv w' := by
  obtain ⟨ea, se, h1, h2, h3, h4, h5⟩ := h
  exact ⟨ea, se, h1, (hb.cell (p := ⟨0, 0, none⟩) (Lib.lt_of_cell h2)).trans h2, (hb.cell (p := ⟨2, 0, none⟩) (Lib.lt_of_cell h3)).trans h3, h4.below hb, h5.below hb⟩
/-- What an Unshow answers. -/
def QB (w : World) (x : List UInt8) (b : Bool) (e : Ending) (w' : World) : Prop := ∃ A n c, e = .returned (.tuple #[.slice A n c, .bool b]) ∧ n ≤ c ∧ c ≤ 9223372036854775807 ∧ Hid (n = x.length) ∧ Hid (Own Rep.byte 5 w' w.heap.size nob (.slice A n c) x) ∧ Hid (Below w.heap.size w w')
theorem unP (t : ByteArray) (x : List UInt8) (b : Bool) (w : World) (hnb : t.size ≤ 17179869184) (hQ : Hid (QEnv w)) (hU : Hid (UnR t.data.toList b x)) : Calls Tryd.prog 10 #[.string t] w (QB w x b) := by
  obtain ⟨ea, se, h1, h2, h3, -, -⟩ := hQ.out
  refine (unshowP_any t ea se w hnb (Lib.hid h1) (Lib.hid h2) (Lib.hid h3)).mono ?_
  rintro e w' ⟨A, n, c, l, b', rfl, h4, h5, h6, h7, h8, h9, h10⟩
  obtain ⟨rfl, rfl⟩ := h8.out.uniq hU.out
  exact ⟨A, n, c, rfl, h4, h5, h6, h9, h10⟩
theorem unD (t : ByteArray) (x : List UInt8) (b : Bool) (w : World) (hnb : t.size ≤ 17179869184) (hU : Hid (UnR t.data.toList b x)) : Calls Tryd.prog 11 #[.string t] w (QB w x b) := by
  refine (unshowD_any t w hnb).mono ?_
  rintro e w' ⟨A, n, c, l, b', rfl, h4, h5, h6, h7, h8, h9, h10⟩
  obtain ⟨rfl, rfl⟩ := h8.out.uniq hU.out
  exact ⟨A, n, c, rfl, h4, h5, h6, h9, h10⟩
theorem show_ge (l : List UInt8) : l.length ≤ (Quote.show_ l).length := by
  have h : ∀ (n : Nat) (l : List UInt8), l.length ≤ n → l.length ≤ (Quote.body l).length := by
    intro n
    induction n with
    | zero => intro l hl; obtain rfl : l = [] := List.eq_nil_of_length_eq_zero (by omega); simp
    | succ n ih =>
      intro l hl
      cases l with
      | nil => simp
      | cons a r =>
        by_cases hc : 0 < Quote.sz (a :: r) ∧ Quote.fair (a :: r) (Quote.sz (a :: r)) = true
        · rw [Quote.body_fair hc.1 hc.2, List.length_append]
          have := ih ((a :: r).drop (Quote.sz (a :: r))) (by rw [List.length_drop]; simp at hl ⊢; omega)
          rw [List.length_drop] at this
          rw [List.length_take]
          have := Quote.sz_le (a :: r)
          omega
        · rw [Quote.body_esc hc, List.length_append]
          have := ih r (by simp at hl; omega)
          have : 1 ≤ (Quote.esc a).length := by unfold Quote.esc; (repeat' split) <;> simp
          simp only [List.length_cons]
          omega
  have := h l.length l (Nat.le_refl _)
  unfold Quote.show_
  simp only [List.length_cons, List.length_append, List.length_nil]
  omega
theorem un_some (s : List UInt8) : ∃ b l, UnR s b l ∧ l.length ≤ s.length := by
  by_cases h : ∃ x, Quote.show_ x = s
  · obtain ⟨x, hx⟩ := h
    exact ⟨true, x, .inl ⟨rfl, hx⟩, by rw [← hx]; exact show_ge x⟩
  · exact ⟨false, [], .inr ⟨rfl, rfl, fun x hx => h ⟨x, hx⟩⟩, Nat.zero_le _⟩
theorem wordP (e : Int) (w : World) (h0 : -9223372036854775808 ≤ e) (h1 : e ≤ 9223372036854775807) (hQ : Hid (QEnv w)) : Calls Tryd.prog 16 #[.int .i64 e] w fun r w' => r = .returned (.string (Quote.wordB e)) ∧ Hid (Below w.heap.size w w') := by
  obtain ⟨ea, se, -, -, -, h4, h5⟩ := hQ.out
  exact wordP_any e w h0 h1 (Lib.hid h4) (Lib.hid h5)
theorem lineP (e a : Int) (x : ByteArray) (w : World) (he0 : -9223372036854775808 ≤ e) (he1 : e ≤ 9223372036854775807) (ha0 : -9223372036854775808 ≤ a) (ha1 : a ≤ 9223372036854775807) (hx : x.size ≤ 4294967296) (hQ : Hid (QEnv w)) :
    Calls Tryd.prog 18 #[.agg #[.int .i64 e, .int .i64 a, .string x]] w fun r w' => ∃ y, r = .returned (.string y) ∧ Hid (y.data.toList = lineL e a x.data.toList) ∧ Hid (Below w.heap.size w w') := by
  obtain ⟨ea, se, -, -, -, h4, h5⟩ := hQ.out
  exact lineP_any e a x w he0 he1 ha0 ha1 hx (Lib.hid h4) (Lib.hid h5)
def wSign : List UInt8 := [97, 34, 10, 195, 169, 255]
def wText : ByteArray := ⟨#[34, 97, 92, 34, 92, 110, 195, 169, 92, 120, 102, 102, 34]⟩
theorem w_show : (⟨(Quote.show_ wSign).toArray⟩ : ByteArray) = wText := by decide
theorem w_word : Quote.wordB 44 = ⟨#[110, 111, 32, 115, 117, 99, 104, 32, 103, 114, 111, 117, 112]⟩ := by rfl
theorem w_line : lineL 44 3 [120] = [103, 97, 108, 108, 101, 121, 58, 32, 110, 111, 32, 115, 117, 99, 104, 32, 103, 114, 111, 117, 112, 32, 97, 116, 32, 51, 58, 32, 34, 120, 34] := by
  have h : Lib.itoa 3 = [51] := by
    have := Lib.itoa_nonneg 3
    rw [show ((3 : Nat) : Int) = 3 from rfl] at this
    rw [this, Lib.decDigits_one (by omega)]
    rfl
  unfold lineL
  rw [h]
  decide
set_option maxRecDepth 100000 in
set_option maxHeartbeats 16000000 in
theorem worksQ (w : World) (hQ : Hid (QEnv w)) : Calls Tryd.prog 15 #[] w fun e w' => e = .returned (.bool true) ∧ Hid (Below w.heap.size w w') := by
  have HSL : Hid (SliceAt Rep.byte (w.alloc (.cells #[.int .u8 97, .int .u8 34, .int .u8 10, .int .u8 195, .int .u8 169, .int .u8 255] 5)) (under (w.heap.size + 1)) (some ⟨w.heap.size, 0, none⟩) 6 wSign) := Lib.hid (SliceAt.newBytes w _ _ wSign 6 (by decide) (by decide) rfl)
  go_enter Tryd.func15, Tryd.ntmps15
  go_wp2_with fail
  refine (show_any _ 6 6 wSign _ _ (Lib.hid rfl) HSL (by omega)).mono ?_
  rintro e w1 ⟨rfl, HB1⟩
  have HA1 : Hid (Below w.heap.size w w1) := Lib.hid (((Below.refl _ w).alloc (Nat.le_refl _) _).trans (HB1.out.mono (by simp)))
  rw [w_show]
  go_wp2_with fail
  refine (unP wText wSign true w1 (by decide) (Lib.hid (hQ.out.below HA1.out)) (Lib.hid (.inl ⟨rfl, by decide⟩))).mono ?_
  rintro e w2 ⟨A2, n2, c2, rfl, hnc2, hcm2, HN2, HO2, HB2⟩
  obtain rfl : n2 = 6 := HN2.out
  have HA2 : Hid (Below w.heap.size w w2) := Lib.hid (HA1.out.trans (HB2.out.mono HA1.out.size))
  obtain ⟨A', n', c', e', -, -, -, hs⟩ := HO2.out.read
  simp only [Value.slice.injEq] at e'
  obtain ⟨rfl, rfl, rfl⟩ := e'
  obtain ⟨g, o, rfl, hg, hc⟩ := hs.byte (i := 5) (by decide)
  have hc5 : w2.cell? ⟨g, o + 5, none⟩ = some (.int .u8 255) := hc
  have hwt : (wText.toList == [34, 97, 92, 34, 92, 110, 195, 169, 92, 120, 102, 102, 34]) = true := by rw [beq_iff_eq, ByteArray.toList_eq]; rfl
  obtain ⟨T, hT⟩ : ∃ T, T = wText := ⟨_, rfl⟩
  rw [← hT] at hwt ⊢
  clear hT hc hs
  go_wp2_with fail
  refine (wordP 44 w2 (by omega) (by omega) (Lib.hid (hQ.out.below HA2.out))).mono ?_
  rintro e w3 ⟨rfl, HB3⟩
  have HA3 : Hid (Below w.heap.size w w3) := Lib.hid (HA2.out.trans (HB3.out.mono HA2.out.size))
  rw [w_word]
  go_wp2_with fail
  refine (lineP 44 3 ⟨#[120]⟩ w3 (by omega) (by omega) (by omega) (by omega) (by decide) (Lib.hid (hQ.out.below HA3.out))).mono ?_
  rintro e w4 ⟨y, rfl, HY, HB4⟩
  have HA4 : Hid (Below w.heap.size w w4) := Lib.hid (HA3.out.trans (HB4.out.mono HA3.out.size))
  have hy : (y.toList == [103, 97, 108, 108, 101, 121, 58, 32, 110, 111, 32, 115, 117, 99, 104, 32, 103, 114, 111, 117, 112, 32, 97, 116, 32, 51, 58, 32, 34, 120, 34]) = true := by rw [beq_iff_eq, ByteArray.toList_eq, HY.out]; exact w_line
  go_wp2_with fail
  go_ret
  exact ⟨rfl, HA4⟩
end Go.Proofs.YtfmaaempcpjpkaaDoor
