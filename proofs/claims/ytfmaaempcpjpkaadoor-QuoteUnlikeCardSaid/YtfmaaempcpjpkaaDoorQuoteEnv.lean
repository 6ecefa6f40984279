/- From the card's condition on the listed variables to what the walks ask. No program's walk here. Condition: the listed variables read as their initialisers lay them. -/
import Derived.Test.YtfmaaempcpjpkaaDoorRows
import Derived.Test.YtfmaaempcpjpkaaDoorQuoteWorks
import Derived.OpenShut
import Derived.Lib.LaidTab
import Derived.Stop.LaidErr
namespace Go.Proofs.YtfmaaempcpjpkaaDoor
open Go.RowKit Go.ChangeShapes Go.WideShapes

theorem gPow : Tryd.prog.globalNamed "internal/strconv.uint64pow10" = some 4 := by kernel_rfl
theorem gPowType : (Tryd.prog.globals[4]?).map (·.type) = some 163 := by kernel_rfl
theorem cellsPow : Tryd.prog.cellsOf 163 = 20 := by kernel_rfl
theorem cellsU64 : Tryd.prog.cellsOf 77 = 1 := by kernel_rfl
theorem dataPow : (Lib.tabData .u64 Lib.pow10Tab : DataW Unit) = Rows.laid_internal_strconv_uint64pow10 := by kernel_rfl
theorem pow10_of {W : World} {rest : List (String × DataW Unit)} (h : laidMet Tryd.prog (("internal/strconv.uint64pow10", Rows.laid_internal_strconv_uint64pow10) :: rest) W) : Pow10 W := by
  rw [← dataPow] at h
  exact Lib.tabIs_of_head gPow gPowType Tryd.underlying163 Tryd.underlying77 cellsU64 cellsPow h
theorem star : "*" ++ "errors.errorString" = "*errors.errorString" := by decide
theorem rowErr (u : TypeId) (h : Tryd.prog.typeName? 3 u = some "*errors.errorString") : u = 168 :=
  typeName_ptr_named (nm := "errors.errorString") (by rw [star]; kernel_rfl) (by kernel_rfl) (by decide) u (by rw [star]; exact h)
theorem sent_of {W : World} {n : String} {text : List UInt8} {rest : List (String × DataW Unit)} {g : Nat} (h : laidMet Tryd.prog ((n, .iface "*errors.errorString" (.ptr (.agg [.lit (.string text)]))) :: rest) W) (hg : Tryd.prog.globalNamed n = some g) (ht : (Tryd.prog.globals[g]?).map (·.type) = some 64) :
    ∃ a : Addr, W.cell? ⟨g, 0, none⟩ = some (.iface 168 (.pointer (some a))) := by
  obtain ⟨a, s, hv, -⟩ := laid_sentinel h hg ht Tryd.underlying64 rowErr Tryd.underlying168 Tryd.underlying170 rfl rfl Tryd.underlying9 (by kernel_rfl) (by kernel_rfl)
  have h0 := World.var?_cell hg hv 0
  exact ⟨a, by simpa using h0⟩
theorem gWords : Tryd.prog.globalNamed "galley/quote.words" = some 1 := by kernel_rfl
theorem gWordsType : (Tryd.prog.globals[1]?).map (·.type) = some 71 := by kernel_rfl
theorem cellsWs : Tryd.prog.cellsOf 71 = 82 := by kernel_rfl
theorem cellsW : Tryd.prog.cellsOf 70 = 2 := by kernel_rfl
theorem cellsE : Tryd.prog.cellsOf 52 = 1 := by kernel_rfl
theorem cellsS : Tryd.prog.cellsOf 9 = 1 := by kernel_rfl
theorem dataWords : (.agg (Quote.WL.map fun p => .agg [.lit (.int .i64 p.1), .lit (.string p.2)]) : DataW Unit) = Rows.laid_galley_quote_words := by kernel_rfl
theorem wCells_get (i : Nat) (p : Int × List UInt8) (h : Quote.WL[i]? = some p) : wCells[i * 2]? = some (.int .i64 p.1) ∧ wCells[i * 2 + 1]? = some (.string ⟨p.2.toArray⟩) := by
  have h9 := congrArg Array.toList (wCells_at i p h)
  rw [Array.toList_extract, List.extract_eq_take_drop, show i * 2 + 2 - i * 2 = 2 by omega] at h9
  have h9 : (wCells.drop (i * 2)).take 2 = [.int .i64 p.1, .string ⟨p.2.toArray⟩] := h9
  have a := congrArg (·[0]?) h9
  have b := congrArg (·[1]?) h9
  simp only [List.getElem?_take, List.getElem?_drop] at a b
  exact ⟨by simpa using a, by simpa using b⟩
theorem words_of {W : World} {rest : List (String × DataW Unit)} (h : laidMet Tryd.prog (("galley/quote.words", Rows.laid_galley_quote_words) :: rest) W) : Words W := by
  rw [← dataWords] at h
  obtain ⟨ps, ⟨g', t', cs, fuel, p, q, hg', ht', hvar, hd, _, _⟩, _⟩ := h
  obtain rfl := Option.some.inj (gWords.symm.trans hg')
  obtain rfl := Option.some.inj (gWordsType.symm.trans ht')
  obtain ⟨xs, m, rfl, hx, hl, hxl, hall⟩ := DataW.trod_array Tryd.underlying71 hd
  rw [cellsWs] at hl
  rw [cellsW] at hall
  have hcs : cs.toList = wCells := by
    apply List.ext_getElem?
    intro j
    by_cases hj : j < 82
    · obtain ⟨pp, hp⟩ : ∃ pp, Quote.WL[j / 2]? = some pp := ⟨_, List.getElem?_eq_getElem (by show j / 2 < 41; omega)⟩
      have hxs : xs[j / 2]? = some (xs[j / 2]'(by omega)) := List.getElem?_eq_getElem (by omega)
      have h1 := hall (j / 2) (by omega)
      rw [hxs] at h1
      have hfst : (xs[j / 2]'(by omega)).1 = (.agg [.lit (.int .i64 pp.1), .lit (.string pp.2)] : DataW Unit) := by
        have e := congrArg Prod.fst hx
        simp only [DataW.agg.injEq] at e
        have e2 := congrArg (·[j / 2]?) e
        simp only [List.getElem?_map, hp, hxs, Option.map_some, Option.some.injEq] at e2
        exact e2.symm
      obtain ⟨y0, y1, m', hx2, -, h20, h21⟩ := trod_struct2 Tryd.underlying70 h1
      simp only at h20 h21
      rw [cellsE, List.drop_zero] at h20
      rw [cellsS] at h21
      obtain ⟨z, hz, rfl, -⟩ := DataW.trod_int Tryd.underlying52 h20
      obtain ⟨s, hs, rfl, -⟩ := DataW.trod_string Tryd.underlying9 h21
      rw [hx2] at hfst
      simp only [DataW.agg.injEq, List.cons.injEq, DataW.lit.injEq, Lit.int.injEq, Lit.string.injEq, true_and, and_true] at hfst
      obtain ⟨rfl, hsp⟩ := hfst
      have e0 := congrArg (·[0]?) hz
      have e1 := congrArg (·[0]?) hs
      simp only [List.getElem?_take, List.getElem?_drop, List.getElem?_cons_zero] at e0 e1
      obtain ⟨g0, g1⟩ := wCells_get (j / 2) pp hp
      rcases Nat.mod_two_eq_zero_or_one j with hm2 | hm2
      · have hj2 : j / 2 * 2 + 0 = j := by omega
        rw [Nat.add_zero] at hj2
        rw [hj2] at g0
        rw [g0]
        simpa [hj2] using e0
      · have hj2 : j / 2 * 2 + 1 = j := by omega
        rw [hj2] at g1
        rw [g1, ← hsp]
        simpa [hj2] using e1
    · rw [List.getElem?_eq_none (by omega), List.getElem?_eq_none (by rw [wCells_len]; omega)]
  intro j v hv
  rw [← hcs] at hv
  have h0 := World.var?_cell gWords hvar j
  rw [Nat.zero_add, h0]
  rw [Array.getElem?_toList] at hv
  exact hv
theorem qenv_of {W : World} (h : laidMet Tryd.prog [("math/bits.deBruijn32tab", Rows.laid_math_bits_deBruijn32tab), ("math/bits.deBruijn64tab", Rows.laid_math_bits_deBruijn64tab), ("internal/strconv.uint64pow10", Rows.laid_internal_strconv_uint64pow10), ("strconv.ErrRange", Rows.laid_strconv_ErrRange), ("strconv.ErrSyntax", Rows.laid_strconv_ErrSyntax), ("galley/quote.words", Rows.laid_galley_quote_words), ("galley/quote.errNone", Rows.laid_galley_quote_errNone)] W) : QEnv W := by
  have h2 := Go.laidMet.tail (Go.laidMet.tail h)
  have h4 := Go.laidMet.tail (Go.laidMet.tail h2)
  have h5 := Go.laidMet.tail h4
  have h6 := Go.laidMet.tail h5
  obtain ⟨ea, he⟩ := sent_of h6 (g := 0) (by kernel_rfl) (by kernel_rfl)
  obtain ⟨sa, hs⟩ := sent_of h4 (g := 2) (by kernel_rfl) (by kernel_rfl)
  exact ⟨ea, _, ⟨_, _, rfl⟩, he, hs, pow10_of h2, words_of h5⟩
end Go.Proofs.YtfmaaempcpjpkaaDoor
