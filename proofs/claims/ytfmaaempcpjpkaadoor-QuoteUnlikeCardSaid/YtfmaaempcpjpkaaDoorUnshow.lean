/- Text read as bytes: the walks of Unshow, the program's and the document's. Conditions: at most 2^34 bytes; the sentinels lie in their variables. -/
import Derived.Test.YtfmaaempcpjpkaaDoorQuoteShow
import Derived.Test.YtfmaaempcpjpkaaDoorQuoteRead
import Derived.Test.YtfmaaempcpjpkaaDoorQuoteGuess
import Derived.Test.YtfmaaempcpjpkaaDoorQuote5
import Derived.Test.YtfmaaempcpjpkaaDoorErrIs
namespace Go.Proofs.YtfmaaempcpjpkaaDoor
open Go.RowKit Go.Deep

/-- The answer of a reading: the bytes that are shown so, if there are any. -/
def UnR (s : List UInt8) (b : Bool) (l : List UInt8) : Prop := (b = true ∧ Quote.show_ l = s) ∨ (b = false ∧ l = [] ∧ ∀ x, Quote.show_ x ≠ s)
theorem show_inj {a b : List UInt8} (h : Quote.show_ a = Quote.show_ b) : a = b := by
  unfold Quote.show_ at h
  simp only [List.cons.injEq, true_and] at h
  exact Quote.body_inj (List.append_cancel_right h)
theorem UnR.uniq {s : List UInt8} {b b' : Bool} {l l' : List UInt8} (h : UnR s b l) (h' : UnR s b' l') : b = b' ∧ l = l' := by
  rcases h with ⟨rfl, h⟩ | ⟨rfl, rfl, h⟩
  · rcases h' with ⟨rfl, h'⟩ | ⟨rfl, rfl, h'⟩
    · exact ⟨rfl, show_inj (h.trans h'.symm)⟩
    · exact absurd h (h' _)
  · rcases h' with ⟨rfl, h'⟩ | ⟨rfl, rfl, h'⟩
    · exact absurd h' (h _)
    · exact ⟨rfl, rfl⟩
theorem UnR.guess {s : List UInt8} (l : List UInt8) (hl : l = Quote.guess (s.drop 1)) (h : Quote.show_ l ≠ s) : UnR s false [] := by
  refine .inr ⟨rfl, rfl, fun x hx => h ?_⟩
  subst hx
  have e : Quote.guess ((Quote.show_ x).drop 1) = x := Quote.guess_body x.length x (Nat.le_refl _)
  rw [hl, e]
theorem UnR.read {s l : List UInt8} (hl : Quote.read hx16 ((s.take (s.length - 1)).drop 1) = some l) (h : Quote.show_ l ≠ s) : UnR s false [] := by
  refine .inr ⟨rfl, rfl, fun x hx => h ?_⟩
  subst hx
  have e : (((Quote.show_ x).take ((Quote.show_ x).length - 1)).drop 1) = Quote.body x := by
    unfold Quote.show_
    simp
  rw [e, Quote.read_body hx16 hx16_ok x.length x (Nat.le_refl _)] at hl
  rw [Option.some.inj hl]
theorem UnR.none {s : List UInt8} (h : s.length < 2 ∨ Quote.read hx16 ((s.take (s.length - 1)).drop 1) = none) : UnR s false [] := by
  refine .inr ⟨rfl, rfl, fun x hx => ?_⟩
  subst hx
  rcases h with h | h
  · unfold Quote.show_ at h
    simp at h
    omega
  · have e : (((Quote.show_ x).take ((Quote.show_ x).length - 1)).drop 1) = Quote.body x := by
      unfold Quote.show_
      simp
    rw [e, Quote.read_body hx16 hx16_ok x.length x (Nat.le_refl _)] at h
    cases h
theorem ba_yes {s t : ByteArray} (h : s = t) : (s.toList == t.toList) = true := by subst h; simp
theorem ba_no {s t : ByteArray} (h : s ≠ t) : (s.toList == t.toList) = false := by
  rw [beq_eq_false_iff_ne, ByteArray.toList_eq, ByteArray.toList_eq]
  intro e
  exact h (ba_list e)
set_option maxRecDepth 100000 in
set_option maxHeartbeats 16000000 in
theorem unshowP_any (t : ByteArray) (ea : Addr) (se : Value) (w : World) (hnb : t.size ≤ 17179869184) (hev : Hid (∃ te pe, se = .iface te pe)) (hgN : Hid (w.cell? ⟨0, 0, none⟩ = some (.iface 168 (.pointer (some ea))))) (hgS : Hid (w.cell? ⟨2, 0, none⟩ = some se)) :
    Calls Tryd.prog 10 #[.string t] w fun e w' => ∃ A n c l b, e = .returned (.tuple #[.slice A n c, .bool b]) ∧ n ≤ c ∧ c ≤ 9223372036854775807 ∧ Hid (n = l.length) ∧ Hid (l.length ≤ t.size) ∧ Hid (UnR t.data.toList b l) ∧ Hid (Own Rep.byte 5 w' w.heap.size nob (.slice A n c) l) ∧ Hid (Below w.heap.size w w') := by
  have hNlt : 0 < w.heap.size := Lib.lt_of_cell hgN.out
  have hts : t.data.toList.length = t.size := by rw [Array.length_toList]; rfl
  have hu0 := Tryd.underlying23
  go_enter Tryd.func10, Tryd.ntmps10
  go_wp2_with fail
  refine (read_any t _ se w hnb (Lib.hid ⟨_, rfl⟩) hev hgN hgS).mono ?_
  rintro e w1 ⟨HB, ⟨rfl, HR⟩ | ⟨A, n, c, l, rfl, hnc, hcm, ht2, HO, HN, HL, HR⟩⟩
  · have hcN : w1.cell? ⟨0, 0, none⟩ = some (.iface 168 (.pointer (some ea))) := (HB.out.cell (p := ⟨0, 0, none⟩) hNlt).trans hgN.out
    go_wp2_with (go_at_call 25; refine (is_same ea _).mono ?_; rintro e w' ⟨rfl, rfl⟩)
    go_ret2
    exact ⟨none, 0, 0, [], false, rfl, Nat.le_refl _, by omega, Lib.hid rfl, Lib.hid (Nat.zero_le _), Lib.hid (UnR.none (by rw [hts]; exact HR.out)), Lib.hid (Own.nil _ _ _ _), HB⟩
  · have hcN : w1.cell? ⟨0, 0, none⟩ = some (.iface 168 (.pointer (some ea))) := (HB.out.cell (p := ⟨0, 0, none⟩) hNlt).trans hgN.out
    have HSL : Hid (SliceAt Rep.byte w1 (btw w.heap.size w1.heap.size) A c l) := Lib.hid (by
      obtain ⟨A', n', c', e', -, -, -, hs⟩ := HO.out.read
      simp only [Value.slice.injEq] at e'
      obtain ⟨rfl, rfl, rfl⟩ := e'
      exact hs)
    have hnl : n ≤ t.size := by have := HN.out; have := HL.out; omega
    obtain ⟨S4, hS4⟩ : ∃ S4 : ByteArray, S4 = ⟨(Quote.show_ l).toArray⟩ := ⟨_, rfl⟩
    have HS4 : Hid (S4.data.toList = Quote.show_ l) := Lib.hid (by rw [hS4])
    have HSH := Lib.hid (show_any A n c l (btw w.heap.size w1.heap.size) w1 HN HSL (by omega))
    rw [← hS4] at HSH
    clear hS4
    by_cases heq : S4 = t
    · have hbe := ba_yes heq
      have HU : Hid (UnR t.data.toList true l) := Lib.hid (.inl ⟨rfl, by rw [← HS4.out, heq]⟩)
      clear heq
      go_wp2_with (first | (go_at_call 25; refine (is_nil ea _).mono ?_; rintro e w' ⟨rfl, rfl⟩) | (go_at_call 20; refine HSH.out.mono ?_; rintro e w2 ⟨rfl, HB2⟩))
      go_ret2
      exact ⟨A, n, c, l, true, rfl, hnc, hcm, HN, HL, HU, Lib.hid (HO.out.far HB2.out), Lib.hid (HB.out.trans (HB2.out.mono HB.out.size))⟩
    · have hbe := ba_no heq
      have HU : Hid (UnR t.data.toList false []) := Lib.hid (UnR.read (l := l) (by rw [hts]; exact HR.out) (fun h => heq (ba_list (HS4.out.trans h))))
      clear heq
      go_wp2_with (first | (go_at_call 25; refine (is_nil ea _).mono ?_; rintro e w' ⟨rfl, rfl⟩) | (go_at_call 20; refine HSH.out.mono ?_; rintro e w2 ⟨rfl, HB2⟩))
      go_ret2
      exact ⟨none, 0, 0, [], false, rfl, Nat.le_refl _, by omega, Lib.hid rfl, Lib.hid (Nat.zero_le _), HU, Lib.hid (Own.nil _ _ _ _), Lib.hid (HB.out.trans (HB2.out.mono HB.out.size))⟩
set_option maxRecDepth 100000 in
set_option maxHeartbeats 16000000 in
theorem unshowD_any (t : ByteArray) (w : World) (hnb : t.size ≤ 17179869184) :
    Calls Tryd.prog 11 #[.string t] w fun e w' => ∃ A n c l b, e = .returned (.tuple #[.slice A n c, .bool b]) ∧ n ≤ c ∧ c ≤ 9223372036854775807 ∧ Hid (n = l.length) ∧ Hid (l.length ≤ t.size) ∧ Hid (UnR t.data.toList b l) ∧ Hid (Own Rep.byte 5 w' w.heap.size nob (.slice A n c) l) ∧ Hid (Below w.heap.size w w') := by
  go_enter Tryd.func11, Tryd.ntmps11
  go_wp2_with fail
  refine (guess_any t w hnb).mono ?_
  rintro e w1 ⟨A, n, c, l, rfl, hnc, hcm, HN, HG, HL, HO, HB⟩
  have HSL : Hid (SliceAt Rep.byte w1 (under w1.heap.size) A c l) := Lib.hid (by
    obtain ⟨A', n', c', e', -, -, -, hs⟩ := HO.out.read
    simp only [Value.slice.injEq] at e'
    obtain ⟨rfl, rfl, rfl⟩ := e'
    exact hs.up fun b hb => hb.2)
  have hnl : n ≤ t.size := by have := HN.out; have := HL.out; omega
  obtain ⟨S4, hS4⟩ : ∃ S4 : ByteArray, S4 = ⟨(Quote.show_ l).toArray⟩ := ⟨_, rfl⟩
  have HS4 : Hid (S4.data.toList = Quote.show_ l) := Lib.hid (by rw [hS4])
  have HSH := Lib.hid (showD_any A n c l w1 HN HSL (by omega))
  rw [← hS4] at HSH
  clear hS4
  by_cases heq : S4 = t
  · have hbe := ba_yes heq
    have HU : Hid (UnR t.data.toList true l) := Lib.hid (.inl ⟨rfl, by rw [← HS4.out, heq]⟩)
    clear heq
    go_wp2_with (go_at_call 27; refine HSH.out.mono ?_; rintro e w2 ⟨rfl, HB2⟩)
    go_ret2
    exact ⟨A, n, c, l, true, rfl, hnc, hcm, HN, HL, HU, Lib.hid (HO.out.far HB2.out), Lib.hid (HB.out.trans (HB2.out.mono HB.out.size))⟩
  · have hbe := ba_no heq
    have HU : Hid (UnR t.data.toList false []) := Lib.hid (UnR.guess l HG.out (fun h => heq (ba_list (HS4.out.trans h))))
    clear heq
    go_wp2_with (go_at_call 27; refine HSH.out.mono ?_; rintro e w2 ⟨rfl, HB2⟩)
    go_ret2
    exact ⟨none, 0, 0, [], false, rfl, Nat.le_refl _, by omega, Lib.hid rfl, Lib.hid (Nat.zero_le _), HU, Lib.hid (Own.nil _ _ _ _), Lib.hid (HB.out.trans (HB2.out.mono HB.out.size))⟩
end Go.Proofs.YtfmaaempcpjpkaaDoor
