/- The word of a number: the walks of Word, the program's and the document's. Conditions: the tables (powers of ten; words) lie as they are laid. -/
import Derived.Test.YtfmaaempcpjpkaaDoorProg
import Derived.Test.YtfmaaempcpjpkaaDoorShelf
import Derived.Test.YtfmaaempcpjpkaaDoorMem
import Derived.Test.YtfmaaempcpjpkaaDoorQuote2
import Derived.Test.YtfmaaempcpjpkaaDoorWordPlain
import Derived.Deep.MidRow
import Derived.Lib.AtoiErrMem
import Derived.Lib.AppendIntMem
import Derived.WalkKit
import Derived.WalkSpells
import Derived.Deep.LoopGhost
import Derived.WalkMore
import Derived.Lib.Hide
namespace Go.Proofs.YtfmaaempcpjpkaaDoor
open Go.RowKit Go.Deep

theorem var_below {P : Program} {n : String} {cs : Array Value} {w w' : World} (h : w.var? P n = some cs) (hb : Below w.heap.size w w') : w'.var? P n = some cs := by
  unfold World.var? at h ⊢
  cases hg : P.globalNamed n with
  | none => rw [hg] at h; cases h
  | some g =>
    rw [hg] at h
    simp only [Option.bind_some] at h ⊢
    cases hc : w.heap[g]? with
    | none => rw [hc] at h; cases h
    | some o =>
      rw [hb.block g (Array.getElem?_eq_some_iff.1 hc).1]
      exact h
/-- The table of powers of ten lies as it is laid. -/
def Pow10 (w : World) : Prop := Lib.TabIs Tryd.prog w "internal/strconv.uint64pow10" .u64 Lib.pow10Tab
theorem Pow10.below {w w' : World} (h : Pow10 w) (hb : Below w.heap.size w w') : Pow10 w' := var_below h hb
/-- The table of words, as cells. -/
def wCells : List Value := Quote.WL.flatMap fun p => [.int .i64 p.1, .string ⟨p.2.toArray⟩]
/-- The table of words lies as it is laid. -/
def Words (w : World) : Prop := w.rangeAt 1 0 wCells
theorem Words.below {w w' : World} (h : Words w) (hb : Below w.heap.size w w') : Words w' := fun j v hv =>
  (hb.cell (p := ⟨1, 0 + j, none⟩) (Lib.lt_of_cell (h j v hv))).trans (h j v hv)
theorem wCells_len : wCells.length = 82 := by rfl
theorem wCells_at (i : Nat) (p : Int × List UInt8) (h : Quote.WL[i]? = some p) : (wCells.toArray.extract (i * 2) (i * 2 + 2)) = #[.int .i64 p.1, .string ⟨p.2.toArray⟩] := by
  have hall : ∀ i, i < 41 → ∀ p, Quote.WL[i]? = some p → (wCells.drop (i * 2)).take 2 = [Value.int .i64 p.1, .string ⟨p.2.toArray⟩] := by
    intro i hi
    have : i = 0 ∨ i = 1 ∨ i = 2 ∨ i = 3 ∨ i = 4 ∨ i = 5 ∨ i = 6 ∨ i = 7 ∨ i = 8 ∨ i = 9 ∨ i = 10 ∨ i = 11 ∨ i = 12 ∨ i = 13 ∨ i = 14 ∨ i = 15 ∨ i = 16 ∨ i = 17 ∨ i = 18 ∨ i = 19 ∨ i = 20 ∨ i = 21 ∨ i = 22 ∨ i = 23 ∨ i = 24 ∨ i = 25 ∨ i = 26 ∨ i = 27 ∨ i = 28 ∨ i = 29 ∨ i = 30 ∨ i = 31 ∨ i = 32 ∨ i = 33 ∨ i = 34 ∨ i = 35 ∨ i = 36 ∨ i = 37 ∨ i = 38 ∨ i = 39 ∨ i = 40 := by omega
    rcases this with rfl | rfl | rfl | rfl | rfl | rfl | rfl | rfl | rfl | rfl | rfl | rfl | rfl | rfl | rfl | rfl | rfl | rfl | rfl | rfl | rfl | rfl | rfl | rfl | rfl | rfl | rfl | rfl | rfl | rfl | rfl | rfl | rfl | rfl | rfl | rfl | rfl | rfl | rfl | rfl | rfl <;> (intro p hp; obtain rfl := Option.some.inj hp; rfl)
  have hi : i < 41 := (List.getElem?_eq_some_iff.1 h).1
  have h9 := hall i hi p h
  apply Array.toList_inj.1
  rw [Array.toList_extract, List.extract_eq_take_drop, show i * 2 + 2 - i * 2 = 2 by omega]
  exact h9
theorem index_word (i : Nat) (p : Int × List UInt8) (h : Quote.WL[i]? = some p) (W : World) : (Instr.index 71 (.agg wCells.toArray) (.int .i64 i)).run Tryd.prog W = .ok (.agg #[.int .i64 p.1, .string ⟨p.2.toArray⟩]) W := by
  have hi : i < 41 := (List.getElem?_eq_some_iff.1 h).1
  have e := wCells_at i p h
  have hu := Tryd.underlying71
  have ha := Tryd.isAgg70
  have hz := Tryd.sizeOf70
  simp only [Instr.index, asIntOf, Sem.run_bind, Sem.run_pure, Result.andThen_ok, run_underlying hu]
  rw [if_pos (by omega)]
  simp only [part, Sem.run_bind, Sem.run_pure, Result.andThen_ok, hz, ha, Int.toNat_natCast, if_true, e]
theorem retW {a b : ByteArray} (h : a = b) : Ending.returned (.string a) = Ending.returned (.string b) := by rw [h]
set_option maxRecDepth 100000 in
set_option maxHeartbeats 8000000 in
theorem wordP_any (e : Int) (w : World) (h0 : -9223372036854775808 ≤ e) (h1 : e ≤ 9223372036854775807) (hT : Hid (Pow10 w)) (hW : Hid (Words w)) :
    Calls Tryd.prog 16 #[.int .i64 e] w fun r w' => r = .returned (.string (Quote.wordB e)) ∧ Hid (Below w.heap.size w w') := by
  have hil := Lib.itoa_length_le e h0 h1
  have hII := index_word
  obtain ⟨CS, hCS⟩ : ∃ CS : Array Value, CS = wCells.toArray := ⟨_, rfl⟩
  rw [← hCS] at hII
  have HCS := Lib.hid hCS
  clear hCS
  go_enter Tryd.func16, Tryd.ntmps16
  go_wp2_with (refine wpList_load_mid rfl 71 (.global 1) rfl 1 0 rfl wCells _ hW.out Tryd.underlying71 rfl (by kernel_rfl) ?_; rw [← HCS.out])
  go_loopg [6] 41 (fun j v6 wr => ∃ (i : Nat), i ≤ 41 ∧ j = 41 - i ∧ v6 = .int .i64 i ∧ Hid (Below w.heap.size w wr) ∧ Hid (∀ (k : Nat) (q : Int × List UInt8), k < i → Quote.WL[k]? = some q → q.1 ≠ e))
  case atStart => exact ⟨0, by omega, rfl, rfl, Lib.hid (Below.refl _ _), Lib.hid (fun k q hk => absurd hk (by omega))⟩
  case round =>
    obtain ⟨i, hi, rfl, rfl, HB, HN⟩ := hrel
    obtain ⟨wo, rfl⟩ : ∃ wo : World, wo = wr := ⟨_, rfl⟩
    by_cases hlt : i < 41
    · have hltz : (i : Int) < 41 := by omega
      obtain ⟨p, hp⟩ : ∃ p, Quote.WL[i]? = some p := ⟨_, List.getElem?_eq_getElem (by show i < 41; exact hlt)⟩
      have HI := hII i p hp
      have HP := Lib.hid hp
      clear hII hp
      obtain ⟨k, s⟩ := p
      simp only at HI
      have HB2 := Lib.hid fun o => HB.out.alloc HB.out.size o
      by_cases hk : k = e
      · subst hk
        have HWD : Hid (Quote.wordB k = ⟨s.toArray⟩) := Lib.hid (by unfold Quote.wordB; rw [Quote.wordL_some (Quote.find_at HP.out HN.out rfl)])
        obtain ⟨sb, hsb⟩ : ∃ sb : ByteArray, sb = ⟨s.toArray⟩ := ⟨_, rfl⟩
        rw [← hsb] at HI HWD
        clear hsb
        go_wp2_with fail
        go_ret
        exact ⟨retW HWD.out.symm, HB2.out _⟩
      · have hkz : (k == e) = false := by rw [beq_eq_false_iff_ne]; exact hk
        have HN2 : Hid (∀ (j : Nat) (q : Int × List UInt8), j < i + 1 → Quote.WL[j]? = some q → q.1 ≠ e) := Lib.hid fun j q hj hq => by
          rcases Nat.lt_or_ge j i with h | h
          · exact HN.out j q h hq
          · obtain rfl : j = i := by omega
            rw [HP.out] at hq
            obtain rfl := Option.some.inj hq
            exact hk
        obtain ⟨sb, hsb⟩ : ∃ sb : ByteArray, sb = ⟨s.toArray⟩ := ⟨_, rfl⟩
        rw [← hsb] at HI
        clear hsb hk
        go_wp2_with fail
        go_roundg (41 - (i + 1))
        case measure => omega
        case rel => exact ⟨i + 1, by omega, rfl, by go_num, HB2.out _, HN2⟩
    · have hi41 : i = 41 := by omega
      have hltz : ¬ (i : Int) < 41 := by omega
      have HF : Hid (Quote.wordB e = ⟨#[101, 114, 114, 111, 114, 32]⟩ ++ ⟨(Lib.itoa e).toArray⟩) := Lib.hid (by
        unfold Quote.wordB
        rw [Quote.wordL_none (Quote.find_end fun j q hq => HN.out j q (by rw [hi41]; exact (List.getElem?_eq_some_iff.1 hq).1) hq)]
        rw [str_cat]
        simp)
      have HT := Lib.hid (hT.out.below HB.out)
      clear hi41
      go_wp2_with (go_at_call 47; refine (Tryd.strconv_Itoa e h0 h1 _ HT.out).mono ?_; rintro r w2 ⟨rfl, k, os, hw2⟩; have HB3 : Hid (Below w.heap.size w w2) := Lib.hid (by rw [hw2]; exact HB.out.trans (Lib.below_grow _ _ HB.out.size k os)); clear hw2)
      go_ret
      exact ⟨retW HF.out.symm, HB3⟩
theorem find_none_of {e : Int} (h : ∀ p ∈ Quote.WL, (e == p.1) = false) : Quote.WL.find? (fun p => p.1 == e) = none := by
  rw [List.find?_eq_none]
  intro q hq
  have := h q hq
  rw [beq_eq_false_iff_ne] at this
  simp only [beq_iff_eq]
  exact fun h => this h.symm
set_option maxRecDepth 100000 in
set_option maxHeartbeats 16000000 in
theorem wordD_any (e : Int) (w : World) (h0 : -9223372036854775808 ≤ e) (h1 : e ≤ 9223372036854775807) (hT : Hid (Pow10 w)) :
    Calls Tryd.prog 17 #[.int .i64 e] w fun r w' => r = .returned (.string (Quote.wordB e)) ∧ Hid (Below w.heap.size w w') := by
  have hil := Lib.itoa_length_le e h0 h1
  go_enter Tryd.func17, Tryd.ntmps17
  go_wp2_with (go_at_call 47; refine (Tryd.strconv_Itoa e h0 h1 _ hT.out).mono ?_; rintro r w2 ⟨rfl, k, os, hw2⟩; have HB3 : Hid (Below w.heap.size w w2) := Lib.hid (by rw [hw2]; exact (Lib.below_grow _ _ (Nat.le_refl _) k os)); clear hw2)
  all_goals first
    | (rename_i h; have he := eq_of_beq h; subst he; go_ret; exact ⟨retW (by rfl), Lib.hid (Below.refl _ _)⟩)
    | (have hf : Quote.WL.find? (fun p => p.1 == e) = none := find_none_of (by
         simp only [Quote.WL, List.mem_cons, forall_eq_or_imp]
         repeat' (first | assumption | apply And.intro)
         simp)
       have HF : Quote.wordB e = ⟨#[101, 114, 114, 111, 114, 32]⟩ ++ ⟨(Lib.itoa e).toArray⟩ := by
         unfold Quote.wordB
         rw [Quote.wordL_none hf, str_cat]
         simp
       go_ret
       exact ⟨retW HF.symm, HB3⟩)
end Go.Proofs.YtfmaaempcpjpkaaDoor
