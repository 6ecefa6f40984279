/- Texts handed in with marks behind them: the walks of galleyref00.text, WideTexts, SpareTexts, CopyTexts. Conditions: room; the table of powers of ten lies as it is laid. -/
import Derived.Test.YtmjagjcaepbklaaDoorProg
import Derived.Test.YtmjagjcaepbklaaDoorShelf
import Derived.Test.YtmjagjcaepbklaaDoorNum
import Derived.Test.YtmjagjcaepbklaaDoorRowAt
import Derived.Test.YtmjagjcaepbklaaDoorEqTexts
import Derived.Lib.ItoaLen
import Derived.Lib.AppendIntMem
import Derived.Laws.MakeOwn
import Derived.Deep.RegionHeld3
import Derived.WalkKit
import Derived.WalkSpells
import Derived.Deep.LoopGhost
import Derived.WalkMore
namespace Go.Proofs.YtmjagjcaepbklaaDoor
open Go.RowKit

theorem stTxt : SliceType Tryd.prog 22 9 1 16 := SliceType.mk' (z := .string ⟨#[]⟩) Tryd.underlying22 (by kernel_rfl) rfl (by omega)
/-- The table of powers of ten lies as it is laid. -/
def Pow (w : World) : Prop := Lib.TabIs Tryd.prog w "internal/strconv.uint64pow10" .u64 Lib.pow10Tab
theorem Pow.below {w w' : World} (h : Pow w) (hb : Below w.heap.size w w') : Pow w' := by
  unfold Pow Lib.TabIs World.var? at h ⊢
  cases hg : Tryd.prog.globalNamed "internal/strconv.uint64pow10" with
  | none => rw [hg] at h; cases h
  | some g =>
    rw [hg] at h
    simp only [Option.bind_some] at h ⊢
    cases hc : w.heap[g]? with
    | none => rw [hc] at h; cases h
    | some o =>
      rw [hb.block g (Array.getElem?_eq_some_iff.1 hc).1]
      exact h
/-- The mark of a place of a list. -/
def tmark (n i : Nat) : ByteArray := ⟨#[33]⟩ ++ ⟨(Lib.itoa (1048576 * (n : Int) + i + 1)).toArray⟩
theorem tmark_size (n i : Nat) (hn : n ≤ 1048576) (hi : i ≤ 2199023255552) : (tmark n i).size ≤ 22 := by
  have := Lib.itoa_length_le (1048576 * (n : Int) + i + 1) (by omega) (by omega)
  unfold tmark
  rw [ByteArray.size_append]
  show 1 + (Lib.itoa (1048576 * (n : Int) + i + 1)).toArray.size ≤ 22
  rw [List.size_toArray]
  omega
set_option maxRecDepth 100000 in
theorem text_any (n i : Nat) (w : World) (hn : n ≤ 1048576) (hi : i ≤ 2199023255552) (hT : Hid (Pow w)) : Calls Tryd.prog 31 #[.int .i64 n, .int .i64 i] w fun e w' => e = .returned (.string (tmark n i)) ∧ Below w.heap.size w w' := by
  have hm := tmark_size n i hn hi
  have hl := Lib.itoa_length_le (1048576 * (n : Int) + i + 1) (by omega) (by omega)
  have HI := Lib.hid (Tryd.strconv_Itoa (1048576 * (n : Int) + i + 1) (by omega) (by omega) w hT.out)
  obtain ⟨t, ht⟩ : ∃ t : ByteArray, t = ⟨(Lib.itoa (1048576 * (n : Int) + i + 1)).toArray⟩ := ⟨_, rfl⟩
  have hts : t.size ≤ 21 := by rw [ht]; show (Lib.itoa (1048576 * (n : Int) + i + 1)).toArray.size ≤ 21; rw [List.size_toArray]; exact hl
  have hc : ¬ ((⟨#[33]⟩ : ByteArray).size + t.size > 9223372036854775807) := by have : (⟨#[33]⟩ : ByteArray).size = 1 := rfl; omega
  rw [← ht] at HI
  have HT := Lib.hid ht
  clear ht hl hm
  go_enter Tryd.func31, Tryd.ntmps31
  go_wp2_with fail
  refine (num_any n i _ hn hi).mono ?_
  rintro e w' ⟨rfl, rfl⟩
  go_wp2_with fail
  refine HI.out.mono ?_
  rintro e w' ⟨rfl, k, os, rfl⟩
  have HB := Lib.hid (Lib.below_grow w.heap.size w (Nat.le_refl _) k os)
  generalize Go.Sort.grow (w.drewN k) os = w2 at HB ⊢
  go_wp2_with fail
  go_ret
  exact ⟨by rw [HT.out]; rfl, HB.out⟩
theorem text9 (i : Nat) (w : World) (hi : i ≤ 1099511627776) (hT : Hid (Pow w)) : Calls Tryd.prog 31 #[.int .i64 9, .int .i64 i] w fun e w' => e = .returned (.string (tmark 9 i)) ∧ Below w.heap.size w w' :=
  text_any 9 i w (by omega) (by omega) hT
def marksT (n : Nat) : List ByteArray := (List.range 64).map fun j => tmark 9 (n + j)
theorem marksT_len (n : Nat) : (marksT n).length = 64 := by simp [marksT]
theorem marksT_at (n i : Nat) (h : n ≤ i) (h' : i - n < (marksT n).length) : (marksT n)[i - n] = tmark 9 i := by
  simp only [marksT, List.getElem_map, List.getElem_range]
  congr 1
  omega
/-- Texts just made. -/
theorem Own.empties (w : World) (n base : Nat) (hb : base ≤ w.heap.size) (hn : n ≤ maxLen) : Own Rep.str 9 (w.alloc (.cells (madeCells #[.string ⟨#[]⟩] n) 9)) base nob (.slice (some ⟨w.heap.size, 0, none⟩) n n) (List.replicate n ⟨#[]⟩) := by
  refine ⟨(madeCells #[.string ⟨#[]⟩] n).toList, ⟨by simp [size_madeCells, Rep.str], .inr ⟨w.heap.size, n, _, by simp, hb, heap_alloc_new w _, by simp, hn, by rw [size_madeCells]; exact (Nat.mul_one n).symm, ?_⟩⟩, fun _ h => h.elim, fun v hv => ?_, fun i hi => ?_⟩
  · rw [List.take_of_length_le (by simp [size_madeCells, Rep.str])]
  · obtain ⟨j, hj, rfl⟩ := List.getElem_of_mem hv
    simp [madeCells, Value.oneCell', Nat.mod_one]
  · simp only [List.length_replicate] at hi
    refine ⟨?_, by rw [List.getElem_replicate]; exact Nat.zero_le _⟩
    rw [show i * Rep.str.n = i from Nat.mul_one i, show Rep.str.n = 1 from rfl, List.drop_eq_getElem_cons (by simpa [size_madeCells] using hi)]
    simp [madeCells, Nat.mod_one]
theorem info_str : (Tryd.prog.info? 9).map (fun i => (i.zero, i.size, i.bytes)) = some (some (.string ⟨#[]⟩), 1, 16) := by kernel_rfl
theorem run_make_texts (u : World) (n : Nat) (hn : n ≤ 1099511627776) : (Instr.makeSlice 22 (.int .i64 (n : Int)) (.int .i64 (n : Int))).run Tryd.prog u = .ok (.slice (some ⟨u.heap.size, 0, none⟩) n n) (u.alloc (.cells (madeCells #[.string ⟨#[]⟩] n) 9)) := by
  obtain ⟨i0, hi, hz0, hz1, hz2⟩ := info_parts info_str
  have h := run_make (P := Tryd.prog) u 22 9 i0 (.string ⟨#[]⟩) Tryd.underlying22 hi hz0 .i64 .i64 (n : Int) (n : Int) (by omega) (Int.le_refl _) (by rw [hz2]; omega) (by omega)
  have e : ((n : Int)).toNat = n := by omega
  rw [e] at h
  simpa [hz1, Value.cells] using h
/-- What WideTexts leaves. -/
def WideT (w : World) (n : Nat) (l : List ByteArray) (e : Ending) (w' : World) : Prop :=
  ∃ g, e = .returned (.slice (some ⟨g, 0, none⟩) n (n + 64)) ∧ Own Rep.str 9 w' w.heap.size nob (.slice (some ⟨g, 0, none⟩) (n + 64) (n + 64)) (l ++ marksT n) ∧ Below w.heap.size w w'
set_option maxRecDepth 100000 in
set_option maxHeartbeats 4000000 in
theorem wideTexts_any (A : Option Addr) (n c : Nat) (l : List ByteArray) (w : World) (S : Blocks) (hn : n = l.length) (hl : SliceAt Rep.str w S A c l) (hS : ∀ b, S b → b < w.heap.size) (hb : n ≤ 1099511627712) (hT : Hid (Pow w)) :
    Calls Tryd.prog 13 #[.slice A n c] w (WideT w n l) := by
  have hmk := fun u => run_make_texts u (n + 64) (by omega)
  rw [show ((n + 64 : Nat) : Int) = (n : Int) + 64 by omega] at hmk
  have hnc : n ≤ c := by rw [hn]; exact hl.len
  have hc := hl.max
  have HN := Lib.hid hn
  have HL := Lib.hid hl
  have HS := Lib.hid hS
  obtain ⟨L, hL⟩ : ∃ L, L = l ++ marksT n := ⟨_, rfl⟩
  have hLl : L.length = n + 64 := by rw [hL, List.length_append, marksT_len, hn]
  have HLe := Lib.hid hL
  have HLl := Lib.hid hLl
  have hown0 := Own.empties w (n + 64) w.heap.size (Nat.le_refl _) (by simp only [maxLen]; omega)
  rw [show List.replicate (n + 64) (⟨#[]⟩ : ByteArray) = filling L ⟨#[]⟩ 0 by rw [filling_zero, hLl]] at hown0
  have HOWN0 := Lib.hid hown0
  clear hn hl hS hL hLl hown0
  go_enter Tryd.func13, Tryd.ntmps13
  go_wp2_with fail
  go_loopg [4] (n + 64) (fun k iv wr => ∃ i : Nat, i ≤ n + 64 ∧ iv = .int .i64 i ∧ k = n + 64 - i ∧ Own Rep.str 9 wr w.heap.size nob (.slice (some ⟨w.heap.size, 0, none⟩) (n + 64) (n + 64)) (filling L ⟨#[]⟩ i) ∧ Below w.heap.size w wr)
  case atStart => exact ⟨0, Nat.zero_le _, rfl, rfl, HOWN0.out, (Below.refl _ _).alloc (Nat.le_refl _) _⟩
  case round =>
    obtain ⟨i, hi, rfl, rfl, hown, hbw⟩ := hrel
    by_cases hin : i < n + 64
    · have hil : i < L.length := by have := HLl.out; omega
      have hfl : (filling L ⟨#[]⟩ i).length = n + 64 := by rw [filling_len _ _ (by omega)]; exact HLl.out
      have hst := filling_step L ⟨#[]⟩ hil
      obtain ⟨FL, hFL⟩ : ∃ FL, FL = filling L ⟨#[]⟩ i := ⟨_, rfl⟩
      rw [← hFL] at hown hst hfl
      have HST := Lib.hid hst
      have HFL := Lib.hid hfl
      have HOWN := Lib.hid hown
      have HBW := Lib.hid hbw
      have hsz := hbw.size
      have hii : i ≤ 9223372036854775807 := by omega
      clear hst hfl hFL hown hbw
      by_cases hin2 : i < n
      · have hil2 : i < l.length := by have := HN.out; omega
        obtain ⟨g', c', u, he, -, -, hcu, hfr, -, -⟩ := HOWN.out.cellAt rfl (k := i) (by have := HFL.out; omega)
        simp only [Value.slice.injEq, Option.some.injEq, Addr.mk.injEq] at he
        obtain ⟨⟨rfl, -⟩, -, -⟩ := he
        obtain ⟨g, o, rfl, hSg, hcx0, hxs⟩ := HL.out.texts hil2
        have hcx := (HBW.out.cell (p := ⟨g, o + i, none⟩) (HS.out g hSg)).trans hcx0
        have hLi : L[i] = l[i] := by
          have := HLe.out; subst this
          rw [List.getElem_append_left hil2]
        obtain ⟨x, hx⟩ : ∃ x, x = l[i] := ⟨_, rfl⟩
        rw [← hx] at hcx hLi hxs
        have HLI := Lib.hid hLi
        have HXS : Hid (x.size ≤ maxLen) := Lib.hid (by simpa [maxLen] using hxs)
        clear hx hcx0 hLi hxs
        go_wp2_with fail
        go_roundg (n + 64 - (i + 1))
        case measure => omega
        case rel => exact ⟨i + 1, by omega, by go_num, rfl, by rw [← HST.out, HLI.out]; exact HOWN.out.setCell1 rfl (by have := HFL.out; omega) ⟨rfl, HXS.out⟩, HBW.out.grown (setCell_grown _ _ _ _) hsz fun b hb => by simp only [Option.some.injEq] at hb; omega⟩
      · have hLi : L[i] = tmark 9 i := by
          have := HLe.out; subst this
          have := HN.out
          rw [List.getElem_append_right (by omega)]
          simp only [← this]
          exact marksT_at n i (by omega) _
        have HLI := Lib.hid hLi
        have hd2 : n ≤ i := by omega
        have htm : (tmark 9 i).size ≤ maxLen := by have := tmark_size 9 i (by omega) (by omega); simp only [maxLen]; omega
        have HTM := Lib.hid htm
        clear hLi hin2 htm
        go_wp2_with fail
        refine (text9 i wr (by omega) (Lib.hid (hT.out.below HBW.out))).mono ?_
        rintro e w2 ⟨rfl, hb2⟩
        have HOWN2 := Lib.hid (HOWN.out.far hb2)
        have HBW2 := Lib.hid (HBW.out.trans (hb2.mono hsz))
        have hsz2 := HBW2.out.size
        clear hb2
        obtain ⟨g', c', u, he, -, -, hcu, hfr, -, -⟩ := HOWN2.out.cellAt rfl (k := i) (by have := HFL.out; omega)
        simp only [Value.slice.injEq, Option.some.injEq, Addr.mk.injEq] at he
        obtain ⟨⟨rfl, -⟩, -, -⟩ := he
        go_wp2_with fail
        go_roundg (n + 64 - (i + 1))
        case measure => omega
        case rel => exact ⟨i + 1, by omega, by go_num, rfl, by rw [← HST.out, HLI.out]; exact HOWN2.out.setCell1 rfl (by have := HFL.out; omega) ⟨rfl, HTM.out⟩, HBW2.out.grown (setCell_grown _ _ _ _) hsz2 fun b hb => by simp only [Option.some.injEq] at hb; omega⟩
    · obtain rfl : i = n + 64 := by omega
      have hown' : Own Rep.str 9 wr w.heap.size nob (.slice (some ⟨w.heap.size, 0, none⟩) (n + 64) (n + 64)) (l ++ marksT n) := by
        have h := HLl.out
        rw [show filling L (⟨#[]⟩ : ByteArray) (n + 64) = L by rw [← h, filling_all], HLe.out] at hown
        exact hown
      have HOWN := Lib.hid hown'
      have HBW := Lib.hid hbw
      clear hown hown' hbw hin
      go_wp2_with fail
      go_ret
      exact ⟨_, rfl, HOWN.out, HBW.out⟩
set_option maxRecDepth 100000 in
set_option maxHeartbeats 4000000 in
theorem spareTexts_any (g n base : Nat) (l : List ByteArray) (w : World) (hn : n = l.length) (hown : Own Rep.str 9 w base nob (.slice (some ⟨g, 0, none⟩) (n + 64) (n + 64)) (l ++ marksT n)) (hb : n ≤ 1099511627712) (hT : Hid (Pow w)) :
    Calls Tryd.prog 16 #[.slice (some ⟨g, 0, none⟩) n (n + 64)] w fun e w' => e = .returned (.bool true) ∧ Below w.heap.size w w' := by
  have hLl : (l ++ marksT n).length = n + 64 := by rw [List.length_append, marksT_len, hn]
  have HN := Lib.hid hn
  have HOWN := Lib.hid hown
  have HLl := Lib.hid hLl
  clear hn hown hLl
  go_enter Tryd.func16, Tryd.ntmps16
  go_wp2_with fail
  go_loopg [4] 64 (fun k iv wr => ∃ i : Nat, n ≤ i ∧ i ≤ n + 64 ∧ iv = .int .i64 i ∧ k = n + 64 - i ∧ Hid (Below w.heap.size w wr))
  case atStart => exact ⟨n, Nat.le_refl _, by omega, rfl, by omega, Lib.hid (Below.refl _ _)⟩
  case round =>
    obtain ⟨i, hi0, hi, rfl, rfl, HB⟩ := hrel
    by_cases hin : i < n + 64
    · have hil : i < (l ++ marksT n).length := by have := HLl.out; omega
      obtain ⟨g', c', u, he, -, hgl, hcu, -, hu, -⟩ := HOWN.out.cellAt rfl (k := i) hil
      simp only [Value.slice.injEq, Option.some.injEq, Addr.mk.injEq] at he
      obtain ⟨⟨rfl, -⟩, -, -⟩ := he
      have hLi : (l ++ marksT n)[i] = tmark 9 i := by
        have := HN.out
        rw [List.getElem_append_right (by omega)]
        simp only [← this]
        exact marksT_at n i (by omega) _
      rw [hLi] at hu
      simp only [Rep.str, List.cons.injEq, and_true] at hu
      obtain ⟨rfl, -⟩ := hu
      have hcw := (HB.out.cell (p := ⟨g, i, none⟩) hgl).trans hcu
      have hin' : (i : Int) < (n : Int) + 64 := by omega
      have hi0' : (0 : Int) ≤ i := Int.natCast_nonneg _
      have hgr : g < wr.heap.size := Nat.lt_of_lt_of_le hgl HB.out.size
      have HK0 : Hid (Below wr.heap.size wr wr.drew ∧ wr.drew.cell? ⟨g, i, none⟩ = some (.string (tmark 9 i))) := Lib.hid ⟨⟨rfl, rfl, rfl, Nat.le_refl _, fun _ _ => rfl⟩, hcw⟩
      have HK : Hid (∀ W W2 : World, (Below wr.heap.size wr W ∧ W.cell? ⟨g, i, none⟩ = some (.string (tmark 9 i))) → Below W.heap.size W W2 → (Below wr.heap.size wr W2 ∧ W2.cell? ⟨g, i, none⟩ = some (.string (tmark 9 i)))) := Lib.hid fun W W2 ⟨a0, a1⟩ hb => ⟨a0.trans (hb.mono a0.size), (hb.cell (World.block_lt_of_cell? W _ a1)).trans a1⟩
      have HC : Hid (∀ W, Below wr.heap.size wr W → Calls Tryd.prog 31 #[.int .i64 9, .int .i64 i] W fun e w' => e = .returned (.string (tmark 9 i)) ∧ Below W.heap.size W w') := Lib.hid fun W hW => text9 i W (by omega) (Lib.hid (hT.out.below (HB.out.trans (hW.mono HB.out.size))))
      generalize tmark 9 i = t at hcw HK0 HK HC hcu
      clear hLi hcu hcw
      go_wp2_with fail
      go_region_held3 (fun W => Below wr.heap.size wr W ∧ W.cell? ⟨g, i, none⟩ = some (.string t)) (first | exact HK0.out | exact HK.out _ _ (by assumption) (by assumption)) (first | (go_at_call 31; refine (HC.out _ (And.left (by assumption))).mono ?_; rintro e w1 ⟨rfl, hb1⟩))
      all_goals
        have hbw : Below wr.heap.size wr w1 := And.left (by assumption)
        have HB2 := Lib.hid (HB.out.trans (hbw.mono HB.out.size))
        clear hbw hb1
        go_wp2_with fail
        go_roundg (n + 64 - (i + 1))
        case measure => omega
        case rel => exact ⟨i + 1, by omega, by omega, by go_num, rfl, HB2⟩
    · obtain rfl : i = n + 64 := by omega
      go_wp2_with fail
      go_ret
      exact ⟨rfl, HB.out⟩
set_option maxRecDepth 100000 in
theorem copyTexts_any (A : Option Addr) (n c : Nat) (l : List ByteArray) (w : World) (S : Blocks) (hn : n = l.length) (hl : Hid (SliceAt Rep.str w S A c l)) (hb : n ≤ 4398046511104) :
    Calls Tryd.prog 17 #[.slice A n c] w fun e w' => ∃ v, e = .returned v ∧ Hid (Own Rep.str 9 w' w.heap.size nob v l) ∧ Below w.heap.size w w' := by
  have HN := Lib.hid hn
  clear hn
  go_enter Tryd.func17, Tryd.ntmps17
  go_wp2_with (at_builtin; refine wpList_append_Own _ rfl (.tmp 4) (.tmp 5) 22 rfl Rep.str w.heap.size 9 16 stTxt nob (.slice none 0 0) [] rfl (Own.nil _ _ _ _) _ _ _ l (by rw [← HN.out]; rfl) hl.out nob (fun _ h => h.elim) (fun _ h => h) (fun _ _ h => h) (by have := HN.out; simp <;> omega) (by have := HN.out; simp <;> omega) (Nat.le_refl _) ?_; intro v3 w3 hown3 hg3 hat3; have HO := Lib.hid hown3; have HB := Lib.hid ((Below.refl w.heap.size w).grown hg3 (Nat.le_refl _) (fun k hk => by cases hk)); clear hown3 hg3 hat3)
  go_ret
  exact ⟨_, rfl, HO, HB.out⟩
end Go.Proofs.YtmjagjcaepbklaaDoor
