/- Parts handed in with marks behind them: the walks of galleyref00's WideParts and SpareParts. Conditions: room; the table of powers of ten lies as it is laid. -/
import Derived.Test.YtmjagjcaepbklaaDoorTexts
import Derived.Test.YtmjagjcaepbklaaDoorEqParts
import Derived.Test.YtmjagjcaepbklaaDoorCopyOwn
import Derived.Deep.RegionWith
namespace Go.Proofs.YtmjagjcaepbklaaDoor
open Go.RowKit

def Prt.z : Opts.Prt := (false, ⟨#[]⟩)
theorem prt_is {w : World} {S : Blocks} (a : Bool) (b : ByteArray) (h : b.size ≤ maxLen) : Rep.prt.is w S [.bool a, .string b] (a, b) := ⟨[_], [_], rfl, rfl, rfl, h⟩
def marksPt (n : Nat) : List Opts.Prt := (List.range 64).map fun j => (false, tmark 9 (n + j))
theorem marksPt_len (n : Nat) : (marksPt n).length = 64 := by simp [marksPt]
theorem marksPt_at (n i : Nat) (h : n ≤ i) (h' : i - n < (marksPt n).length) : (marksPt n)[i - n] = (false, tmark 9 i) := by
  simp only [marksPt, List.getElem_map, List.getElem_range]
  congr 2
  omega
theorem info_prt : (Tryd.prog.info? 38).map (fun i => (i.zero, i.size, i.bytes)) = some (some (.agg #[.bool false, .string ⟨#[]⟩]), 2, 24) := by kernel_rfl
theorem info_prt2 : (Tryd.prog.info? 38).map (·.size) = some Rep.prt.n := by kernel_rfl
theorem run_make_prts (u : World) (n : Nat) (hn : n ≤ 1099511627776) : (Instr.makeSlice 23 (.int .i64 (n : Int)) (.int .i64 (n : Int))).run Tryd.prog u = .ok (.slice (some ⟨u.heap.size, 0, none⟩) n n) (u.alloc (.cells (madeCells #[.bool false, .string ⟨#[]⟩] (n * 2)) 38)) := by
  obtain ⟨i0, hi, hz0, hz1, hz2⟩ := info_parts info_prt
  have h := run_make (P := Tryd.prog) u 23 38 i0 _ Tryd.underlying23 hi hz0 .i64 .i64 (n : Int) (n : Int) (by omega) (Int.le_refl _) (by rw [hz2]; omega) (by omega)
  have e : ((n : Int)).toNat = n := by omega
  rw [e] at h
  simpa [hz1, Value.cells] using h
/-- What WideParts leaves. -/
def WidePt (w : World) (n : Nat) (l : List Opts.Prt) (e : Ending) (w' : World) : Prop :=
  ∃ g, e = .returned (.slice (some ⟨g, 0, none⟩) n (n + 64)) ∧ Own Rep.prt 38 w' w.heap.size nob (.slice (some ⟨g, 0, none⟩) (n + 64) (n + 64)) (l ++ marksPt n) ∧ Below w.heap.size w w'
set_option maxRecDepth 100000 in
set_option maxHeartbeats 4000000 in
theorem wideParts_any (A : Option Addr) (n c : Nat) (l : List Opts.Prt) (w : World) (S : Blocks) (hn : n = l.length) (hl : SliceAt Rep.prt w S A c l) (hS : ∀ b, S b → b < w.heap.size) (hb : n ≤ 2147483647) (hT : Hid (Pow w)) :
    Calls Tryd.prog 54 #[.slice A n c] w (WidePt w n l) := by
  have hmk := fun u => run_make_prts u (n + 64) (by omega)
  rw [show ((n + 64 : Nat) : Int) = (n : Int) + 64 by omega] at hmk
  have hnc : n ≤ c := by rw [hn]; exact hl.len
  have hc := hl.max
  have HN := Lib.hid hn
  have HL := Lib.hid hl
  have HS := Lib.hid hS
  obtain ⟨L, hL⟩ : ∃ L, L = l ++ marksPt n := ⟨_, rfl⟩
  have hLl : L.length = n + 64 := by rw [hL, List.length_append, marksPt_len, hn]
  have HLe := Lib.hid hL
  have HLl := Lib.hid hLl
  have hown0 := Own.madeN Rep.prt 38 w (n + 64) w.heap.size #[.bool false, .string ⟨#[]⟩] Prt.z (fun _ => prt_is _ _ (by decide)) (by decide) (Nat.le_refl _) (by simp only [maxLen]; omega)
  rw [show List.replicate (n + 64) Prt.z = filling L Prt.z 0 by rw [filling_zero, hLl]] at hown0
  have HOWN0 := Lib.hid hown0
  clear hn hl hS hL hLl hown0
  go_enter Tryd.func54, Tryd.ntmps54
  go_wp2_with fail
  go_loopg [4] (n + 64) (fun k iv wr => ∃ i : Nat, i ≤ n + 64 ∧ iv = .int .i64 i ∧ k = n + 64 - i ∧ Own Rep.prt 38 wr w.heap.size nob (.slice (some ⟨w.heap.size, 0, none⟩) (n + 64) (n + 64)) (filling L Prt.z i) ∧ Below w.heap.size w wr)
  case atStart => exact ⟨0, Nat.zero_le _, rfl, rfl, HOWN0.out, (Below.refl _ _).alloc (Nat.le_refl _) _⟩
  case round =>
    obtain ⟨i, hi, rfl, rfl, hown, hbw⟩ := hrel
    by_cases hin : i < n + 64
    · have hil : i < L.length := by have := HLl.out; omega
      have hfl : (filling L Prt.z i).length = n + 64 := by rw [filling_len _ _ (by omega)]; exact HLl.out
      have hst := filling_step L Prt.z hil
      obtain ⟨FL, hFL⟩ : ∃ FL, FL = filling L Prt.z i := ⟨_, rfl⟩
      rw [← hFL] at hown hst hfl
      have HST := Lib.hid hst
      have HFL := Lib.hid hfl
      have HOWN := Lib.hid hown
      have HBW := Lib.hid hbw
      have hsz := hbw.size
      have hii : i ≤ 9223372036854775807 := by omega
      clear hst hfl hFL hown hbw
      by_cases hin2 : i < n
      · have hil2 : i < l.length := by have := HN.out; omega
        obtain ⟨g, o, rfl, hSg, k0', k1', hxs⟩ := HL.out.prts hil2
        have k0 := (HBW.out.cell (p := ⟨g, o + i * 2, none⟩) (HS.out g hSg)).trans k0'
        have k1 := (HBW.out.cell (p := ⟨g, o + i * 2 + 1, none⟩) (HS.out g hSg)).trans k1'
        have hLi : L[i] = l[i] := by
          have := HLe.out; subst this
          rw [List.getElem_append_left hil2]
        obtain ⟨⟨x, y⟩, hx⟩ : ∃ x, x = l[i] := ⟨_, rfl⟩
        rw [← hx] at k0 k1 hLi hxs
        have HLI := Lib.hid hLi
        have HXS : Hid (y.size ≤ maxLen) := Lib.hid (by simpa [maxLen] using hxs)
        simp only at k0 k1
        clear hx hLi k0' k1' hxs
        go_wp2_with (refine wpList_store_Own rfl 38 (.tmp 25) (.tmp 24) rfl HOWN.out i (by have := HFL.out; omega) _ rfl (by simp [Rep.prt, Rep.pair, Rep.str, Rep.bool]) _ rfl _ (prt_is _ _ HXS.out) info_prt2 ?_; intro w2 hown2 hg2; have HOWN2 := Lib.hid hown2; have HG2 := Lib.hid hg2; clear hown2 hg2)
        go_roundg (n + 64 - (i + 1))
        case measure => omega
        case rel =>
          refine ⟨i + 1, by omega, by go_num, rfl, by rw [← HST.out, HLI.out]; exact HOWN2.out, HBW.out.grown HG2.out hsz fun b hb => by simp only [Option.some.injEq] at hb; omega⟩
      · have hLi : L[i] = (false, tmark 9 i) := by
          have := HLe.out; subst this
          have := HN.out
          rw [List.getElem_append_right (by omega)]
          simp only [← this]
          exact marksPt_at n i (by omega) _
        have HLI := Lib.hid hLi
        have hd2 : n ≤ i := by omega
        have htm : (tmark 9 i).size ≤ maxLen := by have := tmark_size 9 i (by omega) (by omega); simp only [maxLen]; omega
        have HTM := Lib.hid htm
        clear hLi hin2 htm
        go_wp2_with fail
        refine (text9 i wr (by omega) (Lib.hid (hT.out.below HBW.out))).mono ?_
        rintro e w2 ⟨rfl, hb2⟩
        have HOWN2 := Lib.hid (HOWN.out.far hb2)
        have HBW2 := Lib.hid (HBW.out.trans (hb2.mono hsz))
        have hsz2 := HBW2.out.size
        clear hb2
        go_wp2_with (refine wpList_store_Own rfl 38 (.tmp 31) (.tmp 30) rfl HOWN2.out i (by have := HFL.out; omega) _ rfl (by simp [Rep.prt, Rep.pair, Rep.str, Rep.bool]) _ rfl _ (prt_is _ _ HTM.out) info_prt2 ?_; intro w3 hown3 hg3; have HOWN3 := Lib.hid hown3; have HG3 := Lib.hid hg3; clear hown3 hg3)
        go_roundg (n + 64 - (i + 1))
        case measure => omega
        case rel =>
          refine ⟨i + 1, by omega, by go_num, rfl, by rw [← HST.out, HLI.out]; exact HOWN3.out, HBW2.out.grown HG3.out hsz2 fun b hb => by simp only [Option.some.injEq] at hb; omega⟩
    · obtain rfl : i = n + 64 := by omega
      have hown' : Own Rep.prt 38 wr w.heap.size nob (.slice (some ⟨w.heap.size, 0, none⟩) (n + 64) (n + 64)) (l ++ marksPt n) := by
        have h := HLl.out
        rw [show filling L Prt.z (n + 64) = L by rw [← h, filling_all], HLe.out] at hown
        exact hown
      have HOWN := Lib.hid hown'
      have HBW := Lib.hid hbw
      clear hown hown' hbw hin
      go_wp2_with fail
      go_ret
      exact ⟨_, rfl, HOWN.out, HBW.out⟩
set_option maxRecDepth 100000 in
set_option maxHeartbeats 4000000 in
theorem spareParts_any (g n : Nat) (l : List Opts.Prt) (w : World) (S : Blocks) (hn : n = l.length) (hown : SliceAt Rep.prt w S (some ⟨g, 0, none⟩) (n + 64) (l ++ marksPt n)) (hS : ∀ b, S b → b < w.heap.size) (hb : n ≤ 2147483647) (hT : Hid (Pow w)) :
    Calls Tryd.prog 55 #[.slice (some ⟨g, 0, none⟩) n (n + 64)] w fun e w' => e = .returned (.bool true) ∧ Below w.heap.size w w' := by
  have hLl : (l ++ marksPt n).length = n + 64 := by rw [List.length_append, marksPt_len, hn]
  have HN := Lib.hid hn
  have HOWN := Lib.hid hown
  have HLl := Lib.hid hLl
  have HS := Lib.hid hS
  clear hn hown hLl hS
  go_enter Tryd.func55, Tryd.ntmps55
  go_wp2_with fail
  go_loopg [4] 64 (fun k iv wr => ∃ i : Nat, n ≤ i ∧ i ≤ n + 64 ∧ iv = .int .i64 i ∧ k = n + 64 - i ∧ Hid (Below w.heap.size w wr))
  case atStart => exact ⟨n, Nat.le_refl _, by omega, rfl, by omega, Lib.hid (Below.refl _ _)⟩
  case round =>
    obtain ⟨i, hi0, hi, rfl, rfl, HB⟩ := hrel
    by_cases hin : i < n + 64
    · have hil : i < (l ++ marksPt n).length := by have := HLl.out; omega
      obtain ⟨g', o', he, hSg, k0, k1, -⟩ := HOWN.out.prts hil
      simp only [Option.some.injEq, Addr.mk.injEq] at he
      obtain ⟨rfl, rfl, -⟩ := he
      have hLi : (l ++ marksPt n)[i] = (false, tmark 9 i) := by
        have := HN.out
        rw [List.getElem_append_right (by omega)]
        simp only [← this]
        exact marksPt_at n i (by omega) _
      rw [hLi] at k0 k1
      simp only [Nat.zero_add] at k0 k1
      have hgl := HS.out g hSg
      have HC : Hid (∀ W, Below w.heap.size w W → Calls Tryd.prog 31 #[.int .i64 9, .int .i64 i] W fun e w' => e = .returned (.string (tmark 9 i)) ∧ Below W.heap.size W w') := Lib.hid fun W hW => text9 i W (by omega) (Lib.hid (hT.out.below hW))
      have HF : Hid (∀ W, Below w.heap.size w W → W.cell? ⟨g, i * 2, none⟩ = some (.bool false) ∧ W.cell? ⟨g, i * 2 + 1, none⟩ = some (.string (tmark 9 i))) := Lib.hid fun W hW => ⟨(hW.cell (p := ⟨g, i * 2, none⟩) hgl).trans k0, (hW.cell (p := ⟨g, i * 2 + 1, none⟩) hgl).trans k1⟩
      have HBD : Hid (Below w.heap.size w wr.drew) := Lib.hid ⟨HB.out.os, HB.out.tape, HB.out.output, HB.out.size, HB.out.block⟩
      generalize tmark 9 i = t at k0 k1 HC HF
      clear hLi k0 k1 hgl
      obtain ⟨c0, c1⟩ := HF.out _ HBD.out
      go_wp2_with fail
      go_region_with (first | (go_at_call 31; refine (HC.out wr.drew HBD.out).mono ?_; rintro e w5 ⟨rfl, hb5⟩; have HB5 := Lib.hid (HBD.out.trans (hb5.mono HBD.out.size)); obtain ⟨y0, y1⟩ := HF.out w5 HB5.out; clear hb5))
      all_goals
        clear c0 c1 y0 y1
        go_wp2_with fail
        go_roundg (n + 64 - (i + 1))
        case measure => omega
        case rel => exact ⟨i + 1, by omega, by omega, by go_num, rfl, HB5⟩
    · obtain rfl : i = n + 64 := by omega
      go_wp2_with fail
      go_ret
      exact ⟨rfl, HB.out⟩
end Go.Proofs.YtmjagjcaepbklaaDoor
