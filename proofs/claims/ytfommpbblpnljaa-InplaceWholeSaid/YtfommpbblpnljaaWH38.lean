/- Texts that lead to the claim, one behind the other: Bytes handed in with marks behind them: the walks of galleyref00.WideBytes and SpareBytes. Condition: room. -/
import Derived.Test.YtfommpbblpnljaaProg
import Derived.Test.YtfommpbblpnljaaWH37
import Derived.Test.YtfommpbblpnljaaWH6
import Derived.Laws.MakeOwn
import Derived.WalkKit
import Derived.WalkSpells
import Derived.Deep.LoopGhost
import Derived.Deep.QuietTactic
import Derived.BigQuiet
import Derived.Lib.Hide
namespace Go.Proofs.Ytfommpbblpnljaa
open Go.RowKit

def wmark (i : Nat) : UInt8 := UInt8.ofNat (279 + 7 * i + 3)
theorem wmark_int (i : Nat) : (279 + 7 * (i : Int) + 3) % 256 = ((wmark i).toNat : Int) := by simp [wmark]; omega
def marksW (n : Nat) : List UInt8 := (List.range 64).map fun j => wmark (n + j)
theorem marksW_len (n : Nat) : (marksW n).length = 64 := by simp [marksW]
theorem marksW_at (n i : Nat) (h : n ≤ i) (h' : i - n < (marksW n).length) : (marksW n)[i - n] = wmark i := by
  simp only [marksW, List.getElem_map, List.getElem_range]
  congr 1
  omega
/-- Bytes just made. -/
theorem Own.zeros (w : World) (n base : Nat) (hb : base ≤ w.heap.size) (hn : n ≤ maxLen) : Own Rep.byte 5 (w.alloc (.cells (madeCells #[.int .u8 0] n) 5)) base nob (.slice (some ⟨w.heap.size, 0, none⟩) n n) (List.replicate n 0) := by
  refine ⟨(madeCells #[.int .u8 0] n).toList, ⟨by simp [size_madeCells, Rep.byte], .inr ⟨w.heap.size, n, _, by simp, hb, heap_alloc_new w _, by simp, hn, by rw [size_madeCells]; exact (Nat.mul_one n).symm, ?_⟩⟩, fun _ h => h.elim, fun v hv => ?_, fun i hi => ?_⟩
  · rw [List.take_of_length_le (by simp [size_madeCells, Rep.byte])]
  · obtain ⟨j, hj, rfl⟩ := List.getElem_of_mem hv
    simp [madeCells, Value.oneCell', Nat.mod_one]
  · simp only [List.length_replicate] at hi
    show _ = [_]
    rw [show i * Rep.byte.n = i from Nat.mul_one i, show Rep.byte.n = 1 from rfl, List.drop_eq_getElem_cons (by simpa [size_madeCells] using hi)]
    simp [madeCells, Nat.mod_one]
theorem info_u8 : (Try.prog.info? 5).map (fun i => (i.zero, i.size, i.bytes)) = some (some (.int .u8 0), 1, 1) := by kernel_rfl
theorem run_make_bytes (u : World) (n : Nat) (hn : n ≤ 140737488355328) : (Instr.makeSlice 32 (.int .i64 (n : Int)) (.int .i64 (n : Int))).run Try.prog u = .ok (.slice (some ⟨u.heap.size, 0, none⟩) n n) (u.alloc (.cells (madeCells #[.int .u8 0] n) 5)) := by
  obtain ⟨i0, hi, hz0, hz1, hz2⟩ := info_parts info_u8
  have h := run_make (P := Try.prog) u 32 5 i0 (.int .u8 0) Try.underlying32 hi hz0 .i64 .i64 (n : Int) (n : Int) (by omega) (Int.le_refl _) (by rw [hz2]; omega) (by omega)
  have e : ((n : Int)).toNat = n := by omega
  rw [e] at h
  simpa [hz1, Value.cells] using h
/-- What WideBytes leaves. -/
def WideB (w : World) (n : Nat) (l : List UInt8) (e : Ending) (w' : World) : Prop :=
  ∃ g, e = .returned (.slice (some ⟨g, 0, none⟩) n (n + 64)) ∧ Own Rep.byte 5 w' w.heap.size nob (.slice (some ⟨g, 0, none⟩) (n + 64) (n + 64)) (l ++ marksW n) ∧ Below w.heap.size w w'
set_option maxRecDepth 100000 in
set_option maxHeartbeats 4000000 in
theorem wideBytes_any (A : Option Addr) (n c : Nat) (l : List UInt8) (w : World) (S : Blocks) (hn : n = l.length) (hl : SliceAt Rep.byte w S A c l) (hS : ∀ b, S b → b < w.heap.size) (hb : n ≤ 140737488351232) :
    Calls Try.prog 67 #[.slice A n c] w (WideB w n l) := by
  have hmk := fun u => run_make_bytes u (n + 64) (by omega)
  rw [show ((n + 64 : Nat) : Int) = (n : Int) + 64 by omega] at hmk
  have hnc : n ≤ c := by rw [hn]; exact hl.len
  have hc := hl.max
  have HN := Lib.hid hn
  have HL := Lib.hid hl
  have HS := Lib.hid hS
  obtain ⟨L, hL⟩ : ∃ L, L = l ++ marksW n := ⟨_, rfl⟩
  have hLl : L.length = n + 64 := by rw [hL, List.length_append, marksW_len, hn]
  have HLe := Lib.hid hL
  have HLl := Lib.hid hLl
  have hown0 := Own.zeros w (n + 64) w.heap.size (Nat.le_refl _) (by simp only [maxLen]; omega)
  rw [show List.replicate (n + 64) (0 : UInt8) = filling L 0 0 by rw [filling_zero, hLl]] at hown0
  have HOWN0 := Lib.hid hown0
  clear hn hl hS hL hLl hown0
  go_enter Try.func67, Try.ntmps67
  go_wp2_with fail
  go_loopg [4] (n + 64) (fun k iv wr => ∃ i : Nat, i ≤ n + 64 ∧ iv = .int .i64 i ∧ k = n + 64 - i ∧ Own Rep.byte 5 wr w.heap.size nob (.slice (some ⟨w.heap.size, 0, none⟩) (n + 64) (n + 64)) (filling L 0 i) ∧ Below w.heap.size w wr)
  case atStart => exact ⟨0, Nat.zero_le _, rfl, rfl, HOWN0.out, (Below.refl _ _).alloc (Nat.le_refl _) _⟩
  case round =>
    obtain ⟨i, hi, rfl, rfl, hown, hbw⟩ := hrel
    by_cases hin : i < n + 64
    · have hil : i < L.length := by have := HLl.out; omega
      have hfl : (filling L 0 i).length = n + 64 := by rw [filling_len _ _ (by omega)]; exact HLl.out
      have hst := filling_step L 0 hil
      obtain ⟨FL, hFL⟩ : ∃ FL, FL = filling L 0 i := ⟨_, rfl⟩
      rw [← hFL] at hown hst hfl
      obtain ⟨g', c', u, he, -, -, hcu, hfr, -, -⟩ := hown.cellAt rfl (k := i) (by omega)
      simp only [Value.slice.injEq, Option.some.injEq, Addr.mk.injEq] at he
      obtain ⟨⟨rfl, -⟩, -, -⟩ := he
      have HST := Lib.hid hst
      have HFL := Lib.hid hfl
      have HOWN := Lib.hid hown
      have HBW := Lib.hid hbw
      have hsz := hbw.size
      have hii : i ≤ 9223372036854775807 := by omega
      clear hst hfl hFL hown hbw
      by_cases hin2 : i < n
      · have hil2 : i < l.length := by have := HN.out; omega
        obtain ⟨g, o, rfl, hSg, hcx0⟩ := HL.out.byte hil2
        have hcx := (HBW.out.cell (p := ⟨g, o + i, none⟩) (HS.out g hSg)).trans hcx0
        have hLi : L[i] = l[i] := by
          have := HLe.out; subst this
          rw [List.getElem_append_left hil2]
        obtain ⟨x, hx⟩ : ∃ x, x = l[i] := ⟨_, rfl⟩
        rw [← hx] at hcx hLi
        have HLI := Lib.hid hLi
        clear hx hcx0 hLi
        go_wp2_with fail
        go_roundg (n + 64 - (i + 1))
        case measure => omega
        case rel => exact ⟨i + 1, by omega, by go_num, rfl, by rw [← HST.out, HLI.out]; exact HOWN.out.setCell1 rfl (by have := HFL.out; omega) rfl, HBW.out.grown (setCell_grown _ _ _ _) hsz fun b hb => by simp only [Option.some.injEq] at hb; omega⟩
      · have hLi : L[i] = wmark i := by
          have := HLe.out; subst this
          have := HN.out
          rw [List.getElem_append_right (by omega)]
          simp only [← this]
          exact marksW_at n i (by omega) _
        have HLI := Lib.hid hLi
        have hd2 : n ≤ i := by omega
        clear hLi hin2
        go_wp2_with fail
        go_roundg (n + 64 - (i + 1))
        case measure => omega
        case rel => exact ⟨i + 1, by omega, by go_num, rfl, by rw [← HST.out, HLI.out]; exact HOWN.out.setCell1 rfl (by have := HFL.out; omega) (by show _ = [_]; rw [wmark_int]), HBW.out.grown (setCell_grown _ _ _ _) hsz fun b hb => by simp only [Option.some.injEq] at hb; omega⟩
    · obtain rfl : i = n + 64 := by omega
      have hown' : Own Rep.byte 5 wr w.heap.size nob (.slice (some ⟨w.heap.size, 0, none⟩) (n + 64) (n + 64)) (l ++ marksW n) := by
        have h := HLl.out
        rw [show filling L (0 : UInt8) (n + 64) = L by rw [← h, filling_all], HLe.out] at hown
        exact hown
      have HOWN := Lib.hid hown'
      have HBW := Lib.hid hbw
      clear hown hown' hbw hin
      go_wp2_with fail
      go_ret
      exact ⟨_, rfl, HOWN.out, HBW.out⟩
set_option maxRecDepth 100000 in
set_option maxHeartbeats 4000000 in
theorem spareBytes_any (g n base : Nat) (l : List UInt8) (w : World) (hn : n = l.length) (hown : Own Rep.byte 5 w base nob (.slice (some ⟨g, 0, none⟩) (n + 64) (n + 64)) (l ++ marksW n)) (hb : n ≤ 140737488351232) :
    Calls Try.prog 68 #[.slice (some ⟨g, 0, none⟩) n (n + 64)] w fun e w' => e = .returned (.bool true) ∧ ∃ q, w' = w.drewN q := by
  have hLl : (l ++ marksW n).length = n + 64 := by rw [List.length_append, marksW_len, hn]
  have HN := Lib.hid hn
  have HOWN := Lib.hid hown
  have HLl := Lib.hid hLl
  clear hn hown hLl
  go_enter Try.func68, Try.ntmps68
  go_wp2_with fail
  go_loopg [4] 64 (fun k iv wr => ∃ i : Nat, n ≤ i ∧ i ≤ n + 64 ∧ iv = .int .i64 i ∧ k = n + 64 - i ∧ wr = w)
  case atStart => exact ⟨n, Nat.le_refl _, by omega, rfl, by omega, rfl⟩
  case round =>
    obtain ⟨i, hi0, hi, rfl, rfl, rfl⟩ := hrel
    by_cases hin : i < n + 64
    · have hil : i < (l ++ marksW n).length := by have := HLl.out; omega
      obtain ⟨g', c', u, he, -, -, hcu, -, hu, -⟩ := HOWN.out.cellAt rfl (k := i) hil
      simp only [Value.slice.injEq, Option.some.injEq, Addr.mk.injEq] at he
      obtain ⟨⟨rfl, -⟩, -, -⟩ := he
      have hLi : (l ++ marksW n)[i] = wmark i := by
        have := HN.out
        rw [List.getElem_append_right (by omega)]
        simp only [← this]
        exact marksW_at n i (by omega) _
      rw [hLi] at hu
      simp only [Rep.byte, List.cons.injEq, and_true] at hu
      rw [hu, ← wmark_int] at hcu
      clear hu hLi
      go_wp2_with fail
      go_roundg (n + 64 - (i + 1))
      case measure => omega
      case rel => exact ⟨i + 1, by omega, by omega, by go_num, rfl, rfl⟩
    · obtain rfl : i = n + 64 := by omega
      go_wp2_with fail
      go_ret
      exact ⟨rfl, 0, rfl⟩
end Go.Proofs.Ytfommpbblpnljaa
