/- Texts that lead to the claim, one behind the other: The mark of a place: the walk of galleyref00.num. Condition: room. | A text by its number: the walk of galleyref00.text. Condition: the table of powers of ten. -/
import Derived.Test.YtncpeogkccjmcaaGreatDoorProg
import Derived.WalkKit
import Derived.Deep.QuietTactic
import Derived.Test.YtncpeogkccjmcaaGreatDoorShelf
import Derived.Test.YtncpeogkccjmcaaGreatDoorTK20
import Derived.Test.YtncpeogkccjmcaaGreatDoorTK40
import Derived.Lib.ItoaLen
import Derived.Lib.AppendIntMem
import Derived.Laws.MakeOwn
import Derived.Deep.RegionHeld3
import Derived.WalkSpells
import Derived.Deep.LoopGhost
import Derived.WalkMore
namespace Go.Proofs.YtncpeogkccjmcaaGreatDoor
open Go.RowKit

theorem num_any (a b : Nat) (w : World) (ha : a ≤ 1048576) (hb : b ≤ 2199023255552) : Calls Tryz.prog 100 #[.int .i64 a, .int .i64 b] w fun e w' => e = .returned (.int .i64 (1048576 * (a : Int) + b + 1)) ∧ w = w' := by
  go_enter Tryz.func100, Tryz.ntmps100
  go_wp2
  go_ret
  exact ⟨rfl, rfl⟩
theorem num9 (b : Nat) (w : World) (hb : b ≤ 1099511627776) : Calls Tryz.prog 100 #[.int .i64 9, .int .i64 b] w fun e w' => e = .returned (.int .i64 (9437184 + b + 1)) ∧ w = w' := by
  refine (num_any 9 b w (by omega) (by omega)).mono ?_
  rintro e w' ⟨rfl, rfl⟩
  refine ⟨?_, rfl⟩
  congr 2
theorem quiet_left {P : Program} {f : FuncId} {args : Array Value} {w : World} {n : Nat} {v : Value}
    (h : Calls P f args (w.drewN n) fun e w' => e = .returned v ∧ w.drewN n = w') : Calls P f args (w.drewN n) fun e w'' => e = .returned v ∧ ∃ m, w'' = w.drewN m :=
  h.mono fun _ _ ⟨he, hm⟩ => ⟨he, n, hm.symm⟩
end Go.Proofs.YtncpeogkccjmcaaGreatDoor
namespace Go.Proofs.YtncpeogkccjmcaaGreatDoor
open Go.RowKit

theorem stTxt : SliceType Tryz.prog 41 9 1 16 := SliceType.mk' (z := .string ⟨#[]⟩) Tryz.underlying41 (by kernel_rfl) rfl (by omega)
/-- The table of powers of ten lies as it is laid. -/
def Pow (w : World) : Prop := Lib.TabIs Tryz.prog w "internal/strconv.uint64pow10" .u64 Lib.pow10Tab
theorem Pow.below {w w' : World} (h : Pow w) (hb : Below w.heap.size w w') : Pow w' := by
  unfold Pow Lib.TabIs World.var? at h ⊢
  cases hg : Tryz.prog.globalNamed "internal/strconv.uint64pow10" with
  | none => rw [hg] at h; cases h
  | some g =>
    rw [hg] at h
    simp only [Option.bind_some] at h ⊢
    cases hc : w.heap[g]? with
    | none => rw [hc] at h; cases h
    | some o =>
      rw [hb.block g (Array.getElem?_eq_some_iff.1 hc).1]
      exact h
/-- The mark of a place of a list. -/
def tmark (n i : Nat) : ByteArray := ⟨#[33]⟩ ++ ⟨(Lib.itoa (1048576 * (n : Int) + i + 1)).toArray⟩
theorem tmark_size (n i : Nat) (hn : n ≤ 1048576) (hi : i ≤ 2199023255552) : (tmark n i).size ≤ 22 := by
  have := Lib.itoa_length_le (1048576 * (n : Int) + i + 1) (by omega) (by omega)
  unfold tmark
  rw [ByteArray.size_append]
  show 1 + (Lib.itoa (1048576 * (n : Int) + i + 1)).toArray.size ≤ 22
  rw [List.size_toArray]
  omega
set_option maxRecDepth 100000 in
theorem text_any (n i : Nat) (w : World) (hn : n ≤ 1048576) (hi : i ≤ 2199023255552) (hT : Hid (Pow w)) : Calls Tryz.prog 101 #[.int .i64 n, .int .i64 i] w fun e w' => e = .returned (.string (tmark n i)) ∧ Below w.heap.size w w' := by
  have hm := tmark_size n i hn hi
  have hl := Lib.itoa_length_le (1048576 * (n : Int) + i + 1) (by omega) (by omega)
  have HI := Lib.hid (Tryz.strconv_Itoa (1048576 * (n : Int) + i + 1) (by omega) (by omega) w hT.out)
  obtain ⟨t, ht⟩ : ∃ t : ByteArray, t = ⟨(Lib.itoa (1048576 * (n : Int) + i + 1)).toArray⟩ := ⟨_, rfl⟩
  have hts : t.size ≤ 21 := by rw [ht]; show (Lib.itoa (1048576 * (n : Int) + i + 1)).toArray.size ≤ 21; rw [List.size_toArray]; exact hl
  have hc : ¬ ((⟨#[33]⟩ : ByteArray).size + t.size > 9223372036854775807) := by have : (⟨#[33]⟩ : ByteArray).size = 1 := rfl; omega
  rw [← ht] at HI
  have HT := Lib.hid ht
  clear ht hl hm
  go_enter Tryz.func101, Tryz.ntmps101
  go_wp2_with fail
  refine (num_any n i _ hn hi).mono ?_
  rintro e w' ⟨rfl, rfl⟩
  go_wp2_with fail
  refine HI.out.mono ?_
  rintro e w' ⟨rfl, k, os, rfl⟩
  have HB := Lib.hid (Lib.below_grow w.heap.size w (Nat.le_refl _) k os)
  generalize Go.Sort.grow (w.drewN k) os = w2 at HB ⊢
  go_wp2_with fail
  go_ret
  exact ⟨by rw [HT.out]; rfl, HB.out⟩
theorem text9 (i : Nat) (w : World) (hi : i ≤ 1099511627776) (hT : Hid (Pow w)) : Calls Tryz.prog 101 #[.int .i64 9, .int .i64 i] w fun e w' => e = .returned (.string (tmark 9 i)) ∧ Below w.heap.size w w' :=
  text_any 9 i w (by omega) (by omega) hT
def marksT (n : Nat) : List ByteArray := (List.range 64).map fun j => tmark 9 (n + j)
theorem marksT_len (n : Nat) : (marksT n).length = 64 := by simp [marksT]
theorem marksT_at (n i : Nat) (h : n ≤ i) (h' : i - n < (marksT n).length) : (marksT n)[i - n] = tmark 9 i := by
  simp only [marksT, List.getElem_map, List.getElem_range]
  congr 1
  omega
end Go.Proofs.YtncpeogkccjmcaaGreatDoor
