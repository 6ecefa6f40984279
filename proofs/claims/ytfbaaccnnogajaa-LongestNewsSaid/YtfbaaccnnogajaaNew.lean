/- A search made: the walk of longest.New. Condition: the instructions are read in memory that is there. -/
import Derived.Test.YtfbaaccnnogajaaProg
import Derived.Test.YtfbaaccnnogajaaShaped
import Derived.Test.YtfbaaccnnogajaaFind
namespace Go.Proofs.Ytfbaaccnnogajaa
open Go.RowKit

theorem stInt16s : SliceType Try.prog 35 36 1 2 := SliceType.mk' (z := .int .i16 0) Try.underlying35 (by kernel_rfl) rfl (by omega)
theorem info_i16 : (Try.prog.info? 36).map (fun i => (i.zero, i.size, i.bytes)) = some (some (.int .i16 0), 1, 2) := by kernel_rfl
theorem info_instr : (Try.prog.info? 64).map (fun i => (i.zero, i.size, i.bytes)) = some (some (.agg #[.int .i8 0, .int .u64 0, .int .u64 0, .int .u64 0, .int .u64 0, .int .i64 0, .int .i64 0]), 7, 56) := by kernel_rfl
theorem run_make_i16s (u : World) (n : Nat) (hn : n ≤ 1099511627776) : (Instr.makeSlice 35 (.int .i64 (n : Int)) (.int .i64 (n : Int))).run Try.prog u = .ok (.slice (some ⟨u.heap.size, 0, none⟩) n n) (u.alloc (.cells (madeCells #[.int .i16 0] n) 36)) := by
  obtain ⟨i0, hi, hz0, hz1, hz2⟩ := info_parts info_i16
  have h := run_make (P := Try.prog) u 35 36 i0 (.int .i16 0) Try.underlying35 hi hz0 .i64 .i64 (n : Int) (n : Int) (by omega) (Int.le_refl _) (by rw [hz2]; omega) (by omega)
  have e : ((n : Int)).toNat = n := by omega
  rw [e] at h
  simpa [hz1, Value.cells] using h
theorem run_make_instrs (u : World) (n : Nat) (hn : n ≤ 1099511627776) : (Instr.makeSlice 22 (.int .i64 (n : Int)) (.int .i64 (n : Int))).run Try.prog u = .ok (.slice (some ⟨u.heap.size, 0, none⟩) n n) (u.alloc (.cells (madeCells #[.int .i8 0, .int .u64 0, .int .u64 0, .int .u64 0, .int .u64 0, .int .i64 0, .int .i64 0] (n * 7)) 64)) := by
  obtain ⟨i0, hi, hz0, hz1, hz2⟩ := info_parts info_instr
  have h := run_make (P := Try.prog) u 22 64 i0 _ Try.underlying22 hi hz0 .i64 .i64 (n : Int) (n : Int) (by omega) (Int.le_refl _) (by rw [hz2]; omega) (by omega)
  have e : ((n : Int)).toNat = n := by omega
  rw [e] at h
  simpa [hz1, Value.cells] using h
def Instr.zero : Instr := ⟨0, ⟨0, 0, 0, 0⟩, 0, 0⟩
/-- A search's block and rows, just made. -/
structure Made (w wc : World) (gs gm gt n : Nat) : Prop where
  blk : Blk wc gs (.slice (some ⟨gm, 0, none⟩) n n) (.slice (some ⟨gt, 0, none⟩) n n) 0 (.slice none 0 0) (.slice none 0 0) (.slice none 0 0) 0
  m : Own Rep.instr 64 wc w.heap.size nob (.slice (some ⟨gm, 0, none⟩) n n) (List.replicate n Instr.zero)
  t : Own (Rep.int .i16) 36 wc w.heap.size nob (.slice (some ⟨gt, 0, none⟩) n n) (List.replicate n 0)
  hB : w.heap.size ≤ gs
  below : Below w.heap.size w wc
  ne : gm ≠ gs
  ne2 : gt ≠ gm
abbrev icz : Array Value := #[.int .i8 0, .int .u64 0, .int .u64 0, .int .u64 0, .int .u64 0, .int .i64 0, .int .i64 0]
theorem icz_is (w : World) : Rep.instr.is w nob icz.toList Instr.zero := Rep.instr_is.2 ⟨rfl, rfl, rfl, rfl, rfl, rfl, rfl, rfl⟩
abbrev sblk (gm gt n : Nat) : Obj := .cells #[.slice (some ⟨gm, 0, none⟩) n n, .slice (some ⟨gt, 0, none⟩) n n, .int .i16 0, .slice none 0 0, .slice none 0 0, .slice none 0 0, .int .i64 0] 40
theorem Made.drew {w wc : World} {gs gm gt n : Nat} (h : Made w wc gs gm gt n) : Made w wc.drew gs gm gt n := by
  have ho : Only nob wc wc.drew := Only.self wc wc.drew rfl rfl rfl rfl _
  exact ⟨h.blk.only ho fun h => h, h.m.only ho fun _ _ h => h, h.t.only ho fun _ _ h => h, h.hB, h.below.drew, h.ne, h.ne2⟩
theorem Made.mk1 {w w1 : World} {n : Nat} (hb : Below w.heap.size w w1) (hn : n ≤ 65540) : Made w (((w1.alloc (.cells (madeCells icz (n * 7)) 64)).alloc (.cells (madeCells #[.int .i16 0] n) 36)).alloc (sblk w1.heap.size (w1.heap.size + 1) n)).drew (w1.heap.size + 1 + 1) w1.heap.size (w1.heap.size + 1) n := by
  refine Made.drew ?_
  have hs := hb.size
  have m1 := Own.madeN Rep.instr 64 w1 n w.heap.size icz Instr.zero icz_is (by decide) hs (by simp only [maxLen]; omega)
  have m2 := Own.made (Rep.int .i16) 36 (w1.alloc (.cells (madeCells icz (n * 7)) 64)) n w.heap.size (.int .i16 0) 0 (fun _ => ⟨rfl, rfl⟩) rfl (by simp; omega) (by simp only [maxLen]; omega)
  have e1 : (w1.alloc (.cells (madeCells icz (n * 7)) 64)).heap.size = w1.heap.size + 1 := by simp
  rw [e1] at m2
  have h3 := heap_alloc_new ((w1.alloc (.cells (madeCells icz (n * 7)) 64)).alloc (.cells (madeCells #[.int .i16 0] n) 36)) (sblk w1.heap.size (w1.heap.size + 1) n)
  have e2 : ((w1.alloc (.cells (madeCells icz (n * 7)) 64)).alloc (.cells (madeCells #[.int .i16 0] n) 36)).heap.size = w1.heap.size + 1 + 1 := by simp
  rw [e2] at h3
  exact ⟨h3, (m1.alloc _).alloc _, m2.alloc _, by omega, ((hb.alloc hs _).alloc (by simp; omega) _).alloc (by simp; omega) _, by omega, by omega⟩
theorem Made.mk2 {w w1 : World} {n : Nat} (hb : Below w.heap.size w w1) (hn : n ≤ 65540) : Made w (((w1.alloc (.cells (madeCells #[.int .i16 0] n) 36)).alloc (.cells (madeCells icz (n * 7)) 64)).alloc (sblk (w1.heap.size + 1) w1.heap.size n)).drew (w1.heap.size + 1 + 1) (w1.heap.size + 1) w1.heap.size n := by
  refine Made.drew ?_
  have hs := hb.size
  have m1 := Own.made (Rep.int .i16) 36 w1 n w.heap.size (.int .i16 0) 0 (fun _ => ⟨rfl, rfl⟩) rfl hs (by simp only [maxLen]; omega)
  have m2 := Own.madeN Rep.instr 64 (w1.alloc (.cells (madeCells #[.int .i16 0] n) 36)) n w.heap.size icz Instr.zero icz_is (by decide) (by simp; omega) (by simp only [maxLen]; omega)
  have e1 : (w1.alloc (.cells (madeCells #[.int .i16 0] n) 36)).heap.size = w1.heap.size + 1 := by simp
  rw [e1] at m2
  have h3 := heap_alloc_new ((w1.alloc (.cells (madeCells #[.int .i16 0] n) 36)).alloc (.cells (madeCells icz (n * 7)) 64)) (sblk (w1.heap.size + 1) w1.heap.size n)
  have e2 : ((w1.alloc (.cells (madeCells #[.int .i16 0] n) 36)).alloc (.cells (madeCells icz (n * 7)) 64)).heap.size = w1.heap.size + 1 + 1 := by simp
  rw [e2] at h3
  exact ⟨h3, m2.alloc _, (m1.alloc _).alloc _, by omega, ((hb.alloc hs _).alloc (by simp; omega) _).alloc (by simp; omega) _, by omega, by omega⟩
/-- What New leaves of a well shaped machine. -/
def NewOk (w : World) (M : List Instr) (e : Ending) (w' : World) : Prop :=
  ∃ gs F, e = .returned (.tuple #[.pointer (some ⟨gs, 0, none⟩), .int .i64 0]) ∧ Srch w' w.heap.size gs M F 0 [] ∧ Below w.heap.size w w'
theorem new_no (M : List Instr) (A : Option Addr) (n c : Nat) (w : World) (S : Blocks) (hm : SliceAt Rep.instr w S A c M) (hS : ∀ b, S b → b < w.heap.size) (hnM : n = M.length) (hM : ¬ MShaped M) :
    Calls Try.prog 11 #[.slice A n c] w fun e w' => e = .returned (.tuple #[.pointer none, .int .i64 49]) ∧ Below w.heap.size w w' := by
  have hsh := shaped_any M A n c w S hm hS hnM
  rw [decide_eq_false hM] at hsh
  have HSH := Lib.hid hsh
  clear hsh hm hnM hS hM
  go_enter Try.func11, Try.ntmps11
  go_wp2_with (go_at_call 28; refine HSH.out.mono ?_; rintro e w1 ⟨rfl, hb1⟩)
  go_ret2
  exact ⟨rfl, hb1⟩
set_option maxRecDepth 100000 in
set_option maxHeartbeats 2000000 in
theorem new_ok (M : List Instr) (A : Option Addr) (n c : Nat) (w : World) (S : Blocks) (hm : SliceAt Rep.instr w S A c M) (hS : ∀ b, S b → b < w.heap.size) (hnM : n = M.length) (hM : MShaped M) :
    Calls Try.prog 11 #[.slice A n c] w (NewOk w M) := by
  have hsh := shaped_any M A n c w S hm hS hnM
  have hn : n ≤ 65540 := by have := hM.2.1; omega
  rw [decide_eq_true hM] at hsh
  have hmk1 := fun u => run_make_instrs u n (by omega)
  have hmk2 := fun u => run_make_i16s u n (by omega)
  have HSH := Lib.hid hsh
  have HM := Lib.hid hm
  have HN := Lib.hid hnM
  have HS := Lib.hid hS
  clear hsh hm hnM hS hM
  go_enter Try.func11, Try.ntmps11
  go_upto_region 3 with (go_at_call 28; refine HSH.out.mono ?_; rintro e w1 ⟨rfl, hb1⟩; have HB1 := Lib.hid hb1; clear hb1)
  go_cut [4] from 8 (fun vs wc => ∃ gs gm gt, vs = .pointer (some ⟨gs, 0, none⟩) ∧ Made w wc gs gm gt n)
  case first =>
    refine wp_region_noPanic ?_
    go_region
    all_goals
      refine NoPanic.normal ?_
      go_wp2_with fail
      go_meet
    case rel => exact ⟨_, _, _, rfl, Made.mk1 HB1.out (by omega)⟩
    case rel => exact ⟨_, _, _, rfl, Made.mk2 HB1.out (by omega)⟩
  case rest =>
    obtain ⟨gs, gm, gt, rfl, hmd⟩ := hcut
    have hc0 := hmd.blk.cell 0 _ rfl
    have HMD := Lib.hid hmd
    have htx : Hid (SliceAt Rep.instr wc S A c M) := Lib.hid (HM.out.keep (fun _ h => h) (Same.of_below hmd.below HS.out))
    clear hmd
    go_wp2_with (refine wpList_copy_Own _ rfl (.tmp 19) (.tmp 20) 22 22 rfl Rep.instr w.heap.size 64 56 stInstrs _ _ _ _ HMD.out.m _ _ _ _ htx.out HN.out.symm (fun _ _ h => Rep.instr_is.2 (Rep.instr_is.1 h)) rfl rfl ?_; intro w4 hown4 ho4; have HOWN4 := Lib.hid hown4; have HO4 := Lib.hid ho4; clear hown4 ho4)
    go_ret2
    obtain ⟨h1, h2, h3, h4, h5, h6, h7⟩ := HMD.out
    have hgm : ∀ b, some b = (Value.slice (some ⟨gm, 0, none⟩) n n).ownBlock → b = gm := fun b h => by simpa [Value.ownBlock] using h
    have hN := HN.out
    refine ⟨gs, _, rfl, ⟨.slice (some ⟨gm, 0, none⟩) n n, .slice (some ⟨gt, 0, none⟩) n n, 0, .slice none 0 0, .slice none 0 0, 0, List.replicate n 0, none, 0, [], [], [], ⟨?_, h4, HOWN4.out, ?_, by simp [hN], Own.nil _ _ _ _, rfl, Nat.le_refl _⟩, Own.nil _ _ _ _, Own.nil _ _ _ _, fun x hx => by rw [List.eq_of_mem_replicate hx]; omega, by omega, by omega, fun b hb => by simp [Value.ownBlock] at hb, rfl, rfl⟩, ?_⟩
    · exact h1.only HO4.out fun hb => h6 (hgm gs hb).symm
    · refine h3.only HO4.out fun b hb hb2 => h7 ?_
      simp [Value.ownBlock] at hb
      rw [hb, hgm b hb2]
    · exact h5.trans (HO4.out.below h5.size fun b hb => by rw [hgm b hb]; exact (h2.block_lt (b := gm) rfl).1)
end Go.Proofs.Ytfbaaccnnogajaa
