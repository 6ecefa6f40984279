/- The walk of galleylaw08.placed: a machine, its places moved. Condition: room. -/
import Derived.Test.YtfbaaccnnogajaaProg
import Derived.Test.YtfbaaccnnogajaaLongestBytes
import Derived.Test.YtfbaaccnnogajaaBothPlain
namespace Go.Proofs.Ytfbaaccnnogajaa
open Go.RowKit

theorem wf64 {x : Int} (h0 : 0 ≤ x) (h1 : x ≤ 9223372036854775807) : (Lit.int .i64 x).wf = true := by
  simp [Lit.wf, IntKind.min, IntKind.max, IntKind.signed, IntKind.bits]; omega
set_option maxRecDepth 100000 in
set_option maxHeartbeats 4000000 in
theorem placed_any (A : Option Addr) (n c d : Nat) (M : List Instr) (w : World) (hn : n ≤ 65536) (hd : d ≤ 65537) (hnM : Hid (n = M.length)) (hM : Hid (MShaped M)) (hm : Hid (SliceAt Rep.instr w (under w.heap.size) A c M)) (hnc : n ≤ c) (hc : c ≤ 9223372036854775807) :
    Calls Try.prog 24 #[.slice A n c, .int .i64 d] w fun e w' => ∃ v, e = .returned v ∧ Own Rep.instr 64 w' w.heap.size nob v (M.map (Instr.moved d)) ∧ Below w.heap.size w w' := by
  go_enter Try.func24, Try.ntmps24
  go_wp2_with fail
  go_loopg [5, 6] n (fun k v iv wr => ∃ i : Nat, i ≤ n ∧ iv = .int .i64 i ∧ k = n - i ∧ Own Rep.instr 64 wr w.heap.size nob v ((M.take i).map (Instr.moved d)) ∧ Below w.heap.size w wr)
  case atStart => exact ⟨0, Nat.zero_le _, rfl, rfl, Own.nil _ _ _ _, Below.refl _ _⟩
  case round =>
    obtain ⟨i, hi, rfl, rfl, hown, hbw⟩ := hrel
    by_cases hin : i < n
    · have hil : i < M.length := by have := hnM.out; omega
      obtain ⟨g, o, rfl, hSg, hcs, hok⟩ := instr_at hm.out (Same.of_below hbw (fun _ h => h)) hil
      have htk : (M.take (i + 1)).map (Instr.moved d) = (M.take i).map (Instr.moved d) ++ [M[i].moved d] := by rw [List.take_succ_eq_append_getElem hil, List.map_append]; rfl
      have hlen : ((M.take i).map (Instr.moved d)).length ≤ 65536 := by simp; omega
      obtain ⟨L, hL⟩ : ∃ L, L = (M.take i).map (Instr.moved d) := ⟨_, rfl⟩
      rw [← hL] at hown htk hlen
      have hio := hM.out.2.2 i hil
      obtain ⟨x, hx⟩ : ∃ x, x = M[i] := ⟨_, rfl⟩
      rw [← hx] at hcs htk hok hio
      obtain ⟨op, ⟨c0, c1, c2, c3⟩, X, Y⟩ := x
      simp only [icells] at hcs
      obtain ⟨Av, nv, cv, rfl, -, -, -⟩ := hown.form
      have HOK := Lib.hid hok
      have HTK := Lib.hid htk
      have HOWN := Lib.hid hown
      have HBW := Lib.hid hbw
      have hsz := hbw.size
      have k0 := hcs 0 _ rfl
      have k1 := hcs 1 _ rfl
      have k2 := hcs 2 _ rfl
      have k3 := hcs 3 _ rfl
      have k4 := hcs 4 _ rfl
      have k5 := hcs 5 _ rfl
      have k6 := hcs 6 _ rfl
      simp only [Nat.add_zero] at k0 k1 k2 k3 k4 k5 k6
      have hg' : g < wr.heap.size := World.block_lt_of_cell? wr _ k0
      obtain ⟨o1, o2, -, -, x1, x2, x3, x4⟩ := hio
      have hN : M.length ≤ 65540 := hM.out.2.1
      have x5 : X ≤ 65540 := by simp only at x2; omega
      have x6 : Y ≤ 65540 := by simp only at x4; omega
      simp only at x1 x3 o1 o2
      clear htk hown hbw hL hx hok hcs x2 x4
      have W5 : (Lit.int .i64 (X + d)).wf = true := wf64 (by omega) (by omega)
      have W6 : (Lit.int .i64 (Y + d)).wf = true := wf64 (by omega) (by omega)
      by_cases h4 : op = 4
      · subst h4
        have HIS : Hid (∀ W, Rep.instr.is W nob [.int .i8 4, .int .u64 c0, .int .u64 c1, .int .u64 c2, .int .u64 c3, .int .i64 (X + d), .int .i64 Y] (Instr.moved d ⟨4, ⟨c0, c1, c2, c3⟩, X, Y⟩)) := Lib.hid fun W => Rep.instr_is.2 ⟨rfl, HOK.out.op, HOK.out.c0, HOK.out.c1, HOK.out.c2, HOK.out.c3, W5, HOK.out.y⟩
        go_wp2_with (at_builtin; refine wpList_append_Own _ rfl (.tmp 42) (.tmp 44) 22 rfl Rep.instr w.heap.size 64 56 stInstrs nob _ L rfl ((HOWN.out.alloc _).alloc _) _ _ _ [_] rfl (SliceAt.new1At Rep.instr _ _ _ _ _ (HIS.out _) (by simp)) nob (fun _ h => h.elim) (fun _ h => h) (fun _ _ h => Rep.instr_is.2 (Rep.instr_is.1 h)) (by simp; omega) (by simp; omega) (by simp; omega) ?_; intro v2 w2 hown2 hg2 hat2; have HOWN2 := Lib.hid hown2; have HG2 := Lib.hid hg2; clear hown2 hg2 hat2)
        go_roundg (n - (i + 1))
        case measure => omega
        case rel =>
          refine ⟨i + 1, by omega, by go_num, rfl, by rw [HTK.out]; exact HOWN2.out, ?_⟩
          exact below_own ((HBW.out.alloc (by omega) _).alloc (by simp; omega) _) ((HOWN.out.alloc _).alloc _) HG2.out (by simp; omega)
      by_cases h5 : op = 5
      · subst h5
        have HIS : Hid (∀ W, Rep.instr.is W nob [.int .i8 5, .int .u64 c0, .int .u64 c1, .int .u64 c2, .int .u64 c3, .int .i64 (X + d), .int .i64 (Y + d)] (Instr.moved d ⟨5, ⟨c0, c1, c2, c3⟩, X, Y⟩)) := Lib.hid fun W => Rep.instr_is.2 ⟨rfl, HOK.out.op, HOK.out.c0, HOK.out.c1, HOK.out.c2, HOK.out.c3, W5, W6⟩
        go_wp2_with (at_builtin; refine wpList_append_Own _ rfl (.tmp 42) (.tmp 44) 22 rfl Rep.instr w.heap.size 64 56 stInstrs nob _ L rfl ((HOWN.out.alloc _).alloc _) _ _ _ [_] rfl (SliceAt.new1At Rep.instr _ _ _ _ _ (HIS.out _) (by simp)) nob (fun _ h => h.elim) (fun _ h => h) (fun _ _ h => Rep.instr_is.2 (Rep.instr_is.1 h)) (by simp; omega) (by simp; omega) (by simp; omega) ?_; intro v2 w2 hown2 hg2 hat2; have HOWN2 := Lib.hid hown2; have HG2 := Lib.hid hg2; clear hown2 hg2 hat2)
        go_roundg (n - (i + 1))
        case measure => omega
        case rel =>
          refine ⟨i + 1, by omega, by go_num, rfl, by rw [HTK.out]; exact HOWN2.out, ?_⟩
          exact below_own ((HBW.out.alloc (by omega) _).alloc (by simp; omega) _) ((HOWN.out.alloc _).alloc _) HG2.out (by simp; omega)
      rcases (by omega : op = 1 ∨ op = 2 ∨ op = 3 ∨ op = 6) with rfl | rfl | rfl | rfl
      · have HIS : Hid (∀ W, Rep.instr.is W nob [.int .i8 1, .int .u64 c0, .int .u64 c1, .int .u64 c2, .int .u64 c3, .int .i64 X, .int .i64 Y] (Instr.moved d ⟨1, ⟨c0, c1, c2, c3⟩, X, Y⟩)) := Lib.hid fun W => Rep.instr_is.2 ⟨rfl, HOK.out⟩
        clear h4 h5 o1 o2
        go_wp2_with (at_builtin; refine wpList_append_Own _ rfl (.tmp 42) (.tmp 44) 22 rfl Rep.instr w.heap.size 64 56 stInstrs nob _ L rfl ((HOWN.out.alloc _).alloc _) _ _ _ [_] rfl (SliceAt.new1At Rep.instr _ _ _ _ _ (HIS.out _) (by simp)) nob (fun _ h => h.elim) (fun _ h => h) (fun _ _ h => Rep.instr_is.2 (Rep.instr_is.1 h)) (by simp; omega) (by simp; omega) (by simp; omega) ?_; intro v2 w2 hown2 hg2 hat2; have HOWN2 := Lib.hid hown2; have HG2 := Lib.hid hg2; clear hown2 hg2 hat2)
        go_roundg (n - (i + 1))
        case measure => omega
        case rel =>
          refine ⟨i + 1, by omega, by go_num, rfl, by rw [HTK.out]; exact HOWN2.out, ?_⟩
          exact below_own ((HBW.out.alloc (by omega) _).alloc (by simp; omega) _) ((HOWN.out.alloc _).alloc _) HG2.out (by simp; omega)
      · have HIS : Hid (∀ W, Rep.instr.is W nob [.int .i8 2, .int .u64 c0, .int .u64 c1, .int .u64 c2, .int .u64 c3, .int .i64 X, .int .i64 Y] (Instr.moved d ⟨2, ⟨c0, c1, c2, c3⟩, X, Y⟩)) := Lib.hid fun W => Rep.instr_is.2 ⟨rfl, HOK.out⟩
        clear h4 h5 o1 o2
        go_wp2_with (at_builtin; refine wpList_append_Own _ rfl (.tmp 42) (.tmp 44) 22 rfl Rep.instr w.heap.size 64 56 stInstrs nob _ L rfl ((HOWN.out.alloc _).alloc _) _ _ _ [_] rfl (SliceAt.new1At Rep.instr _ _ _ _ _ (HIS.out _) (by simp)) nob (fun _ h => h.elim) (fun _ h => h) (fun _ _ h => Rep.instr_is.2 (Rep.instr_is.1 h)) (by simp; omega) (by simp; omega) (by simp; omega) ?_; intro v2 w2 hown2 hg2 hat2; have HOWN2 := Lib.hid hown2; have HG2 := Lib.hid hg2; clear hown2 hg2 hat2)
        go_roundg (n - (i + 1))
        case measure => omega
        case rel =>
          refine ⟨i + 1, by omega, by go_num, rfl, by rw [HTK.out]; exact HOWN2.out, ?_⟩
          exact below_own ((HBW.out.alloc (by omega) _).alloc (by simp; omega) _) ((HOWN.out.alloc _).alloc _) HG2.out (by simp; omega)
      · have HIS : Hid (∀ W, Rep.instr.is W nob [.int .i8 3, .int .u64 c0, .int .u64 c1, .int .u64 c2, .int .u64 c3, .int .i64 X, .int .i64 Y] (Instr.moved d ⟨3, ⟨c0, c1, c2, c3⟩, X, Y⟩)) := Lib.hid fun W => Rep.instr_is.2 ⟨rfl, HOK.out⟩
        clear h4 h5 o1 o2
        go_wp2_with (at_builtin; refine wpList_append_Own _ rfl (.tmp 42) (.tmp 44) 22 rfl Rep.instr w.heap.size 64 56 stInstrs nob _ L rfl ((HOWN.out.alloc _).alloc _) _ _ _ [_] rfl (SliceAt.new1At Rep.instr _ _ _ _ _ (HIS.out _) (by simp)) nob (fun _ h => h.elim) (fun _ h => h) (fun _ _ h => Rep.instr_is.2 (Rep.instr_is.1 h)) (by simp; omega) (by simp; omega) (by simp; omega) ?_; intro v2 w2 hown2 hg2 hat2; have HOWN2 := Lib.hid hown2; have HG2 := Lib.hid hg2; clear hown2 hg2 hat2)
        go_roundg (n - (i + 1))
        case measure => omega
        case rel =>
          refine ⟨i + 1, by omega, by go_num, rfl, by rw [HTK.out]; exact HOWN2.out, ?_⟩
          exact below_own ((HBW.out.alloc (by omega) _).alloc (by simp; omega) _) ((HOWN.out.alloc _).alloc _) HG2.out (by simp; omega)
      · have HIS : Hid (∀ W, Rep.instr.is W nob [.int .i8 6, .int .u64 c0, .int .u64 c1, .int .u64 c2, .int .u64 c3, .int .i64 X, .int .i64 Y] (Instr.moved d ⟨6, ⟨c0, c1, c2, c3⟩, X, Y⟩)) := Lib.hid fun W => Rep.instr_is.2 ⟨rfl, HOK.out⟩
        clear h4 h5 o1 o2
        go_wp2_with (at_builtin; refine wpList_append_Own _ rfl (.tmp 42) (.tmp 44) 22 rfl Rep.instr w.heap.size 64 56 stInstrs nob _ L rfl ((HOWN.out.alloc _).alloc _) _ _ _ [_] rfl (SliceAt.new1At Rep.instr _ _ _ _ _ (HIS.out _) (by simp)) nob (fun _ h => h.elim) (fun _ h => h) (fun _ _ h => Rep.instr_is.2 (Rep.instr_is.1 h)) (by simp; omega) (by simp; omega) (by simp; omega) ?_; intro v2 w2 hown2 hg2 hat2; have HOWN2 := Lib.hid hown2; have HG2 := Lib.hid hg2; clear hown2 hg2 hat2)
        go_roundg (n - (i + 1))
        case measure => omega
        case rel =>
          refine ⟨i + 1, by omega, by go_num, rfl, by rw [HTK.out]; exact HOWN2.out, ?_⟩
          exact below_own ((HBW.out.alloc (by omega) _).alloc (by simp; omega) _) ((HOWN.out.alloc _).alloc _) HG2.out (by simp; omega)
    · obtain rfl : i = n := by omega
      have hMt : M.take i = M := List.take_of_length_le (by have := hnM.out; omega)
      rw [hMt] at hown
      have HOWN := Lib.hid hown
      have HBW := Lib.hid hbw
      clear hown hbw
      go_wp2_with fail
      go_ret
      exact ⟨_, rfl, HOWN.out, HBW.out⟩
end Go.Proofs.Ytfbaaccnnogajaa
