/- Marks handed in with marks behind them, and copied: the walks of galleyref00's WideMarks, SpareMarks, CopyMarks (printed by gen/widemarks.py out of XWide16). Condition: room. -/
import Derived.Test.YtebbilkkacbfjaaDoorWide16
import Derived.Test.YtebbilkkacbfjaaDoorEqMarks16
namespace Go.Proofs.YtebbilkkacbfjaaDoor
open Go.RowKit

theorem run_eql_mark (a : Mark) (w : World) : (binOp .eql 34 (.agg #[.int .u8 a.byte.toNat, .bool a.plain]) (.agg #[.int .u8 a.byte.toNat, .bool a.plain])).run Tryd.prog w = .ok (.bool true) w := by
  have hu : Tryd.prog.underlying 34 = some (.struct (Tryd.prog.fieldsOf 34)) := by kernel_rfl
  have hp : Tryd.prog.stoodInHeld 34 = false := by kernel_rfl
  have hf : (Tryd.prog.fieldsOf 34).toList.map (fun f => (f.name == "_", f.type, f.offset)) = [(false, 5, 0), (false, 4, 1)] := by kernel_rfl
  have k4 : Tryd.prog.underlying 4 = some .bool := by kernel_rfl
  have k9 : Tryd.prog.underlying 5 = some (.int .u8) := by kernel_rfl
  have q0 : ∀ x : Mark, (part 5 #[.int .u8 x.byte.toNat, .bool x.plain] 0).run Tryd.prog w = .ok (.int .u8 x.byte.toNat) w := fun _ => by kernel_rfl
  have q1 : ∀ x : Mark, (part 4 #[.int .u8 x.byte.toNat, .bool x.plain] 1).run Tryd.prog w = .ok (.bool x.plain) w := fun _ => by kernel_rfl
  rw [run_eql_struct, show (10000 : Nat) = 9998 + 1 + 1 from rfl, run_equalIn_struct w (9998 + 1) _ _ _ hu hp]
  generalize (Tryd.prog.fieldsOf 34).toList = fs at hf
  have hl : fs.length = 2 := by simpa using congrArg List.length hf
  rcases fs with _ | ⟨f0, _ | ⟨f1, _ | ⟨f2, fs⟩⟩⟩ <;> simp only [List.length_nil, List.length_cons] at hl <;> try omega
  simp only [List.map_cons, List.map_nil, List.cons.injEq, Prod.mk.injEq, and_true, beq_eq_false_iff_ne] at hf
  obtain ⟨⟨n0, t0, o0⟩, n1, t1, o1⟩ := hf
  simp only [Op.eqFields, n0, n1, t0, t1, o0, o1, ne_eq, not_false_eq_true, if_true, Sem.run_bind, q0, q1, Result.andThen_ok, run_equalIn_bool' w 9998 4 _ _ k4, run_equalIn_int w 9998 5 .u8 .u8 _ _ k9, Sem.run_ite, Sem.run_pure]
  simp
def Mark.z : Mark := ⟨0, false⟩
theorem mark_is {w : World} {S : Blocks} (a : UInt8) (b : Bool) : Rep.mark.is w S [.int .u8 a.toNat, .bool b] ⟨a, b⟩ := ⟨[_], [_], rfl, rfl, rfl⟩
def marksK (n : Nat) : List Mark := (List.range 64).map fun j => ⟨wmark (n + j), true⟩
theorem marksK_len (n : Nat) : (marksK n).length = 64 := by simp [marksK]
theorem marksK_at (n i : Nat) (h : n ≤ i) (h' : i - n < (marksK n).length) : (marksK n)[i - n] = ⟨wmark i, true⟩ := by
  simp only [marksK, List.getElem_map, List.getElem_range]
  congr 2
  omega
theorem info_mark : (Tryd.prog.info? 34).map (fun i => (i.zero, i.size, i.bytes)) = some (some (.agg #[.int .u8 0, .bool false]), 2, 2) := by kernel_rfl
theorem info_mark2 : (Tryd.prog.info? 34).map (·.size) = some Rep.mark.n := by kernel_rfl
theorem run_make_marks (u : World) (n : Nat) (hn : n ≤ 1099511627776) : (Instr.makeSlice 22 (.int .i64 (n : Int)) (.int .i64 (n : Int))).run Tryd.prog u = .ok (.slice (some ⟨u.heap.size, 0, none⟩) n n) (u.alloc (.cells (madeCells #[.int .u8 0, .bool false] (n * 2)) 34)) := by
  obtain ⟨i0, hi, hz0, hz1, hz2⟩ := info_parts info_mark
  have h := run_make (P := Tryd.prog) u 22 34 i0 _ Tryd.underlying22 hi hz0 .i64 .i64 (n : Int) (n : Int) (by omega) (Int.le_refl _) (by rw [hz2]; omega) (by omega)
  have e : ((n : Int)).toNat = n := by omega
  rw [e] at h
  simpa [hz1, Value.cells] using h
/-- What WideMarks leaves. -/
def WideK (w : World) (n : Nat) (l : List Mark) (e : Ending) (w' : World) : Prop :=
  ∃ g, e = .returned (.slice (some ⟨g, 0, none⟩) n (n + 64)) ∧ Own Rep.mark 34 w' w.heap.size nob (.slice (some ⟨g, 0, none⟩) (n + 64) (n + 64)) (l ++ marksK n) ∧ Below w.heap.size w w'
set_option maxRecDepth 100000 in
set_option maxHeartbeats 4000000 in
theorem wideMarks_any (A : Option Addr) (n c : Nat) (l : List Mark) (w : World) (S : Blocks) (hn : n = l.length) (hl : SliceAt Rep.mark w S A c l) (hS : ∀ b, S b → b < w.heap.size) (hb : n ≤ 2147483647) :
    Calls Tryd.prog 8 #[.slice A n c] w (WideK w n l) := by
  have hmk := fun u => run_make_marks u (n + 64) (by omega)
  rw [show ((n + 64 : Nat) : Int) = (n : Int) + 64 by omega] at hmk
  have hnc : n ≤ c := by rw [hn]; exact hl.len
  have hc := hl.max
  have HN := Lib.hid hn
  have HL := Lib.hid hl
  have HS := Lib.hid hS
  obtain ⟨L, hL⟩ : ∃ L, L = l ++ marksK n := ⟨_, rfl⟩
  have hLl : L.length = n + 64 := by rw [hL, List.length_append, marksK_len, hn]
  have HLe := Lib.hid hL
  have HLl := Lib.hid hLl
  have hown0 := Own.madeN Rep.mark 34 w (n + 64) w.heap.size #[.int .u8 0, .bool false] Mark.z (fun _ => ⟨[_], [_], rfl, rfl, rfl⟩) (by decide) (Nat.le_refl _) (by simp only [maxLen]; omega)
  rw [show List.replicate (n + 64) Mark.z = filling L Mark.z 0 by rw [filling_zero, hLl]] at hown0
  have HOWN0 := Lib.hid hown0
  clear hn hl hS hL hLl hown0
  go_enter Tryd.func8, Tryd.ntmps8
  go_wp2_with fail
  go_loopg [4] (n + 64) (fun k iv wr => ∃ i : Nat, i ≤ n + 64 ∧ iv = .int .i64 i ∧ k = n + 64 - i ∧ Own Rep.mark 34 wr w.heap.size nob (.slice (some ⟨w.heap.size, 0, none⟩) (n + 64) (n + 64)) (filling L Mark.z i) ∧ Below w.heap.size w wr)
  case atStart => exact ⟨0, Nat.zero_le _, rfl, rfl, HOWN0.out, (Below.refl _ _).alloc (Nat.le_refl _) _⟩
  case round =>
    obtain ⟨i, hi, rfl, rfl, hown, hbw⟩ := hrel
    by_cases hin : i < n + 64
    · have hil : i < L.length := by have := HLl.out; omega
      have hfl : (filling L Mark.z i).length = n + 64 := by rw [filling_len _ _ (by omega)]; exact HLl.out
      have hst := filling_step L Mark.z hil
      obtain ⟨FL, hFL⟩ : ∃ FL, FL = filling L Mark.z i := ⟨_, rfl⟩
      rw [← hFL] at hown hst hfl
      have HST := Lib.hid hst
      have HFL := Lib.hid hfl
      have HOWN := Lib.hid hown
      have HBW := Lib.hid hbw
      have hsz := hbw.size
      have hii : i ≤ 9223372036854775807 := by omega
      clear hst hfl hFL hown hbw
      by_cases hin2 : i < n
      · have hil2 : i < l.length := by have := HN.out; omega
        obtain ⟨g, o, rfl, k0, k1⟩ := mark_at HL.out (Same.of_below HBW.out HS.out) hil2
        have hLi : L[i] = l[i] := by
          have := HLe.out; subst this
          rw [List.getElem_append_left hil2]
        obtain ⟨⟨x, y⟩, hx⟩ : ∃ x, x = l[i] := ⟨_, rfl⟩
        rw [← hx] at k0 k1 hLi
        have HLI := Lib.hid hLi
        simp only at k0 k1
        clear hx hLi
        go_wp2_with (refine wpList_store_Own rfl 34 (.tmp 25) (.tmp 24) rfl HOWN.out i (by have := HFL.out; omega) _ rfl (by simp [Rep.mark, Rep.pair, Rep.byte, Rep.bool]) _ rfl _ (mark_is _ _) info_mark2 ?_; intro w2 hown2 hg2; have HOWN2 := Lib.hid hown2; have HG2 := Lib.hid hg2; clear hown2 hg2)
        go_roundg (n + 64 - (i + 1))
        case measure => omega
        case rel =>
          refine ⟨i + 1, by omega, by go_num, rfl, by rw [← HST.out, HLI.out]; exact HOWN2.out, HBW.out.grown HG2.out hsz fun b hb => by simp only [Option.some.injEq] at hb; omega⟩
      · have hLi : L[i] = ⟨wmark i, true⟩ := by
          have := HLe.out; subst this
          have := HN.out
          rw [List.getElem_append_right (by omega)]
          simp only [← this]
          exact marksK_at n i (by omega) _
        have HLI := Lib.hid hLi
        have hd2 : n ≤ i := by omega
        clear hLi hin2
        have hwm : Rep.mark.is wr nob [.int .u8 ((279 + 7 * (i : Int) + 3) % 256), .bool true] ⟨wmark i, true⟩ := by rw [wmark_int]; exact mark_is _ _
        have HWM := Lib.hid hwm
        clear hwm
        go_wp2_with (refine wpList_store_Own rfl 34 (.tmp 34) (.tmp 33) rfl HOWN.out i (by have := HFL.out; omega) _ rfl (by simp [Rep.mark, Rep.pair, Rep.byte, Rep.bool]) _ rfl _ HWM.out info_mark2 ?_; intro w2 hown2 hg2; have HOWN2 := Lib.hid hown2; have HG2 := Lib.hid hg2; clear hown2 hg2)
        go_roundg (n + 64 - (i + 1))
        case measure => omega
        case rel =>
          refine ⟨i + 1, by omega, by go_num, rfl, by rw [← HST.out, HLI.out]; exact HOWN2.out, HBW.out.grown HG2.out hsz fun b hb => by simp only [Option.some.injEq] at hb; omega⟩
    · obtain rfl : i = n + 64 := by omega
      have hown' : Own Rep.mark 34 wr w.heap.size nob (.slice (some ⟨w.heap.size, 0, none⟩) (n + 64) (n + 64)) (l ++ marksK n) := by
        have h := HLl.out
        rw [show filling L Mark.z (n + 64) = L by rw [← h, filling_all], HLe.out] at hown
        exact hown
      have HOWN := Lib.hid hown'
      have HBW := Lib.hid hbw
      clear hown hown' hbw hin
      go_wp2_with fail
      go_ret
      exact ⟨_, rfl, HOWN.out, HBW.out⟩
set_option maxRecDepth 100000 in
set_option maxHeartbeats 4000000 in
theorem spareMarks_any (g n : Nat) (l : List Mark) (w : World) (S : Blocks) (hn : n = l.length) (hown : SliceAt Rep.mark w S (some ⟨g, 0, none⟩) (n + 64) (l ++ marksK n)) (hb : n ≤ 2147483647) :
    Calls Tryd.prog 12 #[.slice (some ⟨g, 0, none⟩) n (n + 64)] w fun e w' => e = .returned (.bool true) ∧ ∃ q, w' = w.drewN q := by
  have hLl : (l ++ marksK n).length = n + 64 := by rw [List.length_append, marksK_len, hn]
  have HN := Lib.hid hn
  have HOWN := Lib.hid hown
  have HLl := Lib.hid hLl
  clear hn hown hLl
  go_enter Tryd.func12, Tryd.ntmps12
  go_wp2_with fail
  go_loopg [4] 64 (fun k iv wr => ∃ i nd : Nat, n ≤ i ∧ i ≤ n + 64 ∧ iv = .int .i64 i ∧ k = n + 64 - i ∧ wr = w.drewN nd)
  case atStart => exact ⟨n, 0, Nat.le_refl _, by omega, rfl, by omega, rfl⟩
  case round =>
    obtain ⟨i, nd, hi0, hi, rfl, rfl, rfl⟩ := hrel
    by_cases hin : i < n + 64
    · have hil : i < (l ++ marksK n).length := by have := HLl.out; omega
      obtain ⟨g', o', he, k0, k1⟩ := mark_at HOWN.out (Same.refl _ _) hil
      simp only [Option.some.injEq, Addr.mk.injEq] at he
      obtain ⟨rfl, rfl, -⟩ := he
      have hLi : (l ++ marksK n)[i] = ⟨wmark i, true⟩ := by
        have := HN.out
        rw [List.getElem_append_right (by omega)]
        simp only [← this]
        exact marksK_at n i (by omega) _
      rw [hLi] at k0 k1
      have heq := run_eql_mark ⟨wmark i, true⟩
      simp only [← wmark_int] at heq
      simp only [Nat.zero_add, ← wmark_int] at k0 k1
      clear hLi
      obtain ⟨W, hW⟩ : ∃ W, W = w.drewN nd := ⟨_, rfl⟩
      have HW := Lib.hid hW
      have e0 : ∀ a, W.cell? a = w.cell? a := fun a => by rw [hW]; rfl
      rw [← e0] at k0 k1
      rw [← hW]
      clear e0 hW
      go_wp2_with fail
      go_roundg (n + 64 - (i + 1))
      case measure => omega
      case rel => exact ⟨i + 1, nd, by omega, by omega, by go_num, rfl, by rw [HW.out]⟩
    · obtain rfl : i = n + 64 := by omega
      go_wp2_with fail
      go_ret
      exact ⟨rfl, _, rfl⟩
set_option maxRecDepth 100000 in
theorem copyMarks_any (A : Option Addr) (n c : Nat) (l : List Mark) (w : World) (S : Blocks) (hn : Hid (n = l.length)) (hl : Hid (SliceAt Rep.mark w S A c l)) (hb : n ≤ 2147483647) :
    Calls Tryd.prog 14 #[.slice A n c] w fun e w' => ∃ A1 n1 c1, e = .returned (.slice A1 n1 c1) ∧ n1 ≤ c1 ∧ c1 ≤ 9223372036854775807 ∧ Hid (n1 = l.length) ∧ Hid (Own Rep.mark 34 w' w.heap.size nob (.slice A1 n1 c1) l) ∧ Hid (Below w.heap.size w w') := by
  have hx : (Value.slice A n c) = .slice A l.length c := by rw [hn.out]
  have HX := Lib.hid hx
  clear hx
  go_enter Tryd.func14, Tryd.ntmps14
  go_wp2_with (at_builtin; refine wpList_append_Own _ rfl (.tmp 4) (.tmp 5) 22 rfl Rep.mark w.heap.size 34 2 stMarks' nob (.slice none 0 0) [] rfl (Own.nil _ _ _ _) S A c l HX.out hl.out nob (fun _ h => h.elim) (fun _ h => h) (fun cs x ⟨_, _, h0, h1, h2⟩ => ⟨_, _, h0, h1, h2⟩) (by have := hn.out; simp; omega) (by have := hn.out; simp; omega) (Nat.le_refl _) ?_; intro v1 w1 ho1 hg1 hat1; have HO1 := Lib.hid ho1; have HG1 := Lib.hid hg1; obtain ⟨A1, n1, c1, rfl, hn1, k1, k2⟩ := ho1.form; clear ho1 hg1 hat1)
  go_ret
  exact ⟨A1, n1, c1, rfl, k1, k2, by simpa using hn1, by simpa using HO1, Lib.hid ((Below.refl _ _).grown HG1.out (Nat.le_refl _) fun b hb => by simp [Value.ownBlock] at hb)⟩
end Go.Proofs.YtebbilkkacbfjaaDoor
