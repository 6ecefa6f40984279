/- Texts that lead to the claim, one behind the other: slices.Equal of numbers, of texts: the walks. No conditions. | The document's EqInts: the walk. No conditions. | The document's EqNodes: the walk. No conditions. | The document's EqAddr: the walk. No conditions. -/
import Derived.Test.YtnpideapdjomgaaDoorRA10
import Derived.BigQuiet
namespace Go.Proofs.YtnpideapdjomgaaDoor
open Go.RowKit Go.ChangeShapes Go.WideShapes Go.Deep

theorem num_at22 {w w' : World} {S : Blocks} {A : Option Addr} {c : Nat} {l : List Int} (h : SliceAt (Rep.int .i64) w S A c l) (hk : Same S w w') {i : Nat} (hi : i < l.length) :
    ∃ g o, A = some ⟨g, o, none⟩ ∧ w'.cell? ⟨g, o + i, none⟩ = some (.int .i64 l[i]) := by
  obtain ⟨g, o, cs, e, hb, hc, rfl, hm⟩ := h.at_ hi
  have := (hc.keep hb hk).one
  rw [show (Rep.int .i64).n = 1 from rfl, Nat.mul_one] at this
  exact ⟨g, o, e, this⟩
set_option maxRecDepth 100000 in
set_option maxHeartbeats 2000000 in
theorem eqInts_any (A B : Option Addr) (n c m d : Nat) (xs ys : List Int) (w : World) (S : Blocks) (hn : Hid (n = xs.length)) (hm : Hid (m = ys.length)) (hx : Hid (SliceAt (Rep.int .i64) w S A c xs)) (hy : Hid (SliceAt (Rep.int .i64) w S B d ys)) (hS : Hid (∀ b, S b → b < w.heap.size)) :
    Calls Tryd.prog 27 #[.slice A n c, .slice B m d] w fun e w' => e = .returned (.bool (decide (xs = ys))) ∧ Below w.heap.size w w' := by
  have hnc : n ≤ c := by rw [hn.out]; exact hx.out.len
  have hcm := hx.out.max
  have hmd : m ≤ d := by rw [hm.out]; exact hy.out.len
  have hdm := hy.out.max
  by_cases hnm : n = m
  · subst hnm
    have d0 : decide ((n : Int) = (n : Int)) = true := by simp
    go_enter Tryd.func27, Tryd.ntmps27
    go_wp2_with fail
    go_loopg [13] n (fun k iv wr => ∃ (i : Nat), i ≤ n ∧ iv = .int .i64 i ∧ k = n - i ∧ Hid (Below w.heap.size w wr) ∧ Hid (xs.take i = ys.take i))
    case atStart => exact ⟨0, Nat.zero_le _, rfl, rfl, Lib.hid (Below.refl _ _), Lib.hid (by simp)⟩
    case round =>
      obtain ⟨i, hi, rfl, rfl, HB, HE⟩ := hrel
      by_cases hin : i < n
      · have hix : i < xs.length := by rw [← hn.out]; exact hin
        have hiy : i < ys.length := by rw [← hm.out]; exact hin
        obtain ⟨g, o, rfl, px⟩ := num_at22 hx.out (Same.of_below HB.out hS.out) hix
        obtain ⟨g', o', rfl, py⟩ := num_at22 hy.out (Same.of_below HB.out hS.out) hiy
        obtain ⟨x, hX⟩ : ∃ x, x = xs[i] := ⟨_, rfl⟩
        obtain ⟨y, hY⟩ : ∃ y, y = ys[i] := ⟨_, rfl⟩
        rw [← hX] at px
        rw [← hY] at py
        have HS : Hid (xs.take (i + 1) = xs.take i ++ [x] ∧ ys.take (i + 1) = ys.take i ++ [y]) := Lib.hid (by rw [hX, hY]; exact ⟨List.take_succ_eq_append_getElem hix, List.take_succ_eq_append_getElem hiy⟩)
        have HNE : Hid (x ≠ y → xs ≠ ys) := Lib.hid fun h e => by subst e; exact h (by rw [hX, hY])
        clear hX hY hix hiy
        by_cases hxy : x = y
        · subst hxy
          go_wp2_with fail
          go_quiet (fail)
          go_wp2_with fail
          go_roundg (n - (i + 1))
          case measure => omega
          case rel => exact ⟨i + 1, by omega, by go_num, rfl, Lib.hid (by first | exact HB.out | exact HB.out.drew | exact ⟨HB.out.os, HB.out.tape, HB.out.output, HB.out.size, HB.out.block⟩), Lib.hid (by rw [HS.out.1, HS.out.2, HE.out])⟩
        · go_wp2_with fail
          go_quiet (fail)
          go_wp2_with fail
          go_ret
          exact ⟨by rw [decide_eq_false (HNE.out hxy)]; rfl, ⟨HB.out.os, HB.out.tape, HB.out.output, HB.out.size, HB.out.block⟩⟩
      · obtain rfl : i = n := by omega
        have he : xs = ys := by
          have := HE.out
          rwa [List.take_of_length_le (by rw [← hn.out]; exact Nat.le_refl _), List.take_of_length_le (by rw [← hm.out]; exact Nat.le_refl _)] at this
        have HQ := Lib.hid (decide_eq_true he)
        clear he
        go_wp2_with fail
        go_ret
        exact ⟨by rw [HQ.out]; rfl, HB.out⟩
  · have he : xs ≠ ys := fun e => hnm (by rw [hn.out, hm.out, e])
    have HQ := Lib.hid (decide_eq_false he)
    have hz : (n : Int) ≠ (m : Int) := by omega
    clear he
    go_enter Tryd.func27, Tryd.ntmps27
    go_wp2_with fail
    go_ret
    exact ⟨by rw [HQ.out]; rfl, Below.refl _ _⟩
set_option maxRecDepth 100000 in
set_option maxHeartbeats 2000000 in
theorem eqStrs_any (A B : Option Addr) (n c m d : Nat) (xs ys : List ByteArray) (w : World) (S : Blocks) (hn : Hid (n = xs.length)) (hm : Hid (m = ys.length)) (hx : Hid (SliceAt Rep.str w S A c xs)) (hy : Hid (SliceAt Rep.str w S B d ys)) (hS : Hid (∀ b, S b → b < w.heap.size)) :
    Calls Tryd.prog 28 #[.slice A n c, .slice B m d] w fun e w' => e = .returned (.bool (decide (xs = ys))) ∧ Below w.heap.size w w' := by
  have hnc : n ≤ c := by rw [hn.out]; exact hx.out.len
  have hcm := hx.out.max
  have hmd : m ≤ d := by rw [hm.out]; exact hy.out.len
  have hdm := hy.out.max
  by_cases hnm : n = m
  · subst hnm
    have d0 : decide ((n : Int) = (n : Int)) = true := by simp
    go_enter Tryd.func28, Tryd.ntmps28
    go_wp2_with fail
    go_loopg [13] n (fun k iv wr => ∃ (i : Nat), i ≤ n ∧ iv = .int .i64 i ∧ k = n - i ∧ Hid (Below w.heap.size w wr) ∧ Hid (xs.take i = ys.take i))
    case atStart => exact ⟨0, Nat.zero_le _, rfl, rfl, Lib.hid (Below.refl _ _), Lib.hid (by simp)⟩
    case round =>
      obtain ⟨i, hi, rfl, rfl, HB, HE⟩ := hrel
      by_cases hin : i < n
      · have hix : i < xs.length := by rw [← hn.out]; exact hin
        have hiy : i < ys.length := by rw [← hm.out]; exact hin
        obtain ⟨g, o, rfl, -, px, -⟩ := strs_at (hx.out.keep (fun _ h => h) (Same.of_below HB.out hS.out)) hix
        obtain ⟨g', o', rfl, -, py, -⟩ := strs_at (hy.out.keep (fun _ h => h) (Same.of_below HB.out hS.out)) hiy
        obtain ⟨x, hX⟩ : ∃ x, x = xs[i] := ⟨_, rfl⟩
        obtain ⟨y, hY⟩ : ∃ y, y = ys[i] := ⟨_, rfl⟩
        rw [← hX] at px
        rw [← hY] at py
        have HS : Hid (xs.take (i + 1) = xs.take i ++ [x] ∧ ys.take (i + 1) = ys.take i ++ [y]) := Lib.hid (by rw [hX, hY]; exact ⟨List.take_succ_eq_append_getElem hix, List.take_succ_eq_append_getElem hiy⟩)
        have HNE : Hid (x ≠ y → xs ≠ ys) := Lib.hid fun h e => by subst e; exact h (by rw [hX, hY])
        clear hX hY hix hiy
        by_cases hxy : x = y
        · subst hxy
          have q : (x.toList == x.toList) = true := by simp
          go_wp2_with fail
          go_quiet (fail)
          go_wp2_with fail
          go_roundg (n - (i + 1))
          case measure => omega
          case rel => exact ⟨i + 1, by omega, by go_num, rfl, Lib.hid (by first | exact HB.out | exact HB.out.drew | exact ⟨HB.out.os, HB.out.tape, HB.out.output, HB.out.size, HB.out.block⟩), Lib.hid (by rw [HS.out.1, HS.out.2, HE.out])⟩
        · have q : (x.toList == y.toList) = false := by rw [strs_eq]; exact decide_eq_false hxy
          go_wp2_with fail
          go_quiet (fail)
          go_wp2_with fail
          go_ret
          exact ⟨by rw [decide_eq_false (HNE.out hxy)]; rfl, ⟨HB.out.os, HB.out.tape, HB.out.output, HB.out.size, HB.out.block⟩⟩
      · obtain rfl : i = n := by omega
        have he : xs = ys := by
          have := HE.out
          rwa [List.take_of_length_le (by rw [← hn.out]; exact Nat.le_refl _), List.take_of_length_le (by rw [← hm.out]; exact Nat.le_refl _)] at this
        have HQ := Lib.hid (decide_eq_true he)
        clear he
        go_wp2_with fail
        go_ret
        exact ⟨by rw [HQ.out]; rfl, HB.out⟩
  · have he : xs ≠ ys := fun e => hnm (by rw [hn.out, hm.out, e])
    have HQ := Lib.hid (decide_eq_false he)
    have hz : (n : Int) ≠ (m : Int) := by omega
    clear he
    go_enter Tryd.func28, Tryd.ntmps28
    go_wp2_with fail
    go_ret
    exact ⟨by rw [HQ.out]; rfl, Below.refl _ _⟩
end Go.Proofs.YtnpideapdjomgaaDoor
namespace Go.Proofs.YtnpideapdjomgaaDoor
open Go.RowKit Go.ChangeShapes Go.WideShapes Go.Deep

set_option maxRecDepth 100000 in
set_option maxHeartbeats 2000000 in
theorem eqIntsD_any (A B : Option Addr) (n c m d : Nat) (xs ys : List Int) (w : World) (S : Blocks) (hn : Hid (n = xs.length)) (hm : Hid (m = ys.length)) (hx : Hid (SliceAt (Rep.int .i64) w S A c xs)) (hy : Hid (SliceAt (Rep.int .i64) w S B d ys)) (hS : Hid (∀ b, S b → b < w.heap.size)) :
    Calls Tryd.prog 16 #[.slice A n c, .slice B m d] w fun e w' => e = .returned (.bool (decide (xs = ys))) ∧ Below w.heap.size w w' := by
  have hnc : n ≤ c := by rw [hn.out]; exact hx.out.len
  have hcm := hx.out.max
  have hmd : m ≤ d := by rw [hm.out]; exact hy.out.len
  have hdm := hy.out.max
  by_cases hnm : n = m
  · subst hnm
    have d0 : decide ((n : Int) = (n : Int)) = true := by simp
    go_enter Tryd.func16, Tryd.ntmps16
    go_wp2_with fail
    go_loopg [5] n (fun k iv wr => ∃ (i : Nat), i ≤ n ∧ iv = .int .i64 i ∧ k = n - i ∧ Hid (Below w.heap.size w wr) ∧ Hid (xs.take i = ys.take i))
    case atStart => exact ⟨0, Nat.zero_le _, rfl, rfl, Lib.hid (Below.refl _ _), Lib.hid (by simp)⟩
    case round =>
      obtain ⟨i, hi, rfl, rfl, HB, HE⟩ := hrel
      by_cases hin : i < n
      · have hix : i < xs.length := by rw [← hn.out]; exact hin
        have hiy : i < ys.length := by rw [← hm.out]; exact hin
        obtain ⟨g, o, rfl, px⟩ := num_at22 hx.out (Same.of_below HB.out hS.out) hix
        obtain ⟨g', o', rfl, py⟩ := num_at22 hy.out (Same.of_below HB.out hS.out) hiy
        obtain ⟨x, hX⟩ : ∃ x, x = xs[i] := ⟨_, rfl⟩
        obtain ⟨y, hY⟩ : ∃ y, y = ys[i] := ⟨_, rfl⟩
        rw [← hX] at px
        rw [← hY] at py
        have HS : Hid (xs.take (i + 1) = xs.take i ++ [x] ∧ ys.take (i + 1) = ys.take i ++ [y]) := Lib.hid (by rw [hX, hY]; exact ⟨List.take_succ_eq_append_getElem hix, List.take_succ_eq_append_getElem hiy⟩)
        have HNE : Hid (x ≠ y → xs ≠ ys) := Lib.hid fun h e => by subst e; exact h (by rw [hX, hY])
        clear hX hY hix hiy
        by_cases hxy : x = y
        · subst hxy
          go_wp2_with fail
          go_quiet (fail)
          go_wp2_with fail
          go_roundg (n - (i + 1))
          case measure => omega
          case rel => exact ⟨i + 1, by omega, by go_num, rfl, Lib.hid (by first | exact HB.out | exact HB.out.drew | exact ⟨HB.out.os, HB.out.tape, HB.out.output, HB.out.size, HB.out.block⟩), Lib.hid (by rw [HS.out.1, HS.out.2, HE.out])⟩
        · go_wp2_with fail
          go_quiet (fail)
          go_wp2_with fail
          go_ret
          exact ⟨by rw [decide_eq_false (HNE.out hxy)]; rfl, ⟨HB.out.os, HB.out.tape, HB.out.output, HB.out.size, HB.out.block⟩⟩
      · obtain rfl : i = n := by omega
        have he : xs = ys := by
          have := HE.out
          rwa [List.take_of_length_le (by rw [← hn.out]; exact Nat.le_refl _), List.take_of_length_le (by rw [← hm.out]; exact Nat.le_refl _)] at this
        have HQ := Lib.hid (decide_eq_true he)
        clear he
        go_wp2_with fail
        go_ret
        exact ⟨by rw [HQ.out]; rfl, HB.out⟩
  · have he : xs ≠ ys := fun e => hnm (by rw [hn.out, hm.out, e])
    have HQ := Lib.hid (decide_eq_false he)
    have hz : (n : Int) ≠ (m : Int) := by omega
    clear he
    go_enter Tryd.func16, Tryd.ntmps16
    go_wp2_with fail
    go_ret
    exact ⟨by rw [HQ.out]; rfl, Below.refl _ _⟩
end Go.Proofs.YtnpideapdjomgaaDoor
namespace Go.Proofs.YtnpideapdjomgaaDoor
open Go.RowKit Go.ChangeShapes Go.WideShapes Go.Deep

set_option maxRecDepth 100000 in
set_option maxHeartbeats 2000000 in
theorem eqNodes_any (A B : Option Addr) (n c m d : Nat) (xs ys : List Nd) (w : World) (S : Blocks) (hn : Hid (n = xs.length)) (hm : Hid (m = ys.length)) (hx : Hid (SliceAt Rep.nd w S A c xs)) (hy : Hid (SliceAt Rep.nd w S B d ys)) (hS : Hid (∀ b, S b → b < w.heap.size)) :
    Calls Tryd.prog 52 #[.slice A n c, .slice B m d] w fun e w' => e = .returned (.bool (decide (xs = ys))) ∧ Below w.heap.size w w' := by
  have hnc : n ≤ c := by rw [hn.out]; exact hx.out.len
  have hcm := hx.out.max
  have hmd : m ≤ d := by rw [hm.out]; exact hy.out.len
  have hdm := hy.out.max
  by_cases hnm : n = m
  · subst hnm
    have d0 : decide ((n : Int) = (n : Int)) = true := by simp
    go_enter Tryd.func52, Tryd.ntmps52
    go_wp2_with fail
    go_loopg [5] n (fun k iv wr => ∃ (i : Nat), i ≤ n ∧ iv = .int .i64 i ∧ k = n - i ∧ Hid (Below w.heap.size w wr) ∧ Hid (xs.take i = ys.take i))
    case atStart => exact ⟨0, Nat.zero_le _, rfl, rfl, Lib.hid (Below.refl _ _), Lib.hid (by simp)⟩
    case round =>
      obtain ⟨i, hi, rfl, rfl, HB, HE⟩ := hrel
      by_cases hin : i < n
      · have hix : i < xs.length := by rw [← hn.out]; exact hin
        have hiy : i < ys.length := by rw [← hm.out]; exact hin
        obtain ⟨g, o, rfl, -, px, -⟩ := nd_at hx.out (Same.of_below HB.out hS.out) hix
        obtain ⟨g', o', rfl, -, py, -⟩ := nd_at hy.out (Same.of_below HB.out hS.out) hiy
        obtain ⟨x, hX⟩ : ∃ x, x = xs[i] := ⟨_, rfl⟩
        obtain ⟨y, hY⟩ : ∃ y, y = ys[i] := ⟨_, rfl⟩
        rw [← hX] at px
        rw [← hY] at py
        have HS : Hid (xs.take (i + 1) = xs.take i ++ [x] ∧ ys.take (i + 1) = ys.take i ++ [y]) := Lib.hid (by rw [hX, hY]; exact ⟨List.take_succ_eq_append_getElem hix, List.take_succ_eq_append_getElem hiy⟩)
        have HNE : Hid (x ≠ y → xs ≠ ys) := Lib.hid fun h e => by subst e; exact h (by rw [hX, hY])
        clear hX hY hix hiy
        have p0 : wr.cell? ⟨g, o + i * 9, none⟩ = some (.int .i8 x.op) := px 0 _ rfl
        have p1 : wr.cell? ⟨g, o + i * 9 + 1, none⟩ = some (.int .u64 x.c0) := px 1 _ rfl
        have p2 : wr.cell? ⟨g, o + i * 9 + 2, none⟩ = some (.int .u64 x.c1) := px 2 _ rfl
        have p3 : wr.cell? ⟨g, o + i * 9 + 3, none⟩ = some (.int .u64 x.c2) := px 3 _ rfl
        have p4 : wr.cell? ⟨g, o + i * 9 + 4, none⟩ = some (.int .u64 x.c3) := px 4 _ rfl
        have p5 : wr.cell? ⟨g, o + i * 9 + 5, none⟩ = some (.int .i64 x.n) := px 5 _ rfl
        have p6 : wr.cell? ⟨g, o + i * 9 + 6, none⟩ = some (.int .i64 x.mn) := px 6 _ rfl
        have p7 : wr.cell? ⟨g, o + i * 9 + 7, none⟩ = some (.int .i64 x.mx) := px 7 _ rfl
        have p8 : wr.cell? ⟨g, o + i * 9 + 8, none⟩ = some (.int .i64 x.kids) := px 8 _ rfl
        have r0 : wr.cell? ⟨g', o' + i * 9, none⟩ = some (.int .i8 y.op) := py 0 _ rfl
        have r1 : wr.cell? ⟨g', o' + i * 9 + 1, none⟩ = some (.int .u64 y.c0) := py 1 _ rfl
        have r2 : wr.cell? ⟨g', o' + i * 9 + 2, none⟩ = some (.int .u64 y.c1) := py 2 _ rfl
        have r3 : wr.cell? ⟨g', o' + i * 9 + 3, none⟩ = some (.int .u64 y.c2) := py 3 _ rfl
        have r4 : wr.cell? ⟨g', o' + i * 9 + 4, none⟩ = some (.int .u64 y.c3) := py 4 _ rfl
        have r5 : wr.cell? ⟨g', o' + i * 9 + 5, none⟩ = some (.int .i64 y.n) := py 5 _ rfl
        have r6 : wr.cell? ⟨g', o' + i * 9 + 6, none⟩ = some (.int .i64 y.mn) := py 6 _ rfl
        have r7 : wr.cell? ⟨g', o' + i * 9 + 7, none⟩ = some (.int .i64 y.mx) := py 7 _ rfl
        have r8 : wr.cell? ⟨g', o' + i * 9 + 8, none⟩ = some (.int .i64 y.kids) := py 8 _ rfl
        have he : ∀ W, (binOp .neq 66 (.agg #[.int .i8 x.op, .int .u64 x.c0, .int .u64 x.c1, .int .u64 x.c2, .int .u64 x.c3, .int .i64 x.n, .int .i64 x.mn, .int .i64 x.mx, .int .i64 x.kids]) (.agg #[.int .i8 y.op, .int .u64 y.c0, .int .u64 y.c1, .int .u64 y.c2, .int .u64 y.c3, .int .i64 y.n, .int .i64 y.mn, .int .i64 y.mx, .int .i64 y.kids])).run Tryd.prog W = .ok (.bool (!decide (x = y))) W := fun W => by rw [← Nd.eqB_eq]; exact run_neq_nd x y W
        clear px py
        by_cases hxy : x = y
        · have he' := he
          rw [decide_eq_true hxy] at he'
          clear he
          subst hxy
          go_wp2_with fail
          go_region
          all_goals
            go_wp2_with fail
            go_roundg (n - (i + 1))
            case measure => omega
            case rel => exact ⟨i + 1, by omega, by go_num, rfl, Lib.hid (by first | exact HB.out | exact HB.out.drew | exact ⟨HB.out.os, HB.out.tape, HB.out.output, HB.out.size, HB.out.block⟩), Lib.hid (by rw [HS.out.1, HS.out.2, HE.out])⟩
        · have he' := he
          rw [decide_eq_false hxy] at he'
          clear he
          go_wp2_with fail
          go_region
          all_goals
            go_wp2_with fail
            go_ret
            exact ⟨by rw [decide_eq_false (HNE.out hxy)]; rfl, ⟨HB.out.os, HB.out.tape, HB.out.output, HB.out.size, HB.out.block⟩⟩
      · obtain rfl : i = n := by omega
        have he : xs = ys := by
          have := HE.out
          rwa [List.take_of_length_le (by rw [← hn.out]; exact Nat.le_refl _), List.take_of_length_le (by rw [← hm.out]; exact Nat.le_refl _)] at this
        have HQ := Lib.hid (decide_eq_true he)
        clear he
        go_wp2_with fail
        go_ret
        exact ⟨by rw [HQ.out]; rfl, HB.out⟩
  · have he : xs ≠ ys := fun e => hnm (by rw [hn.out, hm.out, e])
    have HQ := Lib.hid (decide_eq_false he)
    have hz : (n : Int) ≠ (m : Int) := by omega
    clear he
    go_enter Tryd.func52, Tryd.ntmps52
    go_wp2_with fail
    go_ret
    exact ⟨by rw [HQ.out]; rfl, Below.refl _ _⟩
end Go.Proofs.YtnpideapdjomgaaDoor
namespace Go.Proofs.YtnpideapdjomgaaDoor
open Go.RowKit Go.ChangeShapes Go.WideShapes Go.Deep

def Ad.eqB (a b : Ad) : Bool := decide (a.kind = b.kind) && decide (a.n = b.n) && decide (a.re = b.re)
set_option maxRecDepth 100000 in
set_option maxHeartbeats 2000000 in
theorem eqAddr_any (A B : Option Addr) (c d : Nat) (a b : Ad) (w : World) (S : Blocks) (hx : Hid (SliceAt Rep.nd w S A c a.re)) (hy : Hid (SliceAt Rep.nd w S B d b.re)) (hS : Hid (∀ b, S b → b < w.heap.size)) :
    Calls Tryd.prog 51 #[.agg #[.int .i8 a.kind, .int .i64 a.n, .slice A a.re.length c], .agg #[.int .i8 b.kind, .int .i64 b.n, .slice B b.re.length d]] w fun e w' => e = .returned (.bool (a.eqB b)) ∧ Below w.heap.size w w' := by
  have HE := Lib.hid (show a.eqB b = (decide (a.kind = b.kind) && decide (a.n = b.n) && decide (a.re = b.re)) from rfl)
  have HC : Hid (∀ W, Below w.heap.size w W → Calls Tryd.prog 52 #[.slice A a.re.length c, .slice B b.re.length d] W fun e w' => e = .returned (.bool (decide (a.re = b.re))) ∧ Below w.heap.size w w') := Lib.hid fun W hW => by
    refine (eqNodes_any A B _ c _ d a.re b.re W S (Lib.hid rfl) (Lib.hid rfl) (Lib.hid (hx.out.keep (fun _ h => h) (Same.of_below hW hS.out))) (Lib.hid (hy.out.keep (fun _ h => h) (Same.of_below hW hS.out))) (Lib.hid fun b hb => Nat.lt_of_lt_of_le (hS.out b hb) hW.size)).mono ?_
    rintro e w' ⟨rfl, h⟩
    exact ⟨rfl, hW.trans (h.mono hW.size)⟩
  obtain ⟨r, hr⟩ : ∃ r, r = decide (a.re = b.re) := ⟨_, rfl⟩
  rw [← hr] at HC HE
  clear hr
  rw [HE.out]
  go_enter Tryd.func51, Tryd.ntmps51
  go_wp2_with (first | (go_at_call 52; refine (HC.out _ (((Below.refl _ w).alloc (Nat.le_refl _) _).alloc (by simp) _)).mono ?_; rintro e w1 ⟨rfl, hb1⟩; have HB1 := Lib.hid hb1; clear hb1))
  all_goals go_ret
  all_goals first
    | (refine ⟨?_, HB1.out⟩; simp [*]; done)
    | (refine ⟨?_, ((Below.refl _ w).alloc (Nat.le_refl _) _).alloc (by simp) _⟩; simp [*]; done)
end Go.Proofs.YtnpideapdjomgaaDoor
