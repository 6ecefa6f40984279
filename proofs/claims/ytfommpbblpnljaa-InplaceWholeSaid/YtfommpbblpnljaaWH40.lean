/- Texts that lead to the claim, one behind the other: Rows of bytes handed in with marks behind them: the walk of galleyref00.WideRows. Condition: room. | Rows of bytes with marks behind them: the walk of galleyref00.WideRows. Condition: room. | Rows compared, and the marks behind them: the walks of galleyref00.EqRows (at rows alike) and SpareRows. Condition: room. -/
import Derived.Test.YtfommpbblpnljaaWH38
import Derived.Test.YtfommpbblpnljaaWH7
import Derived.Test.YtfommpbblpnljaaWH27
import Derived.Test.YtfommpbblpnljaaWH39
import Derived.Deep.RegionHeld3
namespace Go.Proofs.Ytfommpbblpnljaa
open Go.RowKit Go.ChangeShapes Go.WideShapes Go.Deep

def Rep.one1 : Rep Value where
  n := 1
  is := fun _ _ cs v => cs = [v] ∧ v.oneCell' = true
  size := by rintro _ _ _ _ ⟨rfl, _⟩; rfl
  keep := by rintro _ _ _ _ _ _ ⟨rfl, h⟩ _ _; exact ⟨rfl, h⟩
  one := by rintro _ _ _ _ ⟨rfl, h⟩; simpa using h
/-- A row: its block, its length, all that lies in its block. -/
abbrev WR := Nat × Nat × List UInt8
def WR.val (r : WR) : Value := .slice (some ⟨r.1, 0, none⟩) r.2.1 r.2.2.length
def WRow (w : World) (base : Nat) (r : WR) : Prop := Own Rep.byte 5 w base nob (.slice (some ⟨r.1, 0, none⟩) r.2.2.length r.2.2.length) r.2.2 ∧ r.2.1 ≤ r.2.2.length
theorem WRow.lt {w : World} {base : Nat} {r : WR} (h : WRow w base r) : base ≤ r.1 ∧ r.1 < w.heap.size := h.1.block_lt rfl
theorem WRow.keep {w w' : World} {base : Nat} {r : WR} {row : Option Nat} (h : WRow w base r) (hg : w.grownBy w' row) (hn : some r.1 ≠ row) : WRow w' base r := ⟨h.1.mono hg (.inr hn) (fun _ h => h.elim), h.2⟩
/-- Rows, of which so many have been made. -/
structure Wides (w : World) (base g n : Nat) (ps : List (List UInt8)) (rs : List WR) (k : Nat) : Prop where
  row : Own Rep.one1 32 w base nob (.slice (some ⟨g, 0, none⟩) (n + 64) (n + 64)) (rs.map WR.val ++ List.replicate (n + 64 - k) (.slice none 0 0))
  len : rs.length = k
  rows : ∀ r ∈ rs, WRow w base r
  wide : ∀ i (h : i < rs.length) (_ : i < n) (h2 : i < ps.length), rs[i].2.1 = ps[i].length ∧ rs[i].2.2 = ps[i] ++ marksW ps[i].length
  tail : ∀ i (h : i < rs.length), n ≤ i → rs[i].2.1 = 4 ∧ rs[i].2.2 = [9, 0, UInt8.ofNat i, UInt8.ofNat (i / 256)]
  apart : (rs.map (·.1)).Nodup
section
variable {w w' : World} {base g n k : Nat} {ps : List (List UInt8)} {rs : List WR}
theorem Own.zeros1 (w : World) (n base : Nat) (hb : base ≤ w.heap.size) (hn : n ≤ maxLen) : Own Rep.one1 32 (w.alloc (.cells (madeCells #[.slice none 0 0] n) 32)) base nob (.slice (some ⟨w.heap.size, 0, none⟩) n n) (List.replicate n (.slice none 0 0)) := by
  refine ⟨(madeCells #[.slice none 0 0] n).toList, ⟨by simp [size_madeCells, Rep.one1], .inr ⟨w.heap.size, n, _, by simp, hb, heap_alloc_new w _, by simp, hn, by rw [size_madeCells]; exact (Nat.mul_one n).symm, ?_⟩⟩, fun _ h => h.elim, fun v hv => ?_, fun i hi => ?_⟩
  · rw [List.take_of_length_le (by simp [size_madeCells, Rep.one1])]
  · obtain ⟨j, hj, rfl⟩ := List.getElem_of_mem hv
    simp [madeCells, Value.oneCell', Nat.mod_one]
  · simp only [List.length_replicate] at hi
    refine ⟨?_, by simp [Value.oneCell']⟩
    rw [show i * Rep.one1.n = i from Nat.mul_one i, show Rep.one1.n = 1 from rfl, List.drop_eq_getElem_cons (by simpa [size_madeCells] using hi)]
    simp [madeCells, Nat.mod_one]
theorem Wides.keep (h : Wides w base g n ps rs k) (hg : w.grownBy w' none) : Wides w' base g n ps rs k :=
  { h with row := h.row.mono hg (.inr (by simp [Value.ownBlock])) (fun _ h => h.elim), rows := fun r hr => (h.rows r hr).keep hg (by simp) }
/-- One more row. -/
theorem Wides.next (h : Wides w base g n ps rs k) (hk : k < n + 64) {r : WR} (hr : WRow w base r) (hnew : ∀ r' ∈ rs, r'.1 ≠ r.1) (hw : ∀ (_ : k < n) (h2 : k < ps.length), r.2.1 = ps[k].length ∧ r.2.2 = ps[k] ++ marksW ps[k].length) (ht : n ≤ k → r.2.1 = 4 ∧ r.2.2 = [9, 0, UInt8.ofNat k, UInt8.ofNat (k / 256)]) : Wides (w.setCell ⟨g, k, none⟩ r.val) base g n ps (rs ++ [r]) (k + 1) := by
  have hgr := setCell_grown g w k r.val
  have hne : ∀ r', WRow w base r' → some r'.1 ≠ some g := fun r' hr' e => by
    have h1 : Value.ownBlock (.slice (some ⟨r'.1, 0, none⟩) r'.2.2.length r'.2.2.length) = some g := e
    obtain ⟨cur, hc⟩ := hr'.1.content h1
    obtain ⟨cur', hc'⟩ := h.row.content (b := g) rfl
    rw [hc] at hc'
    injection hc' with hc'
    injection hc' with _ e2
    exact absurd e2 (by decide)
  refine ⟨?_, by simp [h.len], fun r' hr' => ?_, fun i hi hin hip => ?_, fun i hi hin => ?_, ?_⟩
  · have := h.row.setCell1 (u := r.val) (x := r.val) rfl (k := k) (by simp [h.len]; omega) ⟨rfl, rfl⟩
    have e : (rs.map WR.val ++ List.replicate (n + 64 - k) (Value.slice none 0 0)).set k r.val = (rs ++ [r]).map WR.val ++ List.replicate (n + 64 - (k + 1)) (Value.slice none 0 0) := by
      rw [List.set_append_right _ _ (by simp [h.len])]
      rw [show n + 64 - k = (n + 64 - (k + 1)) + 1 by omega, List.replicate_succ]
      simp [h.len]
    rw [e] at this
    exact this
  · rcases List.mem_append.1 hr' with hr' | hr'
    · exact (h.rows r' hr').keep hgr (hne r' (h.rows r' hr'))
    · rw [List.mem_singleton.1 hr']; exact hr.keep hgr (hne r hr)
  · rw [List.length_append, List.length_singleton, h.len] at hi
    rcases Nat.lt_or_ge i k with hik | hik
    · have := h.wide i (by rw [h.len]; exact hik) hin hip
      rw [List.getElem_append_left (by rw [h.len]; exact hik)]
      exact this
    · obtain rfl : i = k := by omega
      rw [List.getElem_append_right (by rw [h.len]; exact hik)]
      simp only [h.len, Nat.sub_self, List.getElem_cons_zero]
      exact hw hin hip
  · rw [List.length_append, List.length_singleton, h.len] at hi
    rcases Nat.lt_or_ge i k with hik | hik
    · have := h.tail i (by rw [h.len]; exact hik) hin
      rw [List.getElem_append_left (by rw [h.len]; exact hik)]
      exact this
    · obtain rfl : i = k := by omega
      rw [List.getElem_append_right (by rw [h.len]; exact hik)]
      simp only [h.len, Nat.sub_self, List.getElem_cons_zero]
      exact ht hin
  · rw [List.map_append, List.nodup_append]
    refine ⟨h.apart, by simp, fun a ha b hb => ?_⟩
    obtain ⟨r', hr', rfl⟩ := List.mem_map.1 ha
    simp only [List.map_cons, List.map_nil, List.mem_singleton] at hb
    rw [hb]
    exact hnew r' hr'
theorem Wides.lt (h : Wides w base g n ps rs k) : base ≤ g ∧ g < w.heap.size := h.row.block_lt rfl
theorem Wides.cell (h : Wides w base g n ps rs k) (i : Nat) (hi : i < rs.length) : w.cell? ⟨g, i, none⟩ = some (rs[i]).val := by
  obtain ⟨g', c, u, he, -, -, hc, -, ⟨hu, -⟩, -⟩ := h.row.cellAt rfl (k := i) (by simp; omega)
  simp only [Value.slice.injEq, Option.some.injEq, Addr.mk.injEq] at he
  obtain ⟨⟨rfl, -⟩, -, -⟩ := he
  simp only [List.cons.injEq, and_true] at hu
  rw [hc, hu, List.getElem_append_left (by simpa using hi)]
  simp
theorem Wides.free (h : Wides w base g n ps rs k) (i : Nat) : w.frozen? ⟨g, i, none⟩ = false := h.row.free i
theorem Wides.there (h : Wides w base g n ps rs k) (i : Nat) (hi : i < n + 64) : ∃ u, w.cell? ⟨g, i, none⟩ = some u := by
  obtain ⟨g', c, u, he, -, -, hc, -⟩ := h.row.cellAt rfl (k := i) (by simp [h.len] <;> omega)
  simp only [Value.slice.injEq, Option.some.injEq, Addr.mk.injEq] at he
  obtain ⟨⟨rfl, -⟩, -, -⟩ := he
  exact ⟨u, hc⟩
theorem info_row1 : (Try.prog.info? 32).map (fun i => (i.zero, i.size, i.bytes)) = some (some (.slice none 0 0), 1, 24) := by kernel_rfl
theorem run_make_rows (u : World) (n : Nat) (hn : n ≤ 1099511628000) : (Instr.makeSlice 81 (.int .i64 (n : Int)) (.int .i64 (n : Int))).run Try.prog u = .ok (.slice (some ⟨u.heap.size, 0, none⟩) n n) (u.alloc (.cells (madeCells #[.slice none 0 0] n) 32)) := by
  obtain ⟨i0, hi, hz0, hz1, hz2⟩ := info_parts info_row1
  have h := run_make (P := Try.prog) u 81 32 i0 (.slice none 0 0) Try.underlying81 hi hz0 .i64 .i64 (n : Int) (n : Int) (by omega) (Int.le_refl _) (by rw [hz2]; omega) (by omega)
  have e : ((n : Int)).toNat = n := by omega
  rw [e] at h
  simpa [hz1, Value.cells] using h
end
end Go.Proofs.Ytfommpbblpnljaa
namespace Go.Proofs.Ytfommpbblpnljaa
open Go.RowKit Go.ChangeShapes Go.WideShapes Go.Deep

section
variable {w : World}
set_option maxRecDepth 100000 in
set_option maxHeartbeats 4000000 in
theorem wideRows_any (A : Option Addr) (n c : Nat) (ps : List (List UInt8)) (S : Blocks) (hn : Hid (n = ps.length)) (hl : Hid (SliceAt Rep.byte.slice w S A c ps)) (hS : Hid (∀ b, S b → b < w.heap.size)) (hb : n ≤ 1099511627776) (hp : Hid (∀ p ∈ ps, p.length ≤ 1099511627776)) :
    Calls Try.prog 52 #[.slice A n c] w fun e w' => ∃ g rs, e = .returned (.slice (some ⟨g, 0, none⟩) n (n + 64)) ∧ Hid (Wides w' w.heap.size g n ps rs (n + 64)) ∧ Hid (Below w.heap.size w w') := by
  have hmk := fun u => run_make_rows u (n + 64) (by omega)
  rw [show ((n + 64 : Nat) : Int) = (n : Int) + 64 by omega] at hmk
  have hnc : n ≤ c := by rw [hn.out]; exact hl.out.len
  have hc := hl.out.max
  have h0 : Wides (w.alloc (.cells (madeCells #[.slice none 0 0] (n + 64)) 32)) w.heap.size w.heap.size n ps [] 0 :=
    ⟨Own.zeros1 w (n + 64) w.heap.size (Nat.le_refl _) (by simp only [maxLen]; omega), rfl, fun _ h => (by cases h), fun i h => absurd h (by simp), fun i h => absurd h (by simp), by simp⟩
  have H0 := Lib.hid h0
  clear h0
  go_enter Try.func52, Try.ntmps52
  go_wp2_with fail
  go_loopg [4] (n + 64) (fun k iv wr => ∃ i : Nat, i ≤ n + 64 ∧ iv = .int .i64 i ∧ k = n + 64 - i ∧ ∃ rs, Hid (Wides wr w.heap.size w.heap.size n ps rs i) ∧ Hid (Below w.heap.size w wr))
  case atStart => exact ⟨0, Nat.zero_le _, rfl, rfl, [], H0, Lib.hid ((Below.refl _ _).alloc (Nat.le_refl _) _)⟩
  case round =>
    obtain ⟨i, hi, rfl, rfl, rs, HW, HB⟩ := hrel
    by_cases hin : i < n + 64
    · obtain ⟨u0, hc0⟩ := HW.out.there i hin
      have hf0 := HW.out.free i
      have hii : i ≤ 9223372036854775807 := by omega
      by_cases hin2 : i < n
      · have hil2 : i < ps.length := by rw [← hn.out]; exact hin2
        obtain ⟨g, o, A', c', rfl, hSg, hcx0, hs0⟩ := row_at hl.out hil2
        have hcx := (HB.out.cell (p := ⟨g, o + i, none⟩) (hS.out g hSg)).trans hcx0
        obtain ⟨l, hl1⟩ : ∃ l, l = ps[i] := ⟨_, rfl⟩
        rw [← hl1] at hcx hs0
        obtain ⟨m, hm⟩ : ∃ m, m = l.length := ⟨_, rfl⟩
        rw [← hm] at hcx
        have HL1 := Lib.hid hl1
        have HM := Lib.hid hm
        have hmb : m ≤ 1099511627776 := by rw [hm, hl1]; exact hp.out _ (List.getElem_mem hil2)
        have hs1 := hs0.keep (fun _ h => h) (Same.of_below HB.out hS.out)
        have HWB := Lib.hid (wideBytes_any A' m c' l wr _ hm hs1 (fun b hb => Nat.lt_of_lt_of_le (hS.out b hb) HB.out.size) (by omega))
        clear hcx0 hs0 hs1 hl1 hm
        go_wp2_with fail
        refine HWB.out.mono ?_
        rintro e w1 ⟨h, rfl, ho, hbw⟩
        have hgr : wr.grownBy w1 none := ⟨hbw.os, hbw.tape, hbw.output, hbw.size, fun b hb _ => hbw.block b hb⟩
        have H1 := Lib.hid (HW.out.keep hgr)
        have HO := Lib.hid ho
        have HBW := Lib.hid hbw
        obtain ⟨u1, hc1⟩ := H1.out.there i hin
        have hf1 := H1.out.free i
        clear hc0 hf0 ho hbw hgr HWB
        go_wp2_with fail
        go_roundg (n + 64 - (i + 1))
        case measure => omega
        case rel =>
          have hfl : (l ++ marksW m).length = m + 64 := by rw [List.length_append, marksW_len, HM.out]
          have hlt := HO.out.block_lt (b := h) rfl
          have hr : WRow w1 w.heap.size (h, m, l ++ marksW m) := ⟨by dsimp only; rw [hfl]; exact HO.out.low HB.out.size, by dsimp only; rw [hfl]; omega⟩
          have hx := H1.out.next hin hr (fun r' hr' e => by have := ((HW.out.rows r' hr').lt).2; have := hlt.1; dsimp only at e; omega) (fun _ h2 => by dsimp only; rw [← HL1.out]; exact ⟨HM.out, by rw [HM.out]⟩) (fun h => absurd h (by omega))
          unfold WR.val at hx
          dsimp only at hx
          rw [hfl] at hx
          exact ⟨i + 1, by omega, by go_num, rfl, _, Lib.hid hx, Lib.hid ((HB.out.trans (HBW.out.mono HB.out.size)).grown (setCell_grown _ _ _ _) (Nat.le_trans HB.out.size HBW.out.size) fun b hb => by simp only [Option.some.injEq] at hb; omega)⟩
      · have hd2 : n ≤ i := by omega
        have H1 := Lib.hid (HW.out.keep (World.grownBy_alloc wr (.cells #[.int .u8 9, .int .u8 0, .int .u8 ((i : Int) % 256), .int .u8 ((i : Int) / 256 % 256)] 5) none))
        obtain ⟨u1, hc1⟩ := H1.out.there i hin
        have hf1 := H1.out.free i
        clear hc0 hf0
        go_wp2_with fail
        go_roundg (n + 64 - (i + 1))
        case measure => omega
        case rel =>
          have hr : WRow (wr.alloc (.cells #[.int .u8 9, .int .u8 0, .int .u8 ((i : Int) % 256), .int .u8 ((i : Int) / 256 % 256)] 5)) w.heap.size (wr.heap.size, 4, [9, 0, UInt8.ofNat i, UInt8.ofNat (i / 256)]) := by
            refine ⟨⟨[.int .u8 9, .int .u8 0, .int .u8 ((i : Int) % 256), .int .u8 ((i : Int) / 256 % 256)], ⟨rfl, .inr ⟨wr.heap.size, 4, _, rfl, HB.out.size, World.alloc_heap_new wr _, by simp, by simp [maxLen], by simp [Rep.byte], by simp [Rep.byte]⟩⟩, fun _ h => h.elim, by simp [Value.oneCell'], fun j hj => ?_⟩, by simp⟩
            match j, hj with
            | 0, _ => rfl
            | 1, _ => rfl
            | 2, _ => exact congrArg (fun x => [Value.int .u8 x]) (by simp)
            | 3, _ => exact congrArg (fun x => [Value.int .u8 x]) (by simp)
          have hx := H1.out.next hin hr (fun r' hr' e => by have := ((HW.out.rows r' hr').lt).2; dsimp only at e; omega) (fun h _ => absurd h hin2) (fun _ => ⟨rfl, rfl⟩)
          exact ⟨i + 1, by omega, by go_num, rfl, _, Lib.hid hx, Lib.hid ((HB.out.alloc HB.out.size _).grown (setCell_grown _ _ _ _) (by simp; have := HB.out.size; omega) fun b hb => by simp only [Option.some.injEq] at hb; omega)⟩
    · obtain rfl : i = n + 64 := by omega
      go_wp2_with fail
      go_ret
      exact ⟨_, _, rfl, HW, HB⟩
end
end Go.Proofs.Ytfommpbblpnljaa
namespace Go.Proofs.Ytfommpbblpnljaa
open Go.RowKit Go.ChangeShapes Go.WideShapes Go.Deep

theorem eqRow' (A B : Option Addr) (n k c d : Nat) (xs ys : List UInt8) (r : Bool) (w : World) (S S' : Blocks) (hn : Hid (n = xs.length)) (hk : Hid (k = ys.length)) (hr : Hid (decide (xs = ys) = r)) (hx : Hid (SliceAt Rep.byte w S A c xs)) (hy : Hid (SliceAt Rep.byte w S' B d ys)) :
    Calls Try.prog 17 #[.slice A n c, .slice B k d] w fun e w' => e = .returned (.bool r) ∧ Below w.heap.size w w' := by
  have h := eqBytes A B c d xs ys w S S' hx.out hy.out
  rw [← hn.out, ← hk.out, hr.out] at h
  refine h.mono ?_
  rintro e w' ⟨rfl, q, rfl⟩
  exact ⟨rfl, ⟨rfl, rfl, rfl, Nat.le_refl _, fun _ _ => rfl⟩⟩
theorem below_then {a b c : World} (h : Below a.heap.size a b) (k : Below b.heap.size b c) : Below a.heap.size a c := h.trans (k.mono h.size)
set_option maxRecDepth 100000 in
set_option maxHeartbeats 1000000 in
theorem eqRows_alike (A B : Option Addr) (n c d : Nat) (L : List (List UInt8)) (w : World) (S S' : Blocks) (hn : Hid (n = L.length)) (hx : Hid (SliceAt Rep.byte.slice w S A c L)) (hy : Hid (SliceAt Rep.byte.slice w S' B d L)) (hS : Hid (∀ x, S x → x < w.heap.size)) (hS' : Hid (∀ x, S' x → x < w.heap.size)) :
    Calls Try.prog 53 #[.slice A n c, .slice B n d] w fun e w' => e = .returned (.bool true) ∧ Below w.heap.size w w' := by
  have hnc : n ≤ c := by rw [hn.out]; exact hx.out.len
  have hnd : n ≤ d := by rw [hn.out]; exact hy.out.len
  have hcm := hx.out.max
  have hdm := hy.out.max
  have hne : ((n : Int) != (n : Int)) = false := by simp
  go_enter Try.func53, Try.ntmps53
  go_wp2_with fail
  go_loopg [5] n (fun k iv wr => ∃ (i : Nat), i ≤ n ∧ iv = .int .i64 i ∧ k = n - i ∧ Hid (Below w.heap.size w wr))
  case atStart => exact ⟨0, Nat.zero_le _, rfl, rfl, Lib.hid (Below.refl _ _)⟩
  case round =>
    obtain ⟨i, hi, rfl, rfl, HB⟩ := hrel
    rcases Nat.lt_or_ge i n with hlt | hge
    · have hil : i < L.length := by rw [← hn.out]; exact hlt
      have hX := hx.out.keep (fun _ h => h) (Same.of_below HB.out hS.out)
      have hY := hy.out.keep (fun _ h => h) (Same.of_below HB.out hS'.out)
      obtain ⟨g, o, A', c', rfl, -, hc1, hs1⟩ := row_at hX hil
      obtain ⟨g', o', B', d', rfl, -, hc2, hs2⟩ := row_at hY hil
      obtain ⟨l, hl⟩ : ∃ l, l = L[i] := ⟨_, rfl⟩
      rw [← hl] at hc1 hs1 hc2 hs2
      obtain ⟨k, hk⟩ : ∃ k, k = l.length := ⟨_, rfl⟩
      rw [← hk] at hc1 hc2
      have HK := Lib.hid hk
      have HS1 : Hid (∀ W, Below wr.heap.size wr W → SliceAt Rep.byte W S A' c' l) := Lib.hid fun W hW => hs1.keep (fun _ h => h) (Same.of_below hW fun x hx' => Nat.lt_of_lt_of_le (hS.out x hx') HB.out.size)
      have HS2 : Hid (∀ W, Below wr.heap.size wr W → SliceAt Rep.byte W S' B' d' l) := Lib.hid fun W hW => hs2.keep (fun _ h => h) (Same.of_below hW fun x hx' => Nat.lt_of_lt_of_le (hS'.out x hx') HB.out.size)
      have HCall : Hid (∀ W, Below wr.heap.size wr W → Calls Try.prog 17 #[.slice A' k c', .slice B' k d'] W fun e w' => e = .returned (.bool true) ∧ Below W.heap.size W w') := Lib.hid fun W hW => eqRow' A' B' k k c' d' l l true W S S' HK HK (Lib.hid (by simp)) (Lib.hid (HS1.out W hW)) (Lib.hid (HS2.out W hW))
      have HKK : Hid (∀ wa wb : World, (Below wr.heap.size wr wa ∧ wa.cell? ⟨g, o + i, none⟩ = some (.slice A' k c') ∧ wa.cell? ⟨g', o' + i, none⟩ = some (.slice B' k d')) → Below wa.heap.size wa wb → Below wr.heap.size wr wb ∧ wb.cell? ⟨g, o + i, none⟩ = some (.slice A' k c') ∧ wb.cell? ⟨g', o' + i, none⟩ = some (.slice B' k d')) := Lib.hid fun wa wb ⟨h1, h2, h3⟩ hb => ⟨below_then h1 hb, (hb.cell (World.block_lt_of_cell? wa _ h2)).trans h2, (hb.cell (World.block_lt_of_cell? wa _ h3)).trans h3⟩
      have HK0 : Hid (Below wr.heap.size wr wr.drew ∧ wr.drew.cell? ⟨g, o + i, none⟩ = some (.slice A' k c') ∧ wr.drew.cell? ⟨g', o' + i, none⟩ = some (.slice B' k d')) := Lib.hid ⟨(Below.refl _ _).drew, hc1, hc2⟩
      have hi1 : (i : Int) < (n : Int) := by omega
      have hi0 : (0 : Int) ≤ (i : Int) := Int.natCast_nonneg _
      clear hc1 hc2 hs1 hs2 hX hY hl hk
      go_upto_region 6 with fail
      go_region_held3 (fun wa => Below wr.heap.size wr wa ∧ wa.cell? ⟨g, o + i, none⟩ = some (.slice A' k c') ∧ wa.cell? ⟨g', o' + i, none⟩ = some (.slice B' k d')) (first | exact HK0.out | exact HKK.out _ _ (by assumption) (by assumption)) (first | (go_at_call 17; refine (HCall.out _ (And.left (by assumption))).mono ?_; rintro e w2 ⟨rfl, hb2⟩))
      all_goals go_wp2_with fail
      all_goals go_roundg (n - (i + 1))
      all_goals first | omega | exact ⟨i + 1, by omega, by go_num, rfl, Lib.hid (HB.out.trans (Below.mono (And.left (by assumption)) HB.out.size))⟩
    · obtain rfl : i = n := by omega
      go_wp2_with fail
      go_ret
      exact ⟨rfl, HB.out⟩
section
variable {w w' : World} {base g n k : Nat} {ps : List (List UInt8)} {rs : List WR}
/-- The rows that were handed in stand in front. -/
theorem Wides.slice (h : Wides w base g n ps rs (n + 64)) (hn : n = ps.length) : SliceAt Rep.byte.slice w (fun b => base ≤ b ∧ b < w.heap.size) (some ⟨g, 0, none⟩) (n + 64) ps := by
  refine ⟨by omega, ?_, by simp, fun i hi => ?_⟩
  · obtain ⟨A2, n2, c2, he, -, -, hm⟩ := h.row.form
    simp only [Value.slice.injEq] at he
    simp only [maxLen]; omega
  · have hir : i < rs.length := by rw [h.len]; omega
    obtain ⟨h1, h2⟩ := h.wide i hir (by omega) hi
    have hr := h.rows _ (List.getElem_mem hir)
    obtain ⟨A3, c3, he3, hs3⟩ := hr.1.slice
    simp only [Value.slice.injEq] at he3
    obtain ⟨rfl, -, rfl⟩ := he3
    refine ⟨g, 0, [(rs[i]).val], rfl, h.lt, ?_, some ⟨(rs[i]).1, 0, none⟩, (rs[i]).2.2.length, ?_, ?_⟩
    · intro j u hj
      match j, hj with
      | 0, hj =>
        simp only [List.getElem?_cons_zero, Option.some.injEq] at hj
        subst hj
        have := h.cell i hir
        simpa [show Rep.byte.slice.n = 1 from rfl] using this
    · unfold WR.val; rw [h1]
    · have h4 := hs3.cutTo (j := ps[i].length) (by rw [h2]; simp)
      have e : List.take ps[i].length (rs[i]).2.2 = ps[i] := by rw [h2]; simp
      rw [e] at h4
      exact h4.up fun b hb => by
        rcases hb with ⟨a, b, -⟩ | h
        · exact ⟨a, b⟩
        · exact h.elim
theorem Wides.rowSlice (h : Wides w base g n ps rs k) (i : Nat) (hi : i < rs.length) : SliceAt Rep.byte w (fun b => b < w.heap.size) (some ⟨(rs[i]).1, 0, none⟩) (rs[i]).2.2.length ((rs[i]).2.2.take (rs[i]).2.1) := by
  have hr := h.rows _ (List.getElem_mem hi)
  obtain ⟨A3, c3, he3, hs3⟩ := hr.1.slice
  simp only [Value.slice.injEq] at he3
  obtain ⟨rfl, -, rfl⟩ := he3
  exact (hs3.cutTo hr.2).up fun b hb => by
    rcases hb with ⟨a, b, -⟩ | h
    · exact b
    · exact h.elim
theorem Wides.far (h : Wides w base g n ps rs k) (hb : Below w.heap.size w w') : Wides w' base g n ps rs k :=
  h.keep ⟨hb.os, hb.tape, hb.output, hb.size, fun b hb' _ => hb.block b hb'⟩
theorem Wides.only (h : Wides w base g n ps rs k) {F : Blocks} (ho : Only F w w') (hF : ∀ b, base ≤ b → b < w.heap.size → ¬ F b) : Wides w' base g n ps rs k :=
  { h with
    row := h.row.only ho fun b hb => by
      simp only [Value.ownBlock, Option.some.injEq] at hb; subst hb; exact hF _ h.lt.1 h.lt.2
    rows := fun r hr => ⟨(h.rows r hr).1.only ho fun b hb => by
      simp only [Value.ownBlock, Option.some.injEq] at hb; subst hb; exact hF _ (h.rows r hr).lt.1 (h.rows r hr).lt.2, (h.rows r hr).2⟩ }
set_option maxRecDepth 100000 in
set_option maxHeartbeats 4000000 in
theorem spareRows_any (HW : Hid (Wides w base g n ps rs (n + 64))) (hn : Hid (n = ps.length)) (hb : n ≤ 1099511627776) (hp : Hid (∀ p ∈ ps, p.length ≤ 1099511627776)) :
    Calls Try.prog 54 #[.slice (some ⟨g, 0, none⟩) n (n + 64)] w fun e w' => e = .returned (.bool true) ∧ Below w.heap.size w w' := by
  go_enter Try.func54, Try.ntmps54
  go_wp2_with fail
  go_loopg [4] 64 (fun k iv wr => ∃ i : Nat, n ≤ i ∧ i ≤ n + 64 ∧ iv = .int .i64 i ∧ k = n + 64 - i ∧ Hid (Below w.heap.size w wr))
  case atStart => exact ⟨n, Nat.le_refl _, by omega, rfl, by omega, Lib.hid (Below.refl _ _)⟩
  case round =>
    obtain ⟨i, hi0, hi, rfl, rfl, HB⟩ := hrel
    by_cases hin : i < n + 64
    · have HW2 := Lib.hid (HW.out.far HB.out)
      have hir : i < rs.length := by rw [HW.out.len]; exact hin
      have hc1 := HW2.out.cell i hir
      have hrs := HW2.out.rowSlice i hir
      have hrl := (HW2.out.rows _ (List.getElem_mem hir)).2
      obtain ⟨h, m, full, hrr⟩ : ∃ h m full, rs[i] = (h, m, full) := ⟨_, _, _, rfl⟩
      rw [hrr] at hc1 hrs hrl
      unfold WR.val at hc1
      dsimp only at hc1 hrs hrl
      obtain ⟨hm4, hf4⟩ := HW2.out.tail i hir hi0
      rw [hrr] at hm4 hf4
      dsimp only at hm4 hf4
      have hq : decide (full.take m = [9, 0, UInt8.ofNat i, UInt8.ofNat (i / 256)]) = true := by rw [hm4, hf4]; simp
      clear hm4 hf4
      have HE : Hid (Calls Try.prog 17 #[.slice (some ⟨h, 0, none⟩) m full.length, .slice (some ⟨wr.heap.size, 0, none⟩) 4 4] (wr.alloc (.cells #[.int .u8 9, .int .u8 0, .int .u8 ((i : Int) % 256), .int .u8 ((i : Int) / 256 % 256)] 5)) fun e w' => e = .returned (.bool true) ∧ Below (wr.heap.size + 1) (wr.alloc (.cells #[.int .u8 9, .int .u8 0, .int .u8 ((i : Int) % 256), .int .u8 ((i : Int) / 256 % 256)] 5)) w') := Lib.hid (by
        have h1 := eqRow' (some ⟨h, 0, none⟩) (some ⟨wr.heap.size, 0, none⟩) m 4 full.length 4 (full.take m) [9, 0, UInt8.ofNat i, UInt8.ofNat (i / 256)] true (wr.alloc (.cells #[.int .u8 9, .int .u8 0, .int .u8 ((i : Int) % 256), .int .u8 ((i : Int) / 256 % 256)] 5)) _ _ (Lib.hid (by simp; omega)) (Lib.hid rfl) (Lib.hid hq)
          (Lib.hid (hrs.keep (fun _ h => h) (fun b hb => Below.heap_alloc wr _ b hb)))
          (Lib.hid (SliceAt.newRow Rep.byte wr 5 #[.int .u8 9, .int .u8 0, .int .u8 ((i : Int) % 256), .int .u8 ((i : Int) / 256 % 256)] [9, 0, UInt8.ofNat i, UInt8.ofNat (i / 256)] nob 4 4 rfl (Nat.le_refl _) (by decide) (fun j hj => by
            match j, hj with
            | 0, _ => rfl
            | 1, _ => rfl
            | 2, _ => exact congrArg (fun x => [Value.int .u8 x]) (by simp)
            | 3, _ => exact congrArg (fun x => [Value.int .u8 x]) (by simp)) fun _ h => h.elim))
        simpa using h1)
      have hii : i ≤ 9223372036854775807 := by omega
      clear hrs hrl hrr hq
      go_wp2_with fail
      refine HE.out.mono ?_
      rintro e w2 ⟨rfl, h2⟩
      have H2 := Lib.hid ((HB.out.alloc HB.out.size _).trans (h2.mono (Nat.le_succ_of_le HB.out.size)))
      clear h2
      go_wp2_with fail
      go_roundg (n + 64 - (i + 1))
      case measure => omega
      case rel => exact ⟨i + 1, by omega, by omega, by go_num, rfl, H2⟩
    · obtain rfl : i = n + 64 := by omega
      have HB0 := HB
      go_wp2_with fail
      go_loopg [5] n (fun k iv wr2 => ∃ (i : Nat), i ≤ n ∧ iv = .int .i64 i ∧ k = n - i ∧ Hid (Below w.heap.size w wr2))
      case atStart => exact ⟨0, Nat.zero_le _, rfl, rfl, HB0⟩
      case round =>
        obtain ⟨i, hi, rfl, rfl, HB⟩ := hrel
        rcases Nat.lt_or_ge i n with hlt | hge
        · have HW2 := Lib.hid (HW.out.far HB.out)
          have hir : i < rs.length := by rw [HW.out.len]; omega
          have hip : i < ps.length := by rw [← hn.out]; exact hlt
          have hc1 := HW2.out.cell i hir
          obtain ⟨h1, h2⟩ := HW2.out.wide i hir hlt hip
          have h3 := (HW2.out.rows _ (List.getElem_mem hir)).1
          unfold WR.val at hc1
          obtain ⟨hb1, hbb⟩ : ∃ hb1, hb1 = (rs[i]).1 := ⟨_, rfl⟩
          rw [← hbb, h1, h2] at hc1
          rw [← hbb, h2] at h3
          obtain ⟨l, hl1⟩ : ∃ l, l = ps[i] := ⟨_, rfl⟩
          rw [← hl1] at hc1 h3
          obtain ⟨m, hm⟩ : ∃ m, m = l.length := ⟨_, rfl⟩
          have hml : m ≤ 1099511627776 := by rw [hm, hl1]; exact hp.out _ (List.getElem_mem hip)
          have hfl : (l ++ marksW m).length = m + 64 := by rw [List.length_append, marksW_len, hm]
          rw [← hm, hfl] at hc1 h3
          have HSP := Lib.hid (spareBytes_any hb1 m base l wr hm h3 (by omega))
          have hi1 : (i : Int) < (n : Int) := by omega
          have hi0 : (0 : Int) ≤ (i : Int) := Int.natCast_nonneg _
          clear h1 h2 h3 hbb hl1 hm hfl
          go_wp2_with fail
          refine HSP.out.mono ?_
          rintro e w2 ⟨rfl, q, rfl⟩
          go_wp2_with fail
          go_roundg (n - (i + 1))
          case measure => omega
          case rel => exact ⟨i + 1, by omega, by go_num, rfl, Lib.hid (HB.out.trans ⟨rfl, rfl, rfl, Nat.le_refl _, fun _ _ => rfl⟩)⟩
        · obtain rfl : i = n := by omega
          go_wp2_with fail
          go_ret
          exact ⟨rfl, HB.out⟩
end
end Go.Proofs.Ytfommpbblpnljaa
