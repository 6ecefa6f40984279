/- Spans and pieces handed in with marks behind them: the walks of galleyref00's WideSpans, SpareSpans, WidePiece, WidePieces, SparePieces. Condition: room. -/
import Derived.Test.YtebbilkkacbfjaaDoorPieces
import Derived.Test.YtebbilkkacbfjaaDoorWideBytes
import Derived.Test.YtebbilkkacbfjaaDoorRowAt
import Derived.Test.YtebbilkkacbfjaaDoorCopyOwn
import Derived.Test.YtebbilkkacbfjaaDoorNum
import Derived.Deep.CutBlock
import Derived.RegionTactic
namespace Go.Proofs.YtebbilkkacbfjaaDoor
open Go.RowKit

/-! ### Bytes, as they are read -/
set_option maxRecDepth 100000 in
set_option maxHeartbeats 4000000 in
theorem spareBytes_rd (g n : Nat) (l : List UInt8) (w : World) (S : Blocks) (hn : n = l.length) (hown : SliceAt Rep.byte w S (some ⟨g, 0, none⟩) (n + 64) (l ++ marksW n)) (hb : n ≤ 140737488351232) :
    Calls Tryd.prog 26 #[.slice (some ⟨g, 0, none⟩) n (n + 64)] w fun e w' => e = .returned (.bool true) ∧ w = w' := by
  have hLl : (l ++ marksW n).length = n + 64 := by rw [List.length_append, marksW_len, hn]
  have HN := Lib.hid hn
  have HOWN := Lib.hid hown
  have HLl := Lib.hid hLl
  clear hn hown hLl
  go_enter Tryd.func26, Tryd.ntmps26
  go_wp2_with fail
  go_loopg [4] 64 (fun k iv wr => ∃ i : Nat, n ≤ i ∧ i ≤ n + 64 ∧ iv = .int .i64 i ∧ k = n + 64 - i ∧ wr = w)
  case atStart => exact ⟨n, Nat.le_refl _, by omega, rfl, by omega, rfl⟩
  case round =>
    obtain ⟨i, hi0, hi, rfl, rfl, rfl⟩ := hrel
    by_cases hin : i < n + 64
    · have hil : i < (l ++ marksW n).length := by have := HLl.out; omega
      obtain ⟨g', o', he, -, hcu⟩ := HOWN.out.byte hil
      simp only [Option.some.injEq, Addr.mk.injEq] at he
      obtain ⟨rfl, rfl, -⟩ := he
      rw [Nat.zero_add] at hcu
      have hLi : (l ++ marksW n)[i] = wmark i := by
        have := HN.out
        rw [List.getElem_append_right (by omega)]
        simp only [← this]
        exact marksW_at n i (by omega) _
      rw [hLi, ← wmark_int] at hcu
      clear hLi
      go_wp2_with fail
      go_roundg (n + 64 - (i + 1))
      case measure => omega
      case rel => exact ⟨i + 1, by omega, by omega, by go_num, rfl, rfl⟩
    · obtain rfl : i = n + 64 := by omega
      go_wp2_with fail
      go_ret
      exact ⟨rfl, rfl⟩
/-! ### Spans -/
/-- The mark of a place (a name: the numeral stays out of the walk). -/
def mk9 (i : Nat) : Int := 9437184 + (i : Int) + 1
theorem wf_mk9 {i : Nat} (h : i ≤ 1099511627776) : (Lit.int .i64 (mk9 i)).wf = true := by simp [Lit.wf, IntKind.min, IntKind.max, IntKind.signed, IntKind.bits, mk9]; omega
def Span.z : Span := ⟨0, 0⟩
theorem span_is {w : World} {S : Blocks} {a b : Int} (ha : (Lit.int .i64 a).wf = true) (hb : (Lit.int .i64 b).wf = true) : Rep.span.is w S [.int .i64 a, .int .i64 b] ⟨a, b⟩ := ⟨[_], [_], rfl, ⟨rfl, ha⟩, rfl, hb⟩
def marksS (n : Nat) : List Span := (List.range 64).map fun j => ⟨mk9 (n + j), -7⟩
theorem marksS_len (n : Nat) : (marksS n).length = 64 := by simp [marksS]
theorem marksS_at (n i : Nat) (h : n ≤ i) (h' : i - n < (marksS n).length) : (marksS n)[i - n] = ⟨mk9 i, -7⟩ := by
  simp only [marksS, List.getElem_map, List.getElem_range]
  congr 2
  omega
theorem span_cells {w w' : World} {S : Blocks} {A : Option Addr} {c : Nat} {l : List Span} (h : SliceAt Rep.span w S A c l) (hk : Same S w w') {i : Nat} (hi : i < l.length) :
    ∃ g o, A = some ⟨g, o, none⟩ ∧ S g ∧ w'.cell? ⟨g, o + i * 2, none⟩ = some (.int .i64 l[i].lo) ∧ w'.cell? ⟨g, o + i * 2 + 1, none⟩ = some (.int .i64 l[i].hi) ∧ (Lit.int .i64 l[i].lo).wf = true ∧ (Lit.int .i64 l[i].hi).wf = true := by
  obtain ⟨g, o, cs, e, hb, hc, _, _, rfl, ⟨rfl, hwf⟩, rfl, hwf'⟩ := h.at_ hi
  obtain ⟨h0, h1⟩ := (hc.keep hb hk).two
  exact ⟨g, o, e, hb, h0, h1, hwf, hwf'⟩
theorem info_span : (Tryd.prog.info? 78).map (fun i => (i.zero, i.size, i.bytes)) = some (some (.agg #[.int .i64 0, .int .i64 0]), 2, 16) := by kernel_rfl
theorem info_span2 : (Tryd.prog.info? 78).map (·.size) = some Rep.span.n := by kernel_rfl
theorem run_make_spans (u : World) (n : Nat) (hn : n ≤ 1099511627776) : (Instr.makeSlice 59 (.int .i64 (n : Int)) (.int .i64 (n : Int))).run Tryd.prog u = .ok (.slice (some ⟨u.heap.size, 0, none⟩) n n) (u.alloc (.cells (madeCells #[.int .i64 0, .int .i64 0] (n * 2)) 78)) := by
  obtain ⟨i0, hi, hz0, hz1, hz2⟩ := info_parts info_span
  have h := run_make (P := Tryd.prog) u 59 78 i0 _ Tryd.underlying59 hi hz0 .i64 .i64 (n : Int) (n : Int) (by omega) (Int.le_refl _) (by rw [hz2]; omega) (by omega)
  have e : ((n : Int)).toNat = n := by omega
  rw [e] at h
  simpa [hz1, Value.cells] using h
/-- What WideSpans leaves. -/
def WideS (w : World) (n : Nat) (l : List Span) (e : Ending) (w' : World) : Prop :=
  ∃ g, e = .returned (.slice (some ⟨g, 0, none⟩) n (n + 64)) ∧ Own Rep.span 78 w' w.heap.size nob (.slice (some ⟨g, 0, none⟩) (n + 64) (n + 64)) (l ++ marksS n) ∧ Below w.heap.size w w'
set_option maxRecDepth 100000 in
set_option maxHeartbeats 4000000 in
theorem wideSpans_any (A : Option Addr) (n c : Nat) (l : List Span) (w : World) (S : Blocks) (hn : n = l.length) (hl : SliceAt Rep.span w S A c l) (hS : ∀ b, S b → b < w.heap.size) (hb : n ≤ 2147483647) :
    Calls Tryd.prog 21 #[.slice A n c] w (WideS w n l) := by
  have hmk := fun u => run_make_spans u (n + 64) (by omega)
  rw [show ((n + 64 : Nat) : Int) = (n : Int) + 64 by omega] at hmk
  have hnc : n ≤ c := by rw [hn]; exact hl.len
  have hc := hl.max
  have HN := Lib.hid hn
  have HL := Lib.hid hl
  have HS := Lib.hid hS
  obtain ⟨L, hL⟩ : ∃ L, L = l ++ marksS n := ⟨_, rfl⟩
  have hLl : L.length = n + 64 := by rw [hL, List.length_append, marksS_len, hn]
  have HLe := Lib.hid hL
  have HLl := Lib.hid hLl
  have hown0 := Own.madeN Rep.span 78 w (n + 64) w.heap.size #[.int .i64 0, .int .i64 0] Span.z (fun _ => span_is rfl rfl) (by decide) (Nat.le_refl _) (by simp only [maxLen]; omega)
  rw [show List.replicate (n + 64) Span.z = filling L Span.z 0 by rw [filling_zero, hLl]] at hown0
  have HOWN0 := Lib.hid hown0
  clear hn hl hS hL hLl hown0
  go_enter Tryd.func21, Tryd.ntmps21
  go_wp2_with fail
  go_loopg [4] (n + 64) (fun k iv wr => ∃ i : Nat, i ≤ n + 64 ∧ iv = .int .i64 i ∧ k = n + 64 - i ∧ Own Rep.span 78 wr w.heap.size nob (.slice (some ⟨w.heap.size, 0, none⟩) (n + 64) (n + 64)) (filling L Span.z i) ∧ Below w.heap.size w wr)
  case atStart => exact ⟨0, Nat.zero_le _, rfl, rfl, HOWN0.out, (Below.refl _ _).alloc (Nat.le_refl _) _⟩
  case round =>
    obtain ⟨i, hi, rfl, rfl, hown, hbw⟩ := hrel
    by_cases hin : i < n + 64
    · have hil : i < L.length := by have := HLl.out; omega
      have hfl : (filling L Span.z i).length = n + 64 := by rw [filling_len _ _ (by omega)]; exact HLl.out
      have hst := filling_step L Span.z hil
      obtain ⟨FL, hFL⟩ : ∃ FL, FL = filling L Span.z i := ⟨_, rfl⟩
      rw [← hFL] at hown hst hfl
      have HST := Lib.hid hst
      have HFL := Lib.hid hfl
      have HOWN := Lib.hid hown
      have HBW := Lib.hid hbw
      have hsz := hbw.size
      have hii : i ≤ 9223372036854775807 := by omega
      clear hst hfl hFL hown hbw
      by_cases hin2 : i < n
      · have hil2 : i < l.length := by have := HN.out; omega
        obtain ⟨g, o, rfl, hSg, k0, k1, hw0, hw1⟩ := span_cells HL.out (Same.of_below HBW.out HS.out) hil2
        have hLi : L[i] = l[i] := by
          have := HLe.out; subst this
          rw [List.getElem_append_left hil2]
        obtain ⟨⟨x, y⟩, hx⟩ : ∃ x, x = l[i] := ⟨_, rfl⟩
        rw [← hx] at k0 k1 hw0 hw1 hLi
        have HLI := Lib.hid hLi
        have HW0 := Lib.hid hw0
        have HW1 := Lib.hid hw1
        simp only at k0 k1
        clear hx hLi hw0 hw1
        go_wp2_with (refine wpList_store_Own rfl 78 (.tmp 25) (.tmp 24) rfl HOWN.out i (by have := HFL.out; omega) _ rfl (by simp [Rep.span, Rep.pair, Rep.int]) _ rfl _ (span_is HW0.out HW1.out) info_span2 ?_; intro w2 hown2 hg2; have HOWN2 := Lib.hid hown2; have HG2 := Lib.hid hg2; clear hown2 hg2)
        go_roundg (n + 64 - (i + 1))
        case measure => omega
        case rel =>
          refine ⟨i + 1, by omega, by go_num, rfl, by rw [← HST.out, HLI.out]; exact HOWN2.out, HBW.out.grown HG2.out hsz fun b hb => by simp only [Option.some.injEq] at hb; omega⟩
      · have hLi : L[i] = ⟨mk9 i, -7⟩ := by
          have := HLe.out; subst this
          have := HN.out
          rw [List.getElem_append_right (by omega)]
          simp only [← this]
          exact marksS_at n i (by omega) _
        have HLI := Lib.hid hLi
        have hd2 : n ≤ i := by omega
        clear hLi hin2
        go_wp2_with fail
        refine (num9 i _ (by omega)).mono ?_
        rintro e w' ⟨rfl, rfl⟩
        go_wp2_with (refine wpList_store_Own rfl 78 (.tmp 31) (.tmp 30) rfl HOWN.out i (by have := HFL.out; omega) _ rfl (by simp [Rep.span, Rep.pair, Rep.int]) _ rfl _ (span_is (wf_mk9 (by omega)) rfl) info_span2 ?_; intro w2 hown2 hg2; have HOWN2 := Lib.hid hown2; have HG2 := Lib.hid hg2; clear hown2 hg2)
        go_roundg (n + 64 - (i + 1))
        case measure => omega
        case rel =>
          refine ⟨i + 1, by omega, by go_num, rfl, by rw [← HST.out, HLI.out]; exact HOWN2.out, HBW.out.grown HG2.out hsz fun b hb => by simp only [Option.some.injEq] at hb; omega⟩
    · obtain rfl : i = n + 64 := by omega
      have hown' : Own Rep.span 78 wr w.heap.size nob (.slice (some ⟨w.heap.size, 0, none⟩) (n + 64) (n + 64)) (l ++ marksS n) := by
        have h := HLl.out
        rw [show filling L Span.z (n + 64) = L by rw [← h, filling_all], HLe.out] at hown
        exact hown
      have HOWN := Lib.hid hown'
      have HBW := Lib.hid hbw
      clear hown hown' hbw hin
      go_wp2_with fail
      go_ret
      exact ⟨_, rfl, HOWN.out, HBW.out⟩
/-- Own rows, read. -/
theorem Own.readF {α : Type} {r : Rep α} {e : TypeId} {w : World} {base : Nat} {g n c : Nat} {l : List α} (h : Own r e w base nob (.slice (some ⟨g, 0, none⟩) n c) l) : SliceAt r w (btw base w.heap.size) (some ⟨g, 0, none⟩) c l := by
  obtain ⟨A', n', c', e, hn', h1, h2, hs⟩ := h.read
  simp only [Value.slice.injEq] at e
  obtain ⟨rfl, rfl, rfl⟩ := e
  exact hs
set_option maxRecDepth 100000 in
set_option maxHeartbeats 4000000 in
theorem spareSpans_any (g n : Nat) (l : List Span) (w : World) (S : Blocks) (hn : n = l.length) (hown : SliceAt Rep.span w S (some ⟨g, 0, none⟩) (n + 64) (l ++ marksS n)) (hb : n ≤ 2147483647) :
    Calls Tryd.prog 28 #[.slice (some ⟨g, 0, none⟩) n (n + 64)] w fun e w' => e = .returned (.bool true) ∧ ∃ q, w' = w.drewN q := by
  have hLl : (l ++ marksS n).length = n + 64 := by rw [List.length_append, marksS_len, hn]
  have HN := Lib.hid hn
  have HOWN := Lib.hid hown
  have HLl := Lib.hid hLl
  clear hn hown hLl
  go_enter Tryd.func28, Tryd.ntmps28
  go_wp2_with fail
  go_loopg [4] 64 (fun k iv wr => ∃ i nd : Nat, n ≤ i ∧ i ≤ n + 64 ∧ iv = .int .i64 i ∧ k = n + 64 - i ∧ wr = w.drewN nd)
  case atStart => exact ⟨n, 0, Nat.le_refl _, by omega, rfl, by omega, rfl⟩
  case round =>
    obtain ⟨i, nd, hi0, hi, rfl, rfl, rfl⟩ := hrel
    by_cases hin : i < n + 64
    · have hil : i < (l ++ marksS n).length := by have := HLl.out; omega
      obtain ⟨g', o', he, -, k0, k1, -, -⟩ := span_cells HOWN.out (Same.refl _ _) hil
      simp only [Option.some.injEq, Addr.mk.injEq] at he
      obtain ⟨rfl, rfl, -⟩ := he
      have hLi : (l ++ marksS n)[i] = ⟨mk9 i, -7⟩ := by
        have := HN.out
        rw [List.getElem_append_right (by omega)]
        simp only [← this]
        exact marksS_at n i (by omega) _
      rw [hLi] at k0 k1
      simp only [Nat.zero_add, mk9] at k0 k1
      clear hLi
      obtain ⟨W, hW⟩ : ∃ W, W = w.drewN nd := ⟨_, rfl⟩
      have HW := Lib.hid hW
      have e0 : ∀ a, W.cell? a = w.cell? a := fun a => by rw [hW]; rfl
      rw [← e0] at k0 k1
      rw [← hW]
      clear e0 hW
      go_wp2_with fail
      go_quiet ((go_at_call 61; exact quiet_left (num9 i _ (by omega))))
      go_wp2_with fail
      go_roundg (n + 64 - (i + 1))
      case measure => omega
      case rel => exact ⟨i + 1, nd + nq, by omega, by omega, by go_num, rfl, by rw [HW.out]; exact World.drewN_drewN _ _ _⟩
    · obtain rfl : i = n + 64 := by omega
      go_wp2_with fail
      go_ret
      exact ⟨rfl, _, rfl⟩
/-! ### Pieces -/
def Rep.wp : Rep (Option (Piece ⊕ Nat)) where
  n := 2
  is := fun w S cs x => match x with
    | none => cs = [.int .i64 0, .slice none 0 0]
    | some (.inr i) => cs = [.int .i64 (9437184 + (i : Int) + 1), .slice none 0 0]
    | some (.inl p) => ∃ g, cs = [.int .i64 p.group, .slice (some ⟨g, 0, none⟩) p.text.length (p.text.length + 64)] ∧ (Lit.int .i64 p.group).wf = true ∧ SliceAt Rep.byte w S (some ⟨g, 0, none⟩) (p.text.length + 64) (p.text ++ marksW p.text.length)
  size := by
    intro w S cs x h
    match x, h with
    | none, h => rw [show cs = _ from h]; rfl
    | some (.inr i), h => rw [show cs = _ from h]; rfl
    | some (.inl p), h => obtain ⟨g, rfl, -⟩ := h; rfl
  keep := by
    intro w w' S S' cs x h hS hk
    match x, h with
    | none, h => exact h
    | some (.inr i), h => exact h
    | some (.inl p), h => obtain ⟨g, e, hw, hs⟩ := h; exact ⟨g, e, hw, hs.keep hS hk⟩
  one := by
    intro w S cs x h
    match x, h with
    | none, h => rw [show cs = _ from h]; simp [Value.oneCell']
    | some (.inr i), h => rw [show cs = _ from h]; simp [Value.oneCell']
    | some (.inl p), h => obtain ⟨g, rfl, -⟩ := h; simp [Value.oneCell']
def marksP (n : Nat) : List (Option (Piece ⊕ Nat)) := (List.range 64).map fun j => some (.inr (n + j))
theorem marksP_len (n : Nat) : (marksP n).length = 64 := by simp [marksP]
theorem marksP_at (n i : Nat) (h : n ≤ i) (h' : i - n < (marksP n).length) : (marksP n)[i - n] = some (.inr i) := by
  simp only [marksP, List.getElem_map, List.getElem_range]
  congr 2
  omega
def wps (l : List Piece) : List (Option (Piece ⊕ Nat)) := (l.map fun p => some (.inl p)) ++ marksP l.length
theorem wps_len (l : List Piece) : (wps l).length = l.length + 64 := by simp [wps, marksP_len]
theorem wps_lt (l : List Piece) {i : Nat} (hi : i < l.length) : (wps l)[i]'(by rw [wps_len]; omega) = some (.inl l[i]) := by
  unfold wps
  rw [List.getElem_append_left (by simpa using hi)]
  simp
theorem wps_ge (l : List Piece) {i : Nat} (hi : l.length ≤ i) (h : i < (wps l).length) : (wps l)[i] = some (.inr i) := by
  have h0 := wps_len l
  have h2 : (wps l)[i]? = some (some (.inr i)) := by
    unfold wps
    rw [List.getElem?_append_right (by simpa using hi)]
    simp only [List.length_map]
    rw [List.getElem?_eq_getElem (by rw [marksP_len]; omega), marksP_at _ _ hi]
  rw [List.getElem?_eq_getElem h] at h2
  exact Option.some.inj h2
/-- As plain pieces. -/
theorem SliceAt.pieces {w : World} {S : Blocks} {A : Option Addr} {c : Nat} {l : List Piece} (h : SliceAt Rep.wp w S A c (wps l)) : SliceAt Rep.piece w S A c l := by
  have h1 := h.1
  rw [wps_len] at h1
  refine ⟨by omega, h.2.1, h.2.2.1, fun i hi => ?_⟩
  obtain ⟨g, o, cs, e, hb, hc, hr⟩ := h.at_ (i := i) (by rw [wps_len]; omega)
  rw [wps_lt l hi] at hr
  obtain ⟨gt, rfl, hw, hs⟩ := hr
  have hcut := hs.cutTo (j := l[i].text.length) (by simp)
  rw [List.take_left] at hcut
  exact ⟨g, o, _, e, hb, hc, [_], [_], rfl, ⟨rfl, hw⟩, some ⟨gt, 0, none⟩, _, rfl, hcut⟩
theorem Own.widen {α : Type} {r : Rep α} {e : TypeId} {w w' : World} {base : Nat} {S S' : Blocks} {v : Value} {l : List α} (h : Own r e w base S v l) (hb : Below w.heap.size w w') (hS' : ∀ b, S' b → b < w'.heap.size ∧ some b ≠ v.ownBlock) (hSS : ∀ b, S b → S' b) : Own r e w' base S' v l := by
  obtain ⟨xs, hx, hS0, h1, hr⟩ := (h.far hb)
  exact ⟨xs, hx, hS', h1, fun i hi => r.keep (hr i hi) hSS (Same.refl _ _)⟩
theorem info_piece2 : (Tryd.prog.info? 81).map (·.size) = some Rep.wp.n := by kernel_rfl
theorem info_pieceW : (Tryd.prog.info? 81).map (fun i => (i.zero, i.size, i.bytes)) = some (some (.agg #[.int .i64 0, .slice none 0 0]), 2, 32) := by kernel_rfl
theorem run_make_pieces (u : World) (n : Nat) (hn : n ≤ 1099511627776) : (Instr.makeSlice 26 (.int .i64 (n : Int)) (.int .i64 (n : Int))).run Tryd.prog u = .ok (.slice (some ⟨u.heap.size, 0, none⟩) n n) (u.alloc (.cells (madeCells #[.int .i64 0, .slice none 0 0] (n * 2)) 81)) := by
  obtain ⟨i0, hi, hz0, hz1, hz2⟩ := info_parts info_pieceW
  have h := run_make (P := Tryd.prog) u 26 81 i0 _ Tryd.underlying26 hi hz0 .i64 .i64 (n : Int) (n : Int) (by omega) (Int.le_refl _) (by rw [hz2]; omega) (by omega)
  have e : ((n : Int)).toNat = n := by omega
  rw [e] at h
  simpa [hz1, Value.cells] using h
theorem piece_result (tmps : Array Value) (w' : World) (G : Nat) (k : Int) (v : Value) (h : w'.heap[G]? = some (.cells #[.int .i64 k, v] 81)) (h2 : tmps.getD 2 undef = .pointer (some ⟨G, 0, none⟩)) :
    (results Tryd.f60 tmps).run Tryd.prog w' = .ok (.agg #[.int .i64 k, v]) w' := by
  have c0 := cell_of_row w' G 0 _ _ (0, 0) h
  have c1 := cell_of_row w' G 1 _ _ (0, 0) h
  simp at c0 c1
  simp only [Array.getD_eq_getD_getElem?] at h2
  simp [results, Tryd.results60, go_sem, *]
set_option maxRecDepth 100000 in
theorem widePiece_any (k : Int) (A : Option Addr) (n c : Nat) (l : List UInt8) (w : World) (S : Blocks) (hn : Hid (n = l.length)) (hl : Hid (SliceAt Rep.byte w S A c l)) (hS : Hid (∀ b, S b → b < w.heap.size)) (hb : n ≤ 140737488351232) :
    Calls Tryd.prog 60 #[.agg #[.int .i64 k, .slice A n c]] w fun e w' => ∃ g, e = .returned (.agg #[.int .i64 k, .slice (some ⟨g, 0, none⟩) n (n + 64)]) ∧ Hid (SliceAt Rep.byte w' (btw w.heap.size w'.heap.size) (some ⟨g, 0, none⟩) (n + 64) (l ++ marksW n)) ∧ Hid (Below w.heap.size w w') := by
  have hnc : n ≤ c := by rw [hn.out]; exact hl.out.len
  have hcm := hl.out.max
  obtain ⟨W0, hW0⟩ : ∃ W0, W0 = (w.alloc (.cells #[.int .i64 k, .slice A n c] 81)).alloc (.cells #[.int .i64 0, .slice none 0 0] 81) := ⟨_, rfl⟩
  have hb0 : Below w.heap.size w W0 := by rw [hW0]; exact ((Below.refl _ _).alloc (Nat.le_refl _) _).alloc (by simp) _
  have hz0 : W0.heap.size = w.heap.size + 2 := by rw [hW0]; simp
  have hp0 : W0.heap[w.heap.size]? = some (.cells #[.int .i64 k, .slice A n c] 81) := by rw [hW0, Below.heap_alloc _ _ _ (by simp), heap_alloc_new]
  have hp1 : W0.heap[w.heap.size + 1]? = some (.cells #[.int .i64 0, .slice none 0 0] 81) := by rw [hW0, show w.heap.size + 1 = (w.alloc (.cells #[.int .i64 k, .slice A n c] 81)).heap.size by simp, heap_alloc_new]
  have HC : Hid (∀ W, Below W0.heap.size W0 W → W.cell? ⟨w.heap.size, 0, none⟩ = some (.int .i64 k) ∧ W.cell? ⟨w.heap.size, 1, none⟩ = some (.slice A n c) ∧ W.cell? ⟨w.heap.size + 1, 0, none⟩ = some (.int .i64 0) ∧ W.cell? ⟨w.heap.size + 1, 1, none⟩ = some (.slice none 0 0) ∧ W.heap[w.heap.size + 1]? = some (.cells #[.int .i64 0, .slice none 0 0] 81)) := Lib.hid fun W hW => by
    have e0 := (hW.block w.heap.size (by omega)).trans hp0
    have e1 := (hW.block (w.heap.size + 1) (by omega)).trans hp1
    exact ⟨cell_of_row _ _ 0 _ _ (0, 0) e0, cell_of_row _ _ 1 _ _ (0, 0) e0, cell_of_row _ _ 0 _ _ (0, 0) e1, cell_of_row _ _ 1 _ _ (0, 0) e1, e1⟩
  have HB0 := Lib.hid hb0
  have HZ0 := Lib.hid hz0
  have HL0 : Hid (SliceAt Rep.byte W0.drew S A c l) := Lib.hid (hl.out.keep (fun _ h => h) (Same.of_below hb0.drew hS.out))
  have hS0 : Hid (∀ b, S b → b < W0.drew.heap.size) := Lib.hid fun b hb => Nat.lt_of_lt_of_le (hS.out b hb) hb0.size
  have hd : Below W0.heap.size W0 W0.drew := (Below.refl _ _).drew
  obtain ⟨d0, d1, d2, d3, -⟩ := HC.out W0.drew hd
  clear hb0 hz0 hp0 hp1 hd
  go_enter Tryd.func60, Tryd.ntmps60
  go_upto_region 1 with fail
  rw [← hW0]
  clear hW0
  go_region_with (first
    | (go_at_call 20; refine (wideBytes_any A n c l W0.drew S hn.out HL0.out hS0.out hb).mono ?_; rintro e w1 ⟨g, rfl, ho, hbw⟩; have hb1 : Below W0.heap.size W0 w1 := (((Below.refl _ _).drew).trans hbw); obtain ⟨r0, r1, r2, r3, r4⟩ := HC.out w1 hb1; have rf0 : w1.frozen? ⟨w.heap.size + 1, 0, none⟩ = false := (by simp [World.frozen?, r4]); have rf1 : w1.frozen? ⟨w.heap.size + 1, 1, none⟩ = false := (by simp [World.frozen?, r4]); have HO := Lib.hid ho; have HBW := Lib.hid hb1; clear ho hbw hb1))
  all_goals go_wp2_with fail
  all_goals
    have hfin : ((w1.setCell ⟨w.heap.size + 1, 0, none⟩ (.int .i64 k)).setCell ⟨w.heap.size + 1, 1, none⟩ (.slice (some ⟨g, 0, none⟩) n (n + 64))).heap[w.heap.size + 1]? = some (.cells #[.int .i64 k, .slice (some ⟨g, 0, none⟩) n (n + 64)] 81) := by simp [World.setCell, Array.getElem?_modify, r4]
    have hz0 := HZ0.out
    have hbw := HBW.out
    have hbs := hbw.size
    have ho2 : Only (fun b => b = w.heap.size + 1) w1 ((w1.setCell ⟨w.heap.size + 1, 0, none⟩ (.int .i64 k)).setCell ⟨w.heap.size + 1, 1, none⟩ (.slice (some ⟨g, 0, none⟩) n (n + 64))) := Only.setCell (F := fun b => b = w.heap.size + 1) (p := ⟨w.heap.size + 1, 1, none⟩) (Only.setCell (F := fun b => b = w.heap.size + 1) (p := ⟨w.heap.size + 1, 0, none⟩) (Only.refl _ w1) (.inl rfl) _) (.inl rfl) _
    have hd : W0.drew.heap.size = W0.heap.size := rfl
    refine bodyPost_ret (v := .agg #[.int .i64 k, .slice (some ⟨g, 0, none⟩) n (n + 64)]) (piece_result _ _ (w.heap.size + 1) k _ hfin rfl) rfl ⟨g, rfl, Lib.hid ((HO.out.readF.keep (fun _ h => h) (ho2.same fun b hb => ⟨hb.2, ?_⟩)).up fun b hb => ?_), Lib.hid ?_⟩
    · have := hb.1
      omega
    · have h1 := hb.1
      have h2 := hb.2
      have h3 := ho2.size
      exact ⟨by omega, by omega⟩
    · exact (HB0.out.trans (hbw.mono HB0.out.size)).trans (ho2.below (Nat.le_trans HB0.out.size hbs) fun b hb => by omega)
set_option maxRecDepth 100000 in
set_option maxHeartbeats 4000000 in
theorem widePieces_any (A : Option Addr) (n c : Nat) (l : List Piece) (w : World) (S : Blocks) (hn : Hid (n = l.length)) (hl : Hid (SliceAt Rep.piece w S A c l)) (hS : Hid (∀ b, S b → b < w.heap.size)) (hb : n ≤ 2147483647) (hlen : Hid (∀ p ∈ l, p.text.length ≤ 140737488351232)) :
    Calls Tryd.prog 19 #[.slice A n c] w fun e w' => ∃ g, e = .returned (.slice (some ⟨g, 0, none⟩) n (n + 64)) ∧ Hid (SliceAt Rep.wp w' (btw w.heap.size w'.heap.size) (some ⟨g, 0, none⟩) (n + 64) (wps l)) ∧ Hid (Below w.heap.size w w') := by
  have hmk := fun u => run_make_pieces u (n + 64) (by omega)
  rw [show ((n + 64 : Nat) : Int) = (n : Int) + 64 by omega] at hmk
  have hnc : n ≤ c := by rw [hn.out]; exact hl.out.len
  have hc := hl.out.max
  obtain ⟨L, hL⟩ : ∃ L, L = wps l := ⟨_, rfl⟩
  have hLl : L.length = n + 64 := by rw [hL, wps_len, hn.out]
  have HLe := Lib.hid hL
  have HLl := Lib.hid hLl
  have hown0 := Own.madeN Rep.wp 81 w (n + 64) w.heap.size #[.int .i64 0, .slice none 0 0] none (fun _ => rfl) (by decide) (Nat.le_refl _) (by simp only [maxLen]; omega)
  rw [show List.replicate (n + 64) none = filling L none 0 by rw [filling_zero, hLl]] at hown0
  have HOWN0 := Lib.hid (hown0.widen (S' := fun b => w.heap.size < b ∧ b < (w.alloc (.cells (madeCells #[.int .i64 0, .slice none 0 0] ((n + 64) * 2)) 81)).heap.size) (Below.refl _ _) (fun b hb => ⟨hb.2, by simp [Value.ownBlock]; omega⟩) fun _ h => h.elim)
  clear hL hLl hown0
  go_enter Tryd.func19, Tryd.ntmps19
  go_wp2_with fail
  go_loopg [4] (n + 64) (fun k iv wr => ∃ i : Nat, i ≤ n + 64 ∧ iv = .int .i64 i ∧ k = n + 64 - i ∧ Hid (Own Rep.wp 81 wr w.heap.size (fun b => w.heap.size < b ∧ b < wr.heap.size) (.slice (some ⟨w.heap.size, 0, none⟩) (n + 64) (n + 64)) (filling L none i)) ∧ Hid (Below w.heap.size w wr))
  case atStart => exact ⟨0, Nat.zero_le _, rfl, rfl, HOWN0, Lib.hid ((Below.refl _ _).alloc (Nat.le_refl _) _)⟩
  case round =>
    obtain ⟨i, hi, rfl, rfl, HOWN, HBW⟩ := hrel
    by_cases hin : i < n + 64
    · have hil : i < L.length := by have := HLl.out; omega
      have HFL : Hid ((filling L none i).length = n + 64) := Lib.hid (by rw [filling_len _ _ (by omega)]; exact HLl.out)
      have HST := Lib.hid (filling_step L none hil)
      have hsz := HBW.out.size
      have hgl : w.heap.size < wr.heap.size := by
        obtain ⟨cs, hcs, hr⟩ := HOWN.out.cells (k := i) (by have := HFL.out; omega)
        have h1 := Rep.wp.size hr
        cases cs with
        | nil => simp [Rep.wp] at h1
        | cons a r => exact World.block_lt_of_cell? wr _ (hcs 0 a rfl)
      by_cases hin2 : i < n
      · have hil2 : i < l.length := by have := hn.out; omega
        have hsame : Same S w wr := Same.of_below HBW.out hS.out
        obtain ⟨g, o, At, ct, rfl, k0, k1, htx, -, -⟩ := piece_at hl.out hsame hil2
        obtain ⟨p, hp⟩ : ∃ p, p = l[i] := ⟨_, rfl⟩
        have hwf : (Lit.int .i64 p.group).wf = true := by
          obtain ⟨_, _, _, _, _, _, _, _, _, ⟨_, hwf⟩, _⟩ := hl.out.at_ hil2
          rw [hp]; exact hwf
        have hLi : L[i] = some (.inl p) := by
          have h1 := HLe.out
          subst h1
          rw [wps_lt l hil2, hp]
        have hpl := hlen.out l[i] (List.getElem_mem hil2)
        rw [← hp] at k0 k1 htx hpl
        obtain ⟨nt, hnt⟩ : ∃ n, n = p.text.length := ⟨_, rfl⟩
        rw [← hnt] at k1 hpl
        have HNT := Lib.hid hnt
        have HLI := Lib.hid hLi
        have HWF := Lib.hid hwf
        have HTX := Lib.hid htx
        have HSR : Hid (∀ b, S b → b < wr.heap.size) := Lib.hid fun b hb => Nat.lt_of_lt_of_le (hS.out b hb) hsz
        obtain ⟨gr, hgr⟩ : ∃ x, x = p.group := ⟨_, rfl⟩
        rw [← hgr] at k0
        have HGR := Lib.hid hgr
        clear hp hwf hLi hnt htx hsame hgr
        go_wp2_with fail
        refine (widePiece_any gr At nt ct p.text wr S HNT HTX HSR hpl).mono ?_
        rintro e w2 ⟨gt, rfl, HT2, HB2⟩
        have HOW2 := Lib.hid (HOWN.out.widen (S' := fun b => w.heap.size < b ∧ b < w2.heap.size) HB2.out (fun b hb => ⟨hb.2, by simp [Value.ownBlock]; omega⟩) fun b hb => ⟨hb.1, Nat.lt_of_lt_of_le hb.2 HB2.out.size⟩)
        have HIS : Hid (Rep.wp.is w2 (fun b => w.heap.size < b ∧ b < w2.heap.size) [.int .i64 gr, .slice (some ⟨gt, 0, none⟩) nt (nt + 64)] (some (.inl p))) := Lib.hid ⟨gt, by rw [HGR.out, HNT.out], HWF.out, by rw [← HNT.out]; exact HT2.out.up fun b hb => ⟨by have := hb.1; omega, hb.2⟩⟩
        go_wp2_with (refine wpList_store_Own rfl 81 (.tmp 26) (.tmp 25) rfl HOW2.out i (by have := HFL.out; omega) _ rfl (by simp [Rep.wp]) _ rfl _ HIS.out info_piece2 ?_; intro w3 hown3 hg3; have HOWN3 := Lib.hid hown3; have HG3 := Lib.hid hg3; clear hown3 hg3)
        go_roundg (n + 64 - (i + 1))
        case measure => omega
        case rel =>
          have hbb : Below w.heap.size w w2 := HBW.out.trans (HB2.out.mono hsz)
          refine ⟨i + 1, by omega, by go_num, rfl, Lib.hid ?_, Lib.hid (hbb.grown HG3.out hbb.size fun b hb => by simp only [Option.some.injEq] at hb; omega)⟩
          rw [← HST.out, HLI.out]
          exact HOWN3.out.widen (Below.refl _ _) (fun b hb => ⟨hb.2, by simp [Value.ownBlock]; omega⟩) fun b hb => ⟨hb.1, Nat.lt_of_lt_of_le hb.2 HG3.out.size⟩
      · have hLi : L[i] = some (.inr i) := by
          have h1 := HLe.out
          subst h1
          exact wps_ge l (by have := hn.out; omega) hil
        have HLI := Lib.hid hLi
        have hd2 : n ≤ i := by omega
        clear hLi hin2
        go_wp2_with fail
        refine (num9 i _ (by omega)).mono ?_
        rintro e w' ⟨rfl, rfl⟩
        go_wp2_with (refine wpList_store_Own rfl 81 (.tmp 32) (.tmp 31) rfl HOWN.out i (by have := HFL.out; omega) _ rfl (by simp [Rep.wp]) _ rfl (some (.inr i)) rfl info_piece2 ?_; intro w3 hown3 hg3; have HOWN3 := Lib.hid hown3; have HG3 := Lib.hid hg3; clear hown3 hg3)
        go_roundg (n + 64 - (i + 1))
        case measure => omega
        case rel =>
          refine ⟨i + 1, by omega, by go_num, rfl, Lib.hid ?_, Lib.hid (HBW.out.grown HG3.out hsz fun b hb => by simp only [Option.some.injEq] at hb; omega)⟩
          rw [← HST.out, HLI.out]
          exact HOWN3.out.widen (Below.refl _ _) (fun b hb => ⟨hb.2, by simp [Value.ownBlock]; omega⟩) fun b hb => ⟨hb.1, Nat.lt_of_lt_of_le hb.2 HG3.out.size⟩
    · obtain rfl : i = n + 64 := by omega
      have HO2 : Hid (SliceAt Rep.wp wr (btw w.heap.size wr.heap.size) (some ⟨w.heap.size, 0, none⟩) (n + 64) (wps l)) := Lib.hid (by
        have h := HLl.out
        have ho := HOWN.out
        rw [show filling L none (n + 64) = L by rw [← h, filling_all], HLe.out] at ho
        obtain ⟨A', c', e, hs⟩ := ho.slice
        simp only [Value.slice.injEq] at e
        obtain ⟨rfl, -, rfl⟩ := e
        refine hs.up fun b hb => ?_
        rcases hb with hb | hb
        · exact ⟨hb.1, hb.2.1⟩
        · exact ⟨Nat.le_of_lt hb.1, hb.2⟩)
      clear HOWN hin
      go_wp2_with fail
      go_ret
      exact ⟨_, rfl, HO2, HBW⟩
theorem wp_cells {w : World} {S : Blocks} {A : Option Addr} {c : Nat} {l : List (Option (Piece ⊕ Nat))} (h : SliceAt Rep.wp w S A c l) {i : Nat} (hi : i < l.length) : ∃ g o cs, A = some ⟨g, o, none⟩ ∧ CellsAt w g (o + i * 2) cs ∧ Rep.wp.is w S cs l[i] := by
  obtain ⟨g, o, cs, e, -, hc, hr⟩ := h.at_ hi
  exact ⟨g, o, cs, e, hc, hr⟩
set_option maxRecDepth 100000 in
set_option maxHeartbeats 4000000 in
theorem sparePieces_any (g n : Nat) (l : List Piece) (w : World) (S : Blocks) (hn : Hid (n = l.length)) (hl : Hid (SliceAt Rep.wp w S (some ⟨g, 0, none⟩) (n + 64) (wps l))) (hb : n ≤ 2147483647) (hlen : Hid (∀ p ∈ l, p.text.length ≤ 140737488351232)) :
    Calls Tryd.prog 24 #[.slice (some ⟨g, 0, none⟩) n (n + 64)] w fun e w' => e = .returned (.bool true) ∧ ∃ q, w' = w.drewN q := by
  have HLl : Hid ((wps l).length = n + 64) := Lib.hid (by rw [wps_len, hn.out])
  go_enter Tryd.func24, Tryd.ntmps24
  go_upto_block 0 with fail
  go_cut [] from 4 (fun wc => ∃ q, wc = w.drewN q)
  case first =>
    go_wp2_with fail
    go_loopg [4] 64 (fun k iv wr => ∃ i nd : Nat, n ≤ i ∧ i ≤ n + 64 ∧ iv = .int .i64 i ∧ k = n + 64 - i ∧ wr = w.drewN nd)
    case atStart => exact ⟨n, 0, Nat.le_refl _, by omega, rfl, by omega, rfl⟩
    case round =>
      obtain ⟨i, nd, hi0, hi, rfl, rfl, rfl⟩ := hrel
      by_cases hin : i < n + 64
      · obtain ⟨g', o', cs, he, hcs, hr⟩ := wp_cells hl.out (i := i) (by have := HLl.out; omega)
        simp only [Option.some.injEq, Addr.mk.injEq] at he
        obtain ⟨rfl, rfl, -⟩ := he
        rw [wps_ge l (by have := hn.out; omega)] at hr
        obtain rfl := hr
        obtain ⟨k0, k1⟩ := hcs.two
        simp only [Nat.zero_add] at k0 k1
        clear hcs
        obtain ⟨W, hW⟩ : ∃ W, W = w.drewN nd := ⟨_, rfl⟩
        have HW := Lib.hid hW
        have e0 : ∀ a, W.cell? a = w.cell? a := fun a => by rw [hW]; rfl
        rw [← e0] at k0 k1
        rw [← hW]
        clear e0 hW
        go_wp2_with fail
        go_quiet ((go_at_call 61; exact quiet_left (num9 i _ (by omega))))
        go_wp2_with fail
        go_roundg (n + 64 - (i + 1))
        case measure => omega
        case rel => exact ⟨i + 1, nd + nq, by omega, by omega, by go_num, rfl, by rw [HW.out]; exact World.drewN_drewN _ _ _⟩
      · obtain rfl : i = n + 64 := by omega
        go_wp2_with fail
        go_meet
        case rel => exact ⟨_, rfl⟩
  case rest =>
    obtain ⟨nd, rfl⟩ := hcut
    go_wp2_with fail
    go_loopg [5] n (fun k iv wr => ∃ i : Nat, i ≤ n ∧ iv = .int .i64 i ∧ k = n - i ∧ wr = w.drewN nd)
    case atStart => exact ⟨0, Nat.zero_le _, rfl, rfl, rfl⟩
    case round =>
      obtain ⟨i, hi, rfl, rfl, rfl⟩ := hrel
      by_cases hin : i < n
      · have hil2 : i < l.length := by have := hn.out; omega
        obtain ⟨g', o', cs, he, hcs, hr⟩ := wp_cells hl.out (i := i) (by have := HLl.out; omega)
        simp only [Option.some.injEq, Addr.mk.injEq] at he
        obtain ⟨rfl, rfl, -⟩ := he
        rw [wps_lt l hil2] at hr
        obtain ⟨gt, rfl, -, hs⟩ := hr
        have hpl := hlen.out l[i] (List.getElem_mem hil2)
        obtain ⟨k0, k1⟩ := hcs.two
        obtain ⟨tx, htx⟩ : ∃ t, t = l[i].text := ⟨_, rfl⟩
        rw [← htx] at hs k1 hpl
        obtain ⟨nt, hnt⟩ : ∃ n, n = tx.length := ⟨_, rfl⟩
        rw [← hnt] at k1 hs hpl
        have HNT := Lib.hid hnt
        have HS := Lib.hid (hs.drewN nd)
        simp only [Nat.zero_add] at k1
        obtain ⟨W, hW⟩ : ∃ W, W = w.drewN nd := ⟨_, rfl⟩
        have k2 : W.cell? ⟨g, i * 2 + 1, none⟩ = some (.slice (some ⟨gt, 0, none⟩) nt (nt + 64)) := by rw [hW]; exact k1
        rw [← hW] at HS ⊢
        have HW := Lib.hid hW
        clear hcs k0 k1 hs hnt htx hW
        go_wp2_with fail
        refine (spareBytes_rd gt nt tx W S HNT.out HS.out hpl).mono ?_
        rintro e w2 ⟨rfl, rfl⟩
        go_wp2_with fail
        go_roundg (n - (i + 1))
        case measure => omega
        case rel => exact ⟨i + 1, by omega, by go_num, rfl, HW.out⟩
      · obtain rfl : i = n := by omega
        go_wp2_with fail
        go_ret
        exact ⟨rfl, _, rfl⟩
end Go.Proofs.YtebbilkkacbfjaaDoor
