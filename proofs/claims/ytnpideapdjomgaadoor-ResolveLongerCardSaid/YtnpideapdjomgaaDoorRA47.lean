/- Texts that lead to the claim, one behind the other: Copies of nodes, addresses, pieces, commands: the walks of galleyref00's CopyNodes .. CopyCmds. Condition: room. | Copies of pieces: the walks of CopyPiece, CopyPieces. Condition: room. | A copy of a list of pieces: the walk of CopyPieces. Condition: room. -/
import Derived.Test.YtnpideapdjomgaaDoorRA25
import Derived.Test.YtnpideapdjomgaaDoorRA46
import Derived.Test.YtnpideapdjomgaaDoorRA39
import Derived.Deep.RegionWith
namespace Go.Proofs.YtnpideapdjomgaaDoor
open Go.RowKit Go.Shelf Go.ChangeShapes Go.WideShapes Go.Deep

set_option maxRecDepth 100000 in
set_option maxHeartbeats 1000000 in
theorem copyNodes_any (A : Option Addr) (n c : Nat) (l : List Nd) (w : World) (S : Blocks) (hn : Hid (n = l.length)) (hl : Hid (SliceAt Rep.nd w S A c l)) (hb : n ≤ 1099511627776) :
    Calls Tryd.prog 43 #[.slice A n c] w fun e w' => ∃ A' c', e = .returned (.slice A' n c') ∧ Own Rep.nd 66 w' w.heap.size nob (.slice A' n c') l ∧ Below w.heap.size w w' := by
  go_enter Tryd.func43, Tryd.ntmps43
  go_wp2_with (at_builtin; refine wpList_append_Own _ rfl (.tmp 4) (.tmp 5) 36 rfl Rep.nd w.heap.size 66 72 stNds nob (.slice none 0 0) [] rfl (Own.nil _ _ _ _) S A c l (by rw [← hn.out]; rfl) hl.out nob (fun _ h => h.elim) (fun _ h => h) (fun _ _ h => h) (by rw [← hn.out]; simp <;> omega) (by rw [← hn.out]; simp <;> omega) (by simp) ?_; intro v' w1 hown hg hat; obtain ⟨A', n', c', rfl, hn', -, -⟩ := hown.form; have HO := Lib.hid hown; have HG := Lib.hid hg; have HN := Lib.hid hn'.out; clear hown hg hat hn')
  go_ret
  have e : n' = n := by rw [HN.out, hn.out]; simp
  subst e
  exact ⟨A', c', rfl, by simpa using HO.out, below_own (Below.refl _ _) (Own.nil Rep.nd 66 _ _) HG.out (Nat.le_refl _)⟩
set_option maxRecDepth 100000 in
theorem addr_result (tmps : Array Value) (w' : World) (G : Nat) (a b c : Value) (h : w'.heap[G]? = some (.cells #[a, b, c] 38 (0, 0))) (h2 : tmps.getD 2 undef = .pointer (some ⟨G, 0, none⟩)) :
    (results Tryd.f41 tmps).run Tryd.prog w' = .ok (.agg #[a, b, c]) w' := by
  have c0 := cell_of_row w' G 0 _ _ (0, 0) h
  have c1 := cell_of_row w' G 1 _ _ (0, 0) h
  have c2 := cell_of_row w' G 2 _ _ (0, 0) h
  simp at c0 c1 c2
  simp only [Array.getD_eq_getD_getElem?] at h2
  simp [results, Tryd.results41, go_sem, *]
set_option maxRecDepth 100000 in
set_option maxHeartbeats 2000000 in
theorem copyAddr_any (k m : Int) (A : Option Addr) (n c : Nat) (l : List Nd) (w : World) (S : Blocks) (hn : Hid (n = l.length)) (hl : Hid (SliceAt Rep.nd w S A c l)) (hS : Hid (∀ b, S b → b < w.heap.size)) (hb : n ≤ 1099511627776) :
    Calls Tryd.prog 41 #[.agg #[.int .i8 k, .int .i64 m, .slice A n c]] w fun e w' => ∃ A' c', e = .returned (.agg #[.int .i8 k, .int .i64 m, .slice A' n c']) ∧ SliceAt Rep.nd w' (btw w.heap.size w'.heap.size) A' c' l ∧ Below w.heap.size w w' := by
  obtain ⟨w1, hw1⟩ : ∃ W, W = (w.alloc (.cells #[.int .i8 k, .int .i64 m, .slice A n c] 38)).alloc (.cells #[.int .i8 0, .int .i64 0, .slice none 0 0] 38) := ⟨_, rfl⟩
  have HW1 := Lib.hid hw1
  have HB1 : Hid (Below w.heap.size w w1) := Lib.hid (by rw [hw1]; exact ((Below.refl _ w).alloc (Nat.le_refl _) _).alloc (by simp) _)
  have HX1 : Hid (w1.heap[w.heap.size]? = some (.cells #[.int .i8 k, .int .i64 m, .slice A n c] 38 (0, 0))) := Lib.hid (by rw [hw1, Below.heap_alloc _ _ _ (by simp)]; exact heap_alloc_new w _)
  have HY1 : Hid (w1.heap[w.heap.size + 1]? = some (.cells #[.int .i8 0, .int .i64 0, .slice none 0 0] 38 (0, 0))) := Lib.hid (by
    rw [hw1]
    have := heap_alloc_new (w.alloc (.cells #[.int .i8 k, .int .i64 m, .slice A n c] 38)) (.cells #[.int .i8 0, .int .i64 0, .slice none 0 0] 38)
    rwa [show (w.alloc (.cells #[.int .i8 k, .int .i64 m, .slice A n c] 38)).heap.size = w.heap.size + 1 from by simp] at this)
  have HC := Lib.hid (copyNodes_any A n c l w1 S hn (Lib.hid (hl.out.keep (fun _ h => h) (Same.of_below HB1.out hS.out))) hb)
  have x2 : w1.cell? ⟨w.heap.size, 2, none⟩ = some (.slice A n c) := (cell_of_row w1 _ 2 _ _ (0, 0) HX1.out).trans rfl
  clear hw1
  go_enter Tryd.func41, Tryd.ntmps41
  go_upto_region 1 with fail
  rw [← HW1.out]
  obtain ⟨gx, hgx⟩ : ∃ g, g = w.heap.size := ⟨_, rfl⟩
  obtain ⟨gy, hgy⟩ : ∃ g, g = w.heap.size + 1 := ⟨_, rfl⟩
  rw [← hgx] at x2
  rw [← hgy, ← hgx]
  have HGX := Lib.hid hgx
  have HGY := Lib.hid hgy
  rw [← hgx] at HX1
  rw [← hgy] at HY1
  clear hgx hgy
  go_upto_region 2 with (go_at_call 43; refine HC.out.mono ?_; rintro _ w2 ⟨A', c', rfl, hown, hb2⟩; have HO2 := Lib.hid hown; have HB2 := Lib.hid hb2; have hx2 : w2.heap[gx]? = some (.cells #[.int .i8 k, .int .i64 m, .slice A n c] 38 (0, 0)) := (hb2.block _ (Array.getElem?_eq_some_iff.1 HX1.out).1).trans HX1.out; have HX2 := Lib.hid hx2; have y2 : w2.cell? ⟨gx, 2, none⟩ = some (.slice A n c) := (cell_of_row w2 _ 2 _ _ (0, 0) hx2).trans rfl; have f2 : w2.frozen? ⟨gx, 2, none⟩ = false := (by simp [World.frozen?, hx2]); clear hown hb2 hx2)
  obtain ⟨w3, hw3⟩ : ∃ W, W = w2.setCell ⟨gx, 2, none⟩ (.slice A' n c') := ⟨_, rfl⟩
  rw [← hw3]
  have hx3 : w3.heap[gx]? = some (.cells #[.int .i8 k, .int .i64 m, .slice A' n c'] 38 (0, 0)) := by
    rw [hw3, setCell_eq_setRow w2 gx 2 _ _ _ _ HX2.out]
    exact setRow_heap w2 gx _ _ _ _ HX2.out
  have hy3 : w3.heap[gy]? = some (.cells #[.int .i8 0, .int .i64 0, .slice none 0 0] 38 (0, 0)) := by
    rw [hw3, setCell_eq_setRow w2 gx 2 _ _ _ _ HX2.out, setRow_other w2 gx _ _ (by have := HGX.out; have := HGY.out; omega)]
    exact (HB2.out.block _ (Array.getElem?_eq_some_iff.1 HY1.out).1).trans HY1.out
  have hb3 : Below w.heap.size w w3 := by
    rw [hw3, setCell_eq_setRow w2 gx 2 _ _ _ _ HX2.out]
    exact below_setRow (HB1.out.trans (HB2.out.mono HB1.out.size)) (by have := HGX.out; omega) _
  have hsl : SliceAt Rep.nd w3 (btw w1.heap.size w3.heap.size) A' c' l := by
    obtain ⟨A'', n'', c'', h1, _, _, _, h2⟩ := HO2.out.read
    simp only [Value.slice.injEq] at h1
    obtain ⟨rfl, _, rfl⟩ := h1
    rw [hw3, setCell_eq_setRow w2 gx 2 _ _ _ _ HX2.out]
    refine h2.keep (fun b hb => ⟨hb.1, by rw [size_setRow]; exact hb.2⟩) fun b hb => setRow_other w2 gx _ _ ?_
    have h3 := hb.1
    have h4 := (Array.getElem?_eq_some_iff.1 HX1.out).1
    omega
  have z0 : w3.cell? ⟨gx, 0, none⟩ = some (.int .i8 k) := (cell_of_row w3 _ 0 _ _ (0, 0) hx3).trans rfl
  have z1 : w3.cell? ⟨gx, 1, none⟩ = some (.int .i64 m) := (cell_of_row w3 _ 1 _ _ (0, 0) hx3).trans rfl
  have z2 : w3.cell? ⟨gx, 2, none⟩ = some (.slice A' n c') := (cell_of_row w3 _ 2 _ _ (0, 0) hx3).trans rfl
  have HY3 := Lib.hid hy3
  have HB3 := Lib.hid hb3
  have HSL := Lib.hid hsl
  clear hw3 hx3 hy3 hb3 hsl y2 f2 x2
  go_wp2_with (refine wpList_store_row rfl 38 (.tmp 2) (.tmp 7) rfl gy #[.int .i8 k, .int .i64 m, .slice A' n c'] rfl rfl 38 _ HY3.out (by kernel_rfl) rfl (by simp [Value.oneCell']) ?_)
  refine bodyPost_ret (addr_result _ _ gy _ _ _ (setRow_heap w3 gy _ _ _ _ HY3.out) rfl) rfl ⟨A', c', rfl, ?_, ?_⟩
  · have hsz : (w3.setRow gy #[.int .i8 k, .int .i64 m, .slice A' n c']).heap.size = w3.heap.size := size_setRow ..
    refine HSL.out.keep (fun b hb => ⟨Nat.le_trans HB1.out.size hb.1, by rw [hsz]; exact hb.2⟩) fun b hb => setRow_other w3 gy _ _ ?_
    have h3 := hb.1
    have h4 := (Array.getElem?_eq_some_iff.1 HY1.out).1
    omega
  · exact below_setRow HB3.out (by have := HGY.out; omega) _
end Go.Proofs.YtnpideapdjomgaaDoor
namespace Go.Proofs.YtnpideapdjomgaaDoor
open Go.RowKit Go.Shelf Go.ChangeShapes Go.WideShapes Go.Deep

set_option maxRecDepth 100000 in
theorem piece_result (tmps : Array Value) (w' : World) (G : Nat) (a b : Value) (h : w'.heap[G]? = some (.cells #[a, b] 76 (0, 0))) (h2 : tmps.getD 2 undef = .pointer (some ⟨G, 0, none⟩)) :
    (results Tryd.f54 tmps).run Tryd.prog w' = .ok (.agg #[a, b]) w' := by
  have c0 := cell_of_row w' G 0 _ _ (0, 0) h
  have c1 := cell_of_row w' G 1 _ _ (0, 0) h
  simp at c0 c1
  simp only [Array.getD_eq_getD_getElem?] at h2
  simp [results, Tryd.results54, go_sem, *]
theorem setRow_setRow22 (w : World) (g : Nat) (X Y Z : Array Value) (t : TypeId) (h : w.heap[g]? = some (.cells Z t (0, 0))) : (w.setRow g X).setRow g Y = w.setRow g Y := by
  simp only [World.setRow]
  congr 1
  apply Array.ext_getElem?
  intro i
  simp only [Array.getElem?_modify]
  by_cases e : g = i
  · subst e; simp [h]
  · simp [e]
theorem below_x22 (B : Nat) (w : World) : Below B w w.drew := ⟨rfl, rfl, rfl, Nat.le_refl _, fun _ _ => rfl⟩
set_option maxRecDepth 100000 in
set_option maxHeartbeats 2000000 in
theorem copyPiece_any (k : Int) (A : Option Addr) (n c : Nat) (l : List UInt8) (w : World) (S : Blocks) (hn : Hid (n = l.length)) (hl : Hid (SliceAt Rep.byte w S A c l)) (hS : Hid (∀ b, S b → b < w.heap.size)) (hb : n ≤ 140737488351232) :
    Calls Tryd.prog 54 #[.agg #[.int .i64 k, .slice A n c]] w fun e w' => ∃ A' c', e = .returned (.agg #[.int .i64 k, .slice A' n c']) ∧ SliceAt Rep.byte w' (btw w.heap.size w'.heap.size) A' c' l ∧ Below w.heap.size w w' := by
  obtain ⟨w1, hw1⟩ : ∃ W, W = (w.alloc (.cells #[.int .i64 k, .slice A n c] 76)).alloc (.cells #[.int .i64 0, .slice none 0 0] 76) := ⟨_, rfl⟩
  have HW1 := Lib.hid hw1
  have HB1 : Hid (Below w.heap.size w w1) := Lib.hid (by rw [hw1]; exact ((Below.refl _ w).alloc (Nat.le_refl _) _).alloc (by simp) _)
  have HX1 : Hid (w1.heap[w.heap.size]? = some (.cells #[.int .i64 k, .slice A n c] 76 (0, 0))) := Lib.hid (by rw [hw1, Below.heap_alloc _ _ _ (by simp)]; exact heap_alloc_new w _)
  have HY1 : Hid (w1.heap[w.heap.size + 1]? = some (.cells #[.int .i64 0, .slice none 0 0] 76 (0, 0))) := Lib.hid (by
    rw [hw1]
    have := heap_alloc_new (w.alloc (.cells #[.int .i64 k, .slice A n c] 76)) (.cells #[.int .i64 0, .slice none 0 0] 76)
    rwa [show (w.alloc (.cells #[.int .i64 k, .slice A n c] 76)).heap.size = w.heap.size + 1 from by simp] at this)
  have HC : Hid (Calls Tryd.prog 42 #[.slice A n c] w1.drew fun e w' => ∃ A' c', e = .returned (.slice A' n c') ∧ SliceAt Rep.byte w' (btw w1.heap.size w'.heap.size) A' c' l ∧ Below w1.heap.size w1 w') := Lib.hid (by
    refine (copyBytes A n c l w1.drew S hn.out ((hl.out.keep (fun _ h => h) (Same.of_below HB1.out hS.out)).keep (fun _ h => h) fun _ _ => rfl) (by omega)).mono ?_
    rintro e w' ⟨v, rfl, ho, hb'⟩
    obtain ⟨A', n', c', rfl, hn', _, _, h2⟩ := ho.read
    have e : n' = n := by rw [hn'.out, hn.out]
    subst e
    exact ⟨A', c', rfl, h2, ⟨hb'.os, hb'.tape, hb'.output, hb'.size, hb'.block⟩⟩)
  have x0 : w1.cell? ⟨w.heap.size, 0, none⟩ = some (.int .i64 k) := (cell_of_row w1 _ 0 _ _ (0, 0) HX1.out).trans rfl
  have x1 : w1.cell? ⟨w.heap.size, 1, none⟩ = some (.slice A n c) := (cell_of_row w1 _ 1 _ _ (0, 0) HX1.out).trans rfl
  clear hw1
  go_enter Tryd.func54, Tryd.ntmps54
  go_upto_region 1 with fail
  rw [← HW1.out]
  obtain ⟨gx, hgx⟩ : ∃ g, g = w.heap.size := ⟨_, rfl⟩
  obtain ⟨gy, hgy⟩ : ∃ g, g = w.heap.size + 1 := ⟨_, rfl⟩
  rw [← hgx] at x0 x1
  rw [← hgy, ← hgx]
  have HGX := Lib.hid hgx
  have HGY := Lib.hid hgy
  rw [← hgx] at HX1
  rw [← hgy] at HY1
  clear hgx hgy
  go_region_with (first
    | (go_at_call 42; refine HC.out.mono ?_; rintro _ w2 ⟨A', c', rfl, hs2, hb2⟩; have HS2 := Lib.hid hs2; have HB2 := Lib.hid hb2; have hx2 : w2.heap[gx]? = some (.cells #[.int .i64 k, .slice A n c] 76 (0, 0)) := (hb2.block _ (Array.getElem?_eq_some_iff.1 HX1.out).1).trans HX1.out; have hy2 : w2.heap[gy]? = some (.cells #[.int .i64 0, .slice none 0 0] 76 (0, 0)) := (hb2.block _ (Array.getElem?_eq_some_iff.1 HY1.out).1).trans HY1.out; have HY2 := Lib.hid hy2; have y0 : w2.cell? ⟨gx, 0, none⟩ = some (.int .i64 k) := (cell_of_row w2 _ 0 _ _ (0, 0) hx2).trans rfl; have v0 : w2.cell? ⟨gy, 0, none⟩ = some (.int .i64 0) := (cell_of_row w2 _ 0 _ _ (0, 0) hy2).trans rfl; have v1 : w2.cell? ⟨gy, 1, none⟩ = some (.slice none 0 0) := (cell_of_row w2 _ 1 _ _ (0, 0) hy2).trans rfl; have g0 : w2.frozen? ⟨gy, 0, none⟩ = false := (by simp [World.frozen?, hy2]); have g1 : w2.frozen? ⟨gy, 1, none⟩ = false := (by simp [World.frozen?, hy2]); clear hs2 hb2 hx2 hy2))
  all_goals go_wp2_with fail
  all_goals
    have e2 : (w2.setCell ⟨gy, 0, none⟩ (.int .i64 k)).setCell ⟨gy, 1, none⟩ (.slice A' n c') = w2.setRow gy #[.int .i64 k, .slice A' n c'] := by
      rw [setCell_eq_setRow w2 gy 0 _ _ _ _ HY2.out]
      have h2 : (w2.setRow gy #[.int .i64 k, .slice none 0 0]).heap[gy]? = some (.cells #[.int .i64 k, .slice none 0 0] 76 (0, 0)) := setRow_heap _ _ _ _ _ _ HY2.out
      have := setCell_eq_setRow (w2.setRow gy #[.int .i64 k, .slice none 0 0]) gy 1 _ _ _ (.slice A' n c') h2
      refine Eq.trans this ?_
      exact setRow_setRow22 w2 gy _ _ _ _ HY2.out
    have hh : ((w2.setCell ⟨gy, 0, none⟩ (.int .i64 k)).setCell ⟨gy, 1, none⟩ (.slice A' n c')).heap[gy]? = some (.cells #[.int .i64 k, .slice A' n c'] 76 (0, 0)) := by rw [e2]; exact setRow_heap w2 gy _ _ _ _ HY2.out
    refine bodyPost_ret (piece_result _ _ gy _ _ hh rfl) rfl ⟨A', c', rfl, ?_, ?_⟩
    · rw [e2]
      have hsz : (w2.setRow gy #[.int .i64 k, .slice A' n c']).heap.size = w2.heap.size := size_setRow ..
      refine HS2.out.keep (fun b hb => ⟨Nat.le_trans HB1.out.size hb.1, by rw [hsz]; exact hb.2⟩) fun b hb => setRow_other w2 gy _ _ ?_
      have h3 := hb.1
      have h4 := (Array.getElem?_eq_some_iff.1 HY1.out).1
      omega
    · rw [e2]
      exact below_setRow (HB1.out.trans (HB2.out.mono HB1.out.size)) (by have := HGY.out; omega) _
end Go.Proofs.YtnpideapdjomgaaDoor
namespace Go.Proofs.YtnpideapdjomgaaDoor
open Go.RowKit Go.Shelf Go.ChangeShapes Go.WideShapes Go.Deep

set_option maxRecDepth 100000 in
set_option maxHeartbeats 2000000 in
theorem copyPieces_any (A : Option Addr) (n c : Nat) (l : List Piece) (w : World) (S : Blocks) (hn : Hid (n = l.length)) (hl : Hid (SliceAt Rep.piece w S A c l)) (hS : Hid (∀ b, S b → b < w.heap.size)) (hb : n ≤ 1099511627776) (hp : Hid (∀ p ∈ l, p.text.length ≤ 140737488351232)) :
    Calls Tryd.prog 44 #[.slice A n c] w fun e w' => ∃ A' c', e = .returned (.slice A' n c') ∧ SliceAt Rep.piece w' (btw w.heap.size w'.heap.size) A' c' l ∧ Below w.heap.size w w' := by
  have hnc : n ≤ c := by rw [hn.out]; exact hl.out.len
  have hcm := hl.out.max
  go_enter Tryd.func44, Tryd.ntmps44
  go_wp2_with fail
  go_loopg [3, 4] n (fun k v3 v4 wr => ∃ (i : Nat) (S' : Blocks), i ≤ n ∧ v4 = .int .i64 i ∧ k = n - i ∧ Hid (Own Rep.piece 76 wr w.heap.size S' v3 (l.take i)) ∧ Hid (∀ b, S' b → w.heap.size ≤ b) ∧ Hid (Below w.heap.size w wr))
  case atStart => exact ⟨0, nob, Nat.zero_le _, rfl, rfl, Lib.hid (Own.nil _ _ _ _), Lib.hid fun _ h => h.elim, Lib.hid (Below.refl _ _)⟩
  case round =>
    obtain ⟨i, S', hi, rfl, hk, HOw, HS', HB⟩ := hrel
    have HK := Lib.hid hk
    clear hk
    obtain ⟨w1, rfl⟩ : ∃ W : World, W = wr := ⟨_, rfl⟩
    by_cases hin : i < n
    · have hil : i < l.length := by rw [← hn.out]; exact hin
      obtain ⟨g, o, At, ct, rfl, pg, pt, hts, -, -⟩ := piece_at hl.out (Same.of_below HB.out hS.out) hil
      obtain ⟨p, hpe⟩ : ∃ p, p = l[i] := ⟨_, rfl⟩
      rw [← hpe] at pg pt hts
      have HPR : Hid (p.text.length ≤ 140737488351232) := Lib.hid (by rw [hpe]; exact hp.out _ (List.getElem_mem hil))
      have HTK : Hid (l.take (i + 1) = l.take i ++ [p]) := Lib.hid (by rw [hpe]; exact List.take_succ_eq_append_getElem hil)
      have HTL : Hid ((l.take i).length = i) := Lib.hid (by rw [List.length_take]; omega)
      have HWF : Hid ((Lit.int .i64 p.group).wf = true) := Lib.hid (by obtain ⟨_, _, _, _, _, _, _, _, _, ⟨_, hwf⟩, _⟩ := hl.out.at_ hil; rw [hpe]; exact hwf)
      have HS1 : Hid (∀ b, S b → b < w1.heap.size) := Lib.hid fun b hb => Nat.lt_of_lt_of_le (hS.out b hb) HB.out.size
      obtain ⟨tn, htn⟩ : ∃ tn, tn = p.text.length := ⟨_, rfl⟩
      rw [← htn] at pt
      have HTN := Lib.hid htn
      have HC := Lib.hid (copyPiece_any p.group At tn ct p.text w1 S HTN (Lib.hid hts) HS1 (by rw [htn]; exact HPR.out))
      obtain ⟨A3, n3, c3, rfl, -, -, -⟩ := HOw.out.form
      clear hpe hts htn
      go_wp2_with (first
        | (go_at_call 54; refine HC.out.mono ?_; rintro _ w2 ⟨A', c', rfl, hs2, hb2⟩; have HS2 := Lib.hid hs2; have HB2 := Lib.hid hb2; clear hs2 hb2)
        | (at_builtin; refine wpList_append_Own _ rfl (.tmp 11) (.tmp 17) 40 rfl Rep.piece w.heap.size 76 32 stPieces22 S' (.slice A3 n3 c3) (l.take i) rfl ((HOw.out.far HB2.out).alloc _) _ (some ⟨w2.heap.size, 0, none⟩) 1 [p] rfl (SliceAt.new1 Rep.piece w2 _ #[.int .i64 p.group, .slice A' tn c'] p (btw w1.heap.size w2.heap.size) ⟨[_], [_], rfl, ⟨rfl, HWF.out⟩, A', c', (by rw [HTN.out]), HS2.out⟩ (fun b hb => hb.2)) (fun b => S' b ∨ (w1.heap.size ≤ b ∧ b < w2.heap.size + 1)) (sep_new HOw.out HB2.out.size _) (fun _ h => .inl h) (flat_new HB2.out.size S') (by rw [HTL.out]; simp; omega) (by rw [HTL.out]; simp; omega) (by have := HB.out.size; have := HB2.out.size; simp; omega) ?_; intro v4 w3 hown hg3 _; have HO := Lib.hid hown; have HG := Lib.hid hg3; clear hown hg3))
      have HB3 : Hid (Below w.heap.size w w3) := Lib.hid (((HB.out.trans (HB2.out.mono HB.out.size)).alloc (Nat.le_trans HB.out.size HB2.out.size) _).grown HG.out (by have := HB.out.size; have := HB2.out.size; simp; omega) fun k hk => by obtain ⟨_, hx, _⟩ := HOw.out; exact (hx.lt k hk).1)
      go_roundg (n - (i + 1))
      case measure => have := HK.out; omega
      case rel => exact ⟨i + 1, _, by omega, by go_num, rfl, Lib.hid (by rw [HTK.out]; exact HO.out), Lib.hid (fun b hb => by
        rcases hb with hb | hb
        · exact HS'.out b hb
        · exact Nat.le_trans HB.out.size hb.1), HB3⟩
    · obtain rfl : i = n := by omega
      have hO := HOw.out
      rw [List.take_of_length_le (by rw [← hn.out]; exact Nat.le_refl _)] at hO
      obtain ⟨A', c', e, hs⟩ := hO.slice
      obtain ⟨_, _, hS2, _⟩ := hO
      subst e
      have HSL := Lib.hid hs
      have HS2 := Lib.hid hS2
      rw [← hn.out]
      clear hs hS2
      go_wp2_with fail
      go_ret
      refine ⟨A', c', rfl, HSL.out.up fun b hb => ?_, HB.out⟩
      rcases hb with hb | hb
      · exact ⟨hb.1, hb.2.1⟩
      · exact ⟨HS'.out b hb, (HS2.out b hb).1⟩
end Go.Proofs.YtnpideapdjomgaaDoor
