/- Texts that lead to the claim, one behind the other: Commands in a list: their cells; the walk of Resolve's fault. No conditions. -/
import Derived.Test.YtnpideapdjomgaaDoorRA9
import Derived.Deep.Cut
import Derived.Deep.CutBlock
namespace Go.Proofs.YtnpideapdjomgaaDoor
open Go.RowKit Go.ChangeShapes Go.WideShapes Go.Deep

theorem cm_at {w w' : World} {S : Blocks} {A : Option Addr} {c : Nat} {l : List Cm} (h : SliceAt Rep.cm w S A c l) (hk : Same S w w') {i : Nat} (hi : i < l.length) :
    ∃ g o s, A = some ⟨g, o, none⟩ ∧ S g ∧ CellsAt w' g (o + i * 272) (ccells l[i] s) ∧ l[i].wf ∧ CmL w' S l[i] s := by
  obtain ⟨g, o, cs, e, hb, hc, s, rfl, hw, hl⟩ := h.at_ hi
  exact ⟨g, o, s, e, hb, hc.keep hb hk, hw, hl.keep (fun _ h => h) hk⟩
theorem cm_field {w : World} {g o : Nat} {c : Cm} {s : CmS} (h : CellsAt w g o (ccells c s)) {k : Nat} {v : Value} (hk : (hcells c s)[k]? = some v) : w.cell? ⟨g, o + k, none⟩ = some v := by
  refine h k v ?_
  unfold ccells
  rw [List.getElem?_append_left (by exact (List.getElem?_eq_some_iff.1 hk).1)]
  exact hk
set_option maxRecDepth 100000 in
theorem fault_result (tmps : Array Value) (w' : World) (G : Nat) (a b c d x y : Value) (h : w'.heap[G]? = some (.cells #[a, b, c, d] 28)) (h2 : tmps.getD 5 undef = .pointer (some ⟨G, 0, none⟩)) (h3 : tmps.getD 6 undef = x) (h4 : tmps.getD 7 undef = y) :
    (results Tryd.f18 tmps).run Tryd.prog w' = .ok (.tuple #[.agg #[a, b, c, d], x, y]) w' := by
  have c0 := cell_of_row w' G 0 _ _ (0, 0) h
  have c1 := cell_of_row w' G 1 _ _ (0, 0) h
  have c2 := cell_of_row w' G 2 _ _ (0, 0) h
  have c3 := cell_of_row w' G 3 _ _ (0, 0) h
  simp at c0 c1 c2 c3
  simp only [Array.getD_eq_getD_getElem?] at h2 h3 h4
  simp [results, Tryd.results18, go_sem, *]
set_option maxRecDepth 100000 in
set_option maxHeartbeats 2000000 in
theorem fault_any {e : Int} {i bx n c : Nat} {A : Option Addr} {l : List Cm} {w : World} {S : Blocks} (hc : w.cell? ⟨bx, 0, none⟩ = some (.slice A n c)) (hl : Hid (SliceAt Rep.cm w S A c l)) (hS : Hid (∀ b, S b → b < w.heap.size)) (hn : n = l.length) (hi : i < l.length) :
    Calls Tryd.prog 18 #[.int .i64 e, .int .i64 i, .pointer (some ⟨bx, 0, none⟩)] w fun ee w' => ee = .returned (.tuple #[.agg #[.slice none 0 0, .slice none 0 0, .slice none 0 0, .bool false], .int .i64 e, .int .i64 l[i].pos]) ∧ Below w.heap.size w w' := by
  obtain ⟨g, o, s, rfl, hg, hcs, -, -⟩ := cm_at hl.out (Same.refl _ _) hi
  have h8 : w.cell? ⟨g, o + i * 272 + 8, none⟩ = some (.int .i64 l[i].pos) := cm_field hcs rfl
  have hlt : g < w.heap.size := hS.out g hg
  have hbx : bx < w.heap.size := World.block_lt_of_cell? w _ hc
  have hin : i < n := by omega
  obtain ⟨ps, hps⟩ : ∃ ps, ps = l[i].pos := ⟨_, rfl⟩
  rw [← hps] at h8 ⊢
  clear hcs hps hg hn hi
  go_enter Tryd.func18, Tryd.ntmps18
  go_upto_region 1 with fail
  go_region
  all_goals go_wp2_with fail
  all_goals exact bodyPost_ret (fault_result _ _ w.heap.size _ _ _ _ _ _ (heap_alloc_new w _) rfl rfl rfl) rfl ⟨rfl, ((Below.refl _ w).alloc (Nat.le_refl _) _).drew⟩
end Go.Proofs.YtnpideapdjomgaaDoor
