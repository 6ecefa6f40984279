/- Texts that lead to the claim, one behind the other: How many bytes a folder's files hold: the walk. Condition: room. -/
import Derived.Test.YtfommpbblpnljaaIM11
import Derived.Deep.LoopGhost
namespace Go.Proofs.Ytfommpbblpnljaa
open Go.RowKit Go.ChangeShapes Go.WideShapes Go.Deep

def szAt (l : Disk.Fo) (sz : Nat → Nat) (k : Disk.Nm) : Nat := ((Disk.find l k).map sz).getD 0
abbrev Goi := Disk.Going Try.prog 9
theorem below_iter {w wr w2 : World} (h : wr.grownBy w2 (some w.heap.size)) (_hs : w.heap.size ≤ wr.heap.size) : Below w.heap.size wr w2 := ⟨h.os, h.tape, h.output, h.size, fun x hx => h.block x (by omega) (by simp; omega)⟩
theorem file_cell {w w2 : World} {l : Disk.Fo} {loc sz : Nat → Nat} (hf : ∀ i ∈ Disk.ids l, loc i < w.heap.size ∧ ∃ A c, w.cell? ⟨loc i, 0, none⟩ = some (.slice A (sz i) c)) (hb : Below w.heap.size w w2) {k : Disk.Nm} {i : Nat} (hi : Disk.find l k = some i) :
    ∃ A c, w2.cell? ⟨loc i, 0, none⟩ = some (.slice A (sz i) c) := by
  obtain ⟨h1, A, c, h2⟩ := hf i (List.mem_map.2 ⟨(k, i), Disk.mem_of_find hi, rfl⟩)
  exact ⟨A, c, (hb.cell (p := ⟨loc i, 0, none⟩) h1).trans h2⟩
set_option maxRecDepth 100000 in
set_option maxHeartbeats 1000000 in
theorem sum_any (d b n : Nat) (l : Disk.Fo) (loc sz : Nat → Nat) (w : World) (h : Hid (Fol w b n l loc)) (hd : w.cell? ⟨d, 0, none⟩ = some (.map (some b)))
    (hf : Hid (∀ i ∈ Disk.ids l, loc i < w.heap.size ∧ ∃ A c, w.cell? ⟨loc i, 0, none⟩ = some (.slice A (sz i) c))) (_ : d < w.heap.size)
    (hb : Hid (∀ seen : List Disk.Nm, seen.Nodup → (∀ k ∈ seen, k ∈ Disk.keys l) → (seen.map (szAt l sz)).sum ≤ 4611686018427387904)) :
    Calls Try.prog 44 #[.pointer (some ⟨d, 0, none⟩)] w fun e w' => ∃ seen : List Disk.Nm, seen.Nodup ∧ (∀ k ∈ seen, k ∈ Disk.keys l) ∧ (∀ k ∈ Disk.keys l, k ∈ seen) ∧ e = .returned (.int .i64 ((seen.map (szAt l sz)).sum : Nat)) ∧ Below w.heap.size w w' := by
  go_enter Try.func44, Try.ntmps44
  go_wp2_with (at_range; refine Disk.wpList_range_folder rfl (.tmp 9) 23 rfl 9 84 Try.underlying9 Try.underlying23 b n l loc rfl h.out ?_; intro w1 hg1 hgr1 hs1; have HG1 := Lib.hid hg1; have HB1 := Lib.hid (hgr1); clear hg1 hgr1)
  have hB0 : Hid (Below w.heap.size w w1) := Lib.hid ⟨HB1.out.os, HB1.out.tape, HB1.out.output, HB1.out.size, fun x hx => HB1.out.block x hx (by simp)⟩
  go_frame
  go_loopg [3] l.length (fun j v3 wr => ∃ (q : Nat) (seen : List Disk.Nm), j = q ∧ v3 = .int .i64 ((seen.map (szAt l sz)).sum : Nat) ∧ Hid (Goi wr b w.heap.size n l loc seen q) ∧ Hid (Below w.heap.size w wr))
  case atStart => exact ⟨_, [], rfl, rfl, HG1, hB0⟩
  case round =>
    obtain ⟨q, seen, hj, rfl, HG, HB⟩ := hrel
    go_wp2_with (at_next; refine Disk.wpList_next_folder rfl (.tmp 10) rfl 9 Try.underlying9 b w.heap.size n l loc seen q rfl HG.out (fun h0 ha => ?_) (fun s i w2 cnt2 hss hfi hns hg2 hlt hgr hsz hen => ?_); all_goals try (have hB2 := HB.out.trans (below_iter hgr HB.out.size); obtain ⟨A, c, hcell⟩ := file_cell hf.out hB2 hfi; have HG2 := Lib.hid hg2; have HB2 := Lib.hid hB2))
    · go_ret
      exact ⟨seen, HG.out.nodup, HG.out.mem, ha, rfl, HB.out⟩
    · have hsum : ((seen ++ [s.data.toList]).map (szAt l sz)).sum = (seen.map (szAt l sz)).sum + sz i := by
        rw [List.map_append, List.sum_append]
        simp [szAt, hfi]
      have hbd := hb.out _ HG2.out.nodup HG2.out.mem
      rw [hsum] at hbd
      have hbd2 : wrap64 (((seen.map (szAt l sz)).sum : Nat) + (sz i : Nat)) = (((seen ++ [s.data.toList]).map (szAt l sz)).sum : Nat) := by
        rw [hsum]; unfold wrap64; omega
      rw [hbd2]
      go_roundg cnt2
      case measure => omega
      case rel => exact ⟨_, _, rfl, rfl, HG2, HB2⟩
end Go.Proofs.Ytfommpbblpnljaa
