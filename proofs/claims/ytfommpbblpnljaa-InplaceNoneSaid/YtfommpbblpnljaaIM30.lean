/- Texts that lead to the claim, one behind the other: A disk of the call's own. No conditions. -/
import Derived.Test.YtfommpbblpnljaaIM21
namespace Go.Proofs.Ytfommpbblpnljaa
open Go.RowKit Go.ChangeShapes Go.WideShapes Go.Deep

theorem grow_base {F : Blocks} {B : Nat} {w w' : World} (h : ∀ b, F b → B ≤ b) (hw : B ≤ w.heap.size) : ∀ b, grow F w w' b → B ≤ b := fun b hb => hb.elim (h b) fun h => Nat.le_trans hw h.1
/-- A disk of the call's own. -/
structure Kd (w0 w : World) (F : Blocks) (d : Nat) (s : Disk.St) : Prop where
  at_ : DiskAt w F d s
  below : Below w0.heap.size w0 w
  base : ∀ b, F b → w0.heap.size ≤ b
theorem Kd.call {w0 w w' : World} {F : Blocks} {d : Nat} {s : Disk.St} {r : Disk.St × Int} {e : Ending} (h : Kd w0 w F d s) (hc : DiskCall w F d r e w') : e = .returned (.int .i64 r.2) ∧ Kd w0 w' (grow F w w') d r.1 :=
  ⟨hc.1, hc.2.1, h.below.trans (hc.2.2.below h.below.size h.base), grow_base h.base h.below.size⟩
theorem Kd.far {w0 w w' : World} {F : Blocks} {d : Nat} {s : Disk.St} (h : Kd w0 w F d s) (hb : Below w.heap.size w w') : Kd w0 w' F d s := by
  obtain ⟨loc, blk, bn, bo, rowv, pA, pC, hB⟩ := h.at_
  exact ⟨(hB.far hb).at_, h.below.trans (hb.mono h.below.size), h.base⟩
theorem Kd.next {w0 w w' : World} {F : Blocks} {d : Nat} {s t : Disk.St} (h : Kd w0 w F d s) (h1 : DiskAt w' (grow F w w') d t) (h2 : Only F w w') : Kd w0 w' (grow F w w') d t :=
  ⟨h1, h.below.trans (h2.below h.below.size h.base), grow_base h.base h.below.size⟩
end Go.Proofs.Ytfommpbblpnljaa
