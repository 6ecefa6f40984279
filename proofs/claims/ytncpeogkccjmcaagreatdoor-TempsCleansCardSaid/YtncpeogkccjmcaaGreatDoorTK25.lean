/- Texts that lead to the claim, one behind the other: A new row of none. No program in sight. No conditions. -/
import Derived.Test.YtncpeogkccjmcaaGreatDoorTK21
namespace Go.Proofs.YtncpeogkccjmcaaGreatDoor
open Go.RowKit Go.ChangeShapes Go.WideShapes Go.Deep

theorem Own.new0 {α : Type} (r : Rep α) (w : World) (e : TypeId) (base : Nat) (hb : base ≤ w.heap.size) : Own r e (w.alloc (.cells #[] e)) base nob (.slice (some ⟨w.heap.size, 0, none⟩) 0 0) [] :=
  ⟨[], ⟨by simp, .inr ⟨w.heap.size, 0, #[], by simp, hb, heap_alloc_new _ _, by simp, by simp [maxLen], by simp, by simp⟩⟩, fun _ h => h.elim, by simp, by simp⟩
end Go.Proofs.YtncpeogkccjmcaaGreatDoor
