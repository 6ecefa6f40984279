/- A string's iterator beside a row of the call's own. No conditions. -/
import Derived.Test.YtfmaaempcpjpkaaDoorMem
import Derived.Lib.OthersKept
import Derived.Laws.RangeAny
namespace Go.Proofs.YtfmaaempcpjpkaaDoor
open Go.RowKit
section
variable {α : Type}
theorem grown_iterAt (w : World) (k : Nat) (s : ByteArray) (p : Nat) : w.grownBy (w.iterAt k s p) (some k) :=
  ⟨rfl, rfl, rfl, by rw [Lib.iterAt_size]; exact Nat.le_refl _, fun j _ hj => Lib.iterAt_other _ _ _ _ _ (fun e => hj (by rw [e]))⟩
theorem Own.notIter {r : Rep α} {e : TypeId} {w : World} {base : Nat} {S : Blocks} {v : Value} {l : List α} (h : Own r e w base S v l) {k p : Nat} {s : ByteArray} (hk : w.heap[k]? = some (.stringIter s p)) : v.ownBlock ≠ some k := by
  obtain ⟨xs, ⟨hl, hv⟩, -⟩ := h
  rcases hv with ⟨rfl, h0⟩ | ⟨g, cap, cur, rfl, hb, hg, -⟩
  · simp [Value.ownBlock]
  · intro he
    simp only [Value.ownBlock, Option.some.injEq] at he
    rw [he, hk] at hg
    cases hg
theorem Own.iterAt {r : Rep α} {e : TypeId} {w : World} {base : Nat} {v : Value} {l : List α} (h : Own r e w base nob v l) {k p : Nat} {s : ByteArray} (hk : w.heap[k]? = some (.stringIter s p)) (p' : Nat) : Own r e (w.iterAt k s p') base nob v l :=
  h.mono (grown_iterAt w k s p') (.inr (h.notIter hk)) (fun _ h => h.elim)
theorem Own.keepIter {r : Rep α} {e : TypeId} {w w' : World} {base : Nat} {S : Blocks} {v : Value} {l : List α} (h : Own r e w base S v l) {k p : Nat} {s : ByteArray} (hk : w.heap[k]? = some (.stringIter s p)) (hg : w.grownBy w' v.ownBlock) : w'.heap[k]? = some (.stringIter s p) :=
  (hg.block k (Array.getElem?_eq_some_iff.1 hk).1 (fun e => h.notIter hk e.symm)).trans hk
end
end Go.Proofs.YtfmaaempcpjpkaaDoor
