/- Texts that lead to the claim, one behind the other: Rows of memory written full and grown: how they stay while new memory is made beside them. No program in sight. No conditions. -/
import Derived.Test.YtncpeogkccjmcaaGreatDoorTK37
namespace Go.Proofs.YtncpeogkccjmcaaGreatDoor
open Go.RowKit Go.ChangeShapes Go.WideShapes Go.Deep

theorem grown_below {w w' : World} (hb : Below w.heap.size w w') (row : Option Nat) : w.grownBy w' row := ⟨hb.os, hb.tape, hb.output, hb.size, fun k hk _ => hb.block k hk⟩
theorem below_drew1 {B : Nat} {a w : World} (h : Below B a w) : Below B a w.drew := ⟨h.os, h.tape, h.output, h.size, h.block⟩
theorem frozen_keep {B : Nat} {w w' : World} (hb : Below B w w') {p : Addr} (hp : p.block < B) : w'.frozen? p = w.frozen? p := by simp only [World.frozen?, hb.block _ hp]
section
variable {k : Nat} {e eS : TypeId} {base N : Nat} {vs : Nat → Value} {ks : Nat → Nat} {mk : Nat → Nat → List Value}
theorem Ph1.far {n i : Nat} {wr w' : World} (h : Ph1 k e base N vs ks mk n i wr) (hb : Below wr.heap.size wr w') : Ph1 k e base N vs ks mk n i w' := fun m hm => by
  obtain ⟨l, h1, h2, h3, h4⟩ := h m hm
  exact ⟨l, h1, h2.far hb, h3, h4⟩
section
variable {f : Bool} {lo n i : Nat} {w0 wr w' : World} {v v' v1 v2 : Value} {U : Blocks} {L1 L2 : List (List Value)}
theorem Ph2.far (h : Ph2 k e eS base N vs ks mk w0 wr lo n v1 v2 U L1 L2) (hb : Below wr.heap.size wr w') : Ph2 k e eS base N vs ks mk w0 w' lo n v1 v2 U L1 L2 :=
  h.turn (v := .slice none 0 0) (grown_below hb _) (fun b h => by simp [Value.ownBlock] at h) (fun b h => by simp [Value.ownBlock] at h) (fun b h => by simp [Value.ownBlock] at h)
theorem In2.far (h : In2 k e eS base N vs ks mk w0 wr n i f v v1 v2 U L1 L2) (hb : Below wr.heap.size wr w') : In2 k e eS base N vs ks mk w0 w' n i f v v1 v2 U L1 L2 := by
  have hs : Same (fun b => b < wr.heap.size ∧ Not2 N (n + 1) vs v1 v2 b) wr w' := fun b h => hb.block b h.1
  have hS : ∀ b, (b < wr.heap.size ∧ Not2 N (n + 1) vs v1 v2 b) → b < w'.heap.size ∧ Not2 N (n + 1) vs v1 v2 b := fun b h => ⟨Nat.lt_of_lt_of_le h.1 hb.size, h.2⟩
  exact ⟨h.p.far hb, h.l1, h.l2, h.cur.far hb, h.cF, h.cU, h.bs.keep hS hs, fun hf => by
    obtain ⟨x, h1, h2⟩ := h.on hf
    exact ⟨x, h1, h2.keep hS hs⟩⟩
end
end
end Go.Proofs.YtncpeogkccjmcaaGreatDoor
