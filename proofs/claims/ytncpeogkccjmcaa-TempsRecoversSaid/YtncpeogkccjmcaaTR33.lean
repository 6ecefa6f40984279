/- Texts that lead to the claim, one behind the other: A disk behind a row of calls. No conditions. -/
import Derived.Test.YtncpeogkccjmcaaTR32
namespace Go.Proofs.Ytncpeogkccjmcaa
open Go.RowKit Go.ChangeShapes Go.WideShapes Go.Deep

section
variable {w0 w w' : World} {F G : Blocks} {d : Nat} {s t : Disk.St}
theorem DiskAt.up (h : DiskAt w F d s) (hF : ∀ b, F b → G b) (hl : ∀ b, G b → b < w.heap.size) : DiskAt w G d s := by
  obtain ⟨loc, blk, bn, bo, rowv, pA, pC, hB⟩ := h
  exact (hB.up hF hl).at_
theorem DiskAt.far (h : DiskAt w F d s) (hb : Below w.heap.size w w') : DiskAt w' F d s := by
  obtain ⟨loc, blk, bn, bo, rowv, pA, pC, hB⟩ := h
  exact (hB.far hb).at_
theorem DiskAt.only (h : DiskAt w F d s) (ho : Only G w w') (hG : ∀ b, F b → ¬ G b) : DiskAt w' F d s := by
  obtain ⟨loc, blk, bn, bo, rowv, pA, pC, hB⟩ := h
  exact (hB.only ho hG).at_
theorem DiskAt.lt (h : DiskAt w F d s) : ∀ b, F b → b < w.heap.size := by
  obtain ⟨loc, blk, bn, bo, rowv, pA, pC, hB⟩ := h
  exact hB.lt
theorem DiskAt.self (h : DiskAt w F d s) : F d := by
  obtain ⟨loc, blk, bn, bo, rowv, pA, pC, hB⟩ := h
  exact hB.Fd
/-- A disk that was here at first, its blocks those of then and new ones; nothing else has turned. -/
structure Dk (w0 w : World) (F : Blocks) (d : Nat) (s : Disk.St) : Prop where
  at_ : DiskAt w (grow F w0 w) d s
  only : Only F w0 w
theorem Dk.start (h : DiskAt w F d s) : Dk w w F d s := ⟨h.up (fun _ hb => .inl hb) (grow_lt h.lt (Nat.le_refl _)), Only.refl _ _⟩
theorem grow_step (h1 : w0.heap.size ≤ w.heap.size) (h2 : w.heap.size ≤ w'.heap.size) : ∀ b, grow (grow F w0 w) w w' b → grow F w0 w' b := by
  rintro b ((hb | ⟨h3, h4⟩) | ⟨h3, h4⟩)
  · exact .inl hb
  · exact .inr ⟨h3, Nat.lt_of_lt_of_le h4 h2⟩
  · exact .inr ⟨Nat.le_trans h1 h3, h4⟩
theorem Dk.next (h : Dk w0 w F d s) (hF : ∀ b, F b → b < w0.heap.size) (h1 : DiskAt w' (grow (grow F w0 w) w w') d t) (h2 : Only (grow F w0 w) w w') : Dk w0 w' F d t :=
  ⟨h1.up (grow_step h.only.size h2.size) (grow_lt hF (Nat.le_trans h.only.size h2.size)), h.only.trans h2 fun _ hx => hx.elim .inl fun hx => .inr hx.1⟩
theorem Dk.call {r : Disk.St × Int} {e : Ending} (h : Dk w0 w F d s) (hF : ∀ b, F b → b < w0.heap.size) (hc : DiskCall w (grow F w0 w) d r e w') : e = .returned (.int .i64 r.2) ∧ Dk w0 w' F d r.1 :=
  ⟨hc.1, h.next hF hc.2.1 hc.2.2⟩
theorem Dk.far (h : Dk w0 w F d s) (hF : ∀ b, F b → b < w0.heap.size) (hb : Below w.heap.size w w') : Dk w0 w' F d s :=
  h.next hF ((h.at_.far hb).up (fun _ hb => .inl hb) (grow_lt h.at_.lt hb.size)) (Only.of_below hb _)
/-- .. seen from before the first new block. -/
theorem Dk.back {o : Obj} (h : Dk (w0.alloc o) w F d s) (hF : ∀ b, F b → b < w0.heap.size) : Dk w0 w F d s := by
  have hs := h.only.size
  simp only [World.size_alloc] at hs
  refine ⟨h.at_.up (fun b hb => hb.elim .inl fun hb => .inr ⟨?_, hb.2⟩) (grow_lt hF (by omega)), ((Only.refl F w0).alloc o).trans h.only fun _ hx => .inl hx⟩
  have := hb.1
  simp only [World.size_alloc] at this
  omega
theorem Dk.apart {S : Blocks} (h : Dk w0 w F d s) (hS : ∀ b, S b → b < w0.heap.size ∧ ¬ F b) : ∀ b, S b → b < w.heap.size ∧ ¬ grow F w0 w b := fun b hb => ⟨Nat.lt_of_lt_of_le (hS b hb).1 h.only.size, fun hg => hg.elim (hS b hb).2 fun hg => by have := (hS b hb).1; omega⟩
theorem Dk.same {S : Blocks} (h : Dk w0 w F d s) (hS : ∀ b, S b → b < w0.heap.size ∧ ¬ F b) : Same S w0 w := h.only.same hS
end
end Go.Proofs.Ytncpeogkccjmcaa
