/- CopyBytes, its answer's parts. Condition: room. -/
import Derived.Test.YtejjmjbkpodolaaDoorCopyBytes
import Derived.Test.YtejjmjbkpodolaaDoorCutB
namespace Go.Proofs.YtejjmjbkpodolaaDoor
open Go.RowKit Go.ChangeShapes Go.WideShapes Go.Deep

theorem copyB (A : Option Addr) (n c : Nat) (l : List UInt8) (w : World) (S : Blocks) (hn : n = l.length) (hl : SliceAt Rep.byte w S A c l) (hb : n ≤ 140737488355328) :
    Calls Tryd.prog 31 #[.slice A n c] w fun e w' => ∃ A' c', e = .returned (.slice A' n c') ∧ n ≤ c' ∧ c' ≤ 9223372036854775807 ∧ Hid (Own Rep.byte 5 w' w.heap.size nob (.slice A' n c') l) ∧ Hid (Below w.heap.size w w') := by
  refine (copyBytes A n c l w S hn hl hb).mono ?_
  rintro e w' ⟨v, rfl, ho, hbw⟩
  obtain ⟨A', n', c', rfl, h1, h2, h3⟩ := ho.form
  obtain rfl : n' = n := by rw [h1.out, hn]
  exact ⟨A', c', rfl, h2, h3, Lib.hid ho, Lib.hid hbw⟩
end Go.Proofs.YtejjmjbkpodolaaDoor
