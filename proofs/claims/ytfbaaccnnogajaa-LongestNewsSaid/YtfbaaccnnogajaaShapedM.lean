/- A well shaped machine, and the place asked of. No conditions. -/
import Derived.Test.YtfbaaccnnogajaaProg
import Derived.Test.YtfbaaccnnogajaaInstrEq
import Derived.Test.YtfbaaccnnogajaaInner
namespace Go.Proofs.Ytfbaaccnnogajaa
open Go.RowKit

def Class.none : Class := ⟨0, 0, 0, 0⟩
def Instr.want (i : Instr) : Instr := ⟨i.op, if i.op = 1 then i.set else Class.none, if i.op = 4 ∨ i.op = 5 then i.x else 0, if i.op = 5 then i.y else 0⟩
/-- An instruction at its place in a machine of so many: well shaped. -/
def instrOk (N k : Nat) (i : Instr) : Prop := 1 ≤ i.op ∧ i.op ≤ 6 ∧ (i.op ≤ 3 → k + 1 ≠ N) ∧ i = i.want ∧ 0 ≤ i.x ∧ i.x < N ∧ 0 ≤ i.y ∧ i.y < N
instance (N k : Nat) (i : Instr) : Decidable (instrOk N k i) := by unfold instrOk; exact inferInstance
def MShaped (M : List Instr) : Prop := 0 < M.length ∧ M.length ≤ 65540 ∧ ∀ k (h : k < M.length), instrOk M.length k M[k]
instance (M : List Instr) : Decidable (MShaped M) := by unfold MShaped; exact inferInstance
theorem MShaped.wf {M : List Instr} (h : MShaped M) : Wf M := by
  obtain ⟨h0, h1, h2⟩ := h
  refine ⟨fun k hk => ?_, fun k hk => ?_, fun k hk => ?_, fun k hk ho => ?_⟩ <;> obtain ⟨a, b, c, d, e, f, g, i⟩ := h2 k hk
  · exact ⟨a, b⟩
  · exact ⟨e, f⟩
  · exact ⟨g, i⟩
  · have := c ho; omega
theorem place_any (x : Int) (A : Option Addr) (n c gb : Nat) (w : World) (hc : w.cell? ⟨gb, 0, none⟩ = some (.slice A n c)) :
    Calls Try.prog 31 #[.int .i64 x, .pointer (some ⟨gb, 0, none⟩)] w fun e w' => e = .returned (.bool (decide (0 ≤ x ∧ x < n))) ∧ w' = w := by
  by_cases h0 : 0 ≤ x
  · by_cases h1 : x < n
    · have e : decide (0 ≤ x ∧ x < n) = true := decide_eq_true ⟨h0, h1⟩
      rw [e]
      go_enter Try.func31, Try.ntmps31
      go_wp2
      go_ret
      exact ⟨rfl, rfl⟩
    · have e : decide (0 ≤ x ∧ x < n) = false := decide_eq_false fun h => h1 h.2
      rw [e]
      have h1' : decide (x < n) = false := decide_eq_false h1
      clear h1
      go_enter Try.func31, Try.ntmps31
      go_wp2
      go_ret
      exact ⟨rfl, rfl⟩
  · have e : decide (0 ≤ x ∧ x < n) = false := decide_eq_false fun h => h0 h.1
    rw [e]
    have h0' : decide (0 ≤ x) = false := decide_eq_false h0
    have h0'' : x < 0 := by omega
    clear h0
    go_enter Try.func31, Try.ntmps31
    go_wp2
    go_ret
    exact ⟨rfl, rfl⟩

noncomputable def bodyS : Code := ((Try.f28.body.map loopsOf).getD []).headD .skip
end Go.Proofs.Ytfbaaccnnogajaa
