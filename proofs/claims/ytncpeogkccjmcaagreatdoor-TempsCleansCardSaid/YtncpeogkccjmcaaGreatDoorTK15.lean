/- Texts that lead to the claim, one behind the other: A call of a Go function, by its contract, at a step of a region that draws its order (for go_region_law). No program in sight. No conditions. -/
import Derived.Test.YtncpeogkccjmcaaGreatDoorTK0
import Derived.Deep.RegionLaw
namespace Go.Proofs.YtncpeogkccjmcaaGreatDoor
open Go.RowKit
section
variable {P : Program} {w : World}
theorem step_call_law {ops : Array Oper} {o : Oper} {a : Act} {K : Act → World → Prop} {Q : Exit → Act → World → Prop} {E : Prop} (hgd : o.guard = none) (f : FuncId) (xs : Array Operand) (tys : Array TypeId)
    (ho : o.op = .call { callee := .value (.func f), args := xs, argTypes := tys }) (he : ∀ args w, (callFunc f args).run P w = .ok (.enter f args) w) (vs : Array Value) (hx : xs.map a.eval = vs)
    (Φ : Ending → World → Prop) (hc : Calls P f vs w Φ) (h : ∀ e w', Φ e w' → ∃ v, e = .returned v ∧ K (a.put o.dst v) w') :
    if Region.wanted o (yielded ops a.tmps) = true then Oper.wp P o a w K Q else E := by
  have hw : Region.wanted o (yielded ops a.tmps) = true := by simp [Region.wanted, hgd]
  rw [if_pos hw]
  unfold Oper.wp execOp
  simp only [ho, resolve, invoke, Sem.run_bind]
  rw [hx]
  have hd : a.eval (Operand.func f) = .func (.func f) #[] #[] := rfl
  simp only [hd, Deferred.ofValue, Sem.run_pure, Result.andThen_ok, Array.empty_append, he]
  rw [Oper.upon_enter]
  refine hc.mono fun e w' hh => ?_
  obtain ⟨v, rfl, hK⟩ := h e w' hh
  exact hK
end
end Go.Proofs.YtncpeogkccjmcaaGreatDoor
