/- Texts that lead to the claim, one behind the other: A call of a function value, by the contract of its function, at a step of a region that draws its order. No program in sight. No conditions. -/
import Derived.Test.YtfommpbblpnljaaWH16
namespace Go.Proofs.Ytfommpbblpnljaa
open Go.RowKit
section
variable {P : Program} {w : World}
theorem step_callv_law {ops : Array Oper} {o : Oper} {a : Act} {K : Act → World → Prop} {Q : Exit → Act → World → Prop} {E : Prop} (hgd : o.guard = none) (x : Operand) (f : FuncId) (lb : Array Value) (xs : Array Operand) (tys : Array TypeId)
    (ho : o.op = .call { callee := .value x, args := xs, argTypes := tys }) (hx0 : a.eval x = .func (.func f) #[] lb) (he : ∀ args w, (callFunc f args).run P w = .ok (.enter f args) w) (vs : Array Value) (hx : xs.map a.eval = vs)
    (Φ : Ending → World → Prop) (hc : Calls P f (vs ++ lb) w Φ) (h : ∀ e w', Φ e w' → ∃ v, e = .returned v ∧ K (a.put o.dst v) w') :
    if Region.wanted o (yielded ops a.tmps) = true then Oper.wp P o a w K Q else E := by
  have hw : Region.wanted o (yielded ops a.tmps) = true := by simp [Region.wanted, hgd]
  rw [if_pos hw]
  unfold Oper.wp execOp
  simp only [ho, resolve, invoke, Sem.run_bind]
  rw [hx]
  simp only [hx0, Deferred.ofValue, Sem.run_pure, Result.andThen_ok, Array.empty_append, he]
  rw [Oper.upon_enter]
  refine hc.mono fun e w' hh => ?_
  obtain ⟨v, rfl, hK⟩ := h e w' hh
  exact hK
end
end Go.Proofs.Ytfommpbblpnljaa
