/- Texts that lead to the claim, one behind the other: append onto a row of the call's own, at a step of a region that draws its order. No program in sight. No conditions. | A call of a Go function, by its contract, at a step of a region that draws its order (for go_region_law). No program in sight. No conditions. -/
import Derived.Test.YtnpideapdjomgaaDoorRA0
import Derived.Deep.RegionLaw
namespace Go.Proofs.YtnpideapdjomgaaDoor
open Go.RowKit
section
variable {P : Program} {w : World} {α : Type}
theorem step_append_Own {ops : Array Oper} {o : Oper} {a : Act} {K : Act → World → Prop} {Q : Exit → Act → World → Prop} {E : Prop} (hgd : o.guard = none) (s x : Operand) (t : TypeId)
    (ho : o.op = .call { callee := .builtin .append, args := #[s, x], argTypes := #[t, t] })
    (r : Rep α) (base : Nat) (e : TypeId) (bytes : Nat) (hT : SliceType P t e r.n bytes) (S : Blocks) (v : Value) (l : List α) (hs : a.eval s = v) (hown : Own r e w base S v l)
    (S2 : Blocks) (A : Option Addr) (c : Nat) (m : List α) (hx : a.eval x = .slice A m.length c) (hm : SliceAt r w S2 A c m) (S3 : Blocks) (hS3 : ∀ b, S3 b → b < w.heap.size ∧ some b ≠ v.ownBlock) (hin : ∀ b, S b → S3 b)
    (hflat : ∀ cs x, r.is w S2 cs x → r.is w S3 cs x) (hbytes : (l.length + m.length) * bytes ≤ 140737488355328) (hlen : l.length + m.length ≤ 9223372036854775807) (hbase : base ≤ w.heap.size)
    (h : ∀ v' w', Own r e w' base S3 v' (l ++ m) → w.grownBy w' v.ownBlock → (v'.ownBlock = v.ownBlock ∨ v'.ownBlock = some w.heap.size) → K (a.put o.dst v') w') :
    if Region.wanted o (yielded ops a.tmps) = true then Oper.wp P o a w K Q else E := by
  have hw : Region.wanted o (yielded ops a.tmps) = true := by simp [Region.wanted, hgd]
  rw [if_pos hw]
  exact wp_append_Own w s x t ho r base e bytes hT S v l hs hown S2 A c m hx hm S3 hS3 hin hflat hbytes hlen hbase h
end
end Go.Proofs.YtnpideapdjomgaaDoor
namespace Go.Proofs.YtnpideapdjomgaaDoor
open Go.RowKit
section
variable {P : Program} {w : World}
theorem step_call_law {ops : Array Oper} {o : Oper} {a : Act} {K : Act → World → Prop} {Q : Exit → Act → World → Prop} {E : Prop} (hgd : o.guard = none) (f : FuncId) (xs : Array Operand) (tys : Array TypeId)
    (ho : o.op = .call { callee := .value (.func f), args := xs, argTypes := tys }) (he : ∀ args w, (callFunc f args).run P w = .ok (.enter f args) w) (vs : Array Value) (hx : xs.map a.eval = vs)
    (Φ : Ending → World → Prop) (hc : Calls P f vs w Φ) (h : ∀ e w', Φ e w' → ∃ v, e = .returned v ∧ K (a.put o.dst v) w') :
    if Region.wanted o (yielded ops a.tmps) = true then Oper.wp P o a w K Q else E := by
  have hw : Region.wanted o (yielded ops a.tmps) = true := by simp [Region.wanted, hgd]
  rw [if_pos hw]
  unfold Oper.wp execOp
  simp only [ho, resolve, invoke, Sem.run_bind]
  rw [hx]
  have hd : a.eval (Operand.func f) = .func (.func f) #[] #[] := rfl
  simp only [hd, Deferred.ofValue, Sem.run_pure, Result.andThen_ok, Array.empty_append, he]
  rw [Oper.upon_enter]
  refine hc.mono fun e w' hh => ?_
  obtain ⟨v, rfl, hK⟩ := h e w' hh
  exact hK
end
end Go.Proofs.YtnpideapdjomgaaDoor
