/- append of a string's bytes onto a row of the call's own. No program in sight. Condition: room. -/
import Derived.Test.YtfmaaempcpjpkaaDoorMem
import Derived.Lib.AppendStr
namespace Go.Proofs.YtfmaaempcpjpkaaDoor
open Go.RowKit

section
variable {P : Program} (w : World)
theorem Own.of_bcells {e : TypeId} {w : World} {base : Nat} {v : Value} {l : List UInt8} (h : w.ownsRow base e 1 v l.length (bcells l)) : Own Rep.byte e w base nob v l := by
  refine ⟨bcells l, h, fun _ h => h.elim, bcells_one l, fun i hi => ?_⟩
  show _ = [_]
  rw [show i * Rep.byte.n = i from Nat.mul_one i, show Rep.byte.n = 1 from rfl, List.drop_eq_getElem_cons (by rw [bcells_len]; exact hi)]
  simp [bcells]
theorem Own.to_bcells {e : TypeId} {w : World} {base : Nat} {v : Value} {l : List UInt8} (h : Own Rep.byte e w base nob v l) : w.ownsRow base e 1 v l.length (bcells l) := by
  obtain ⟨xs, hx, -, -, hr⟩ := h
  have hl : xs.length = l.length := by simpa [Rep.byte] using hx.1
  have e : xs = bcells l := by
    apply List.ext_getElem
    · rw [bcells_len, hl]
    · intro i h1 h2
      have := hr i (by omega)
      rw [show i * Rep.byte.n = i from Nat.mul_one i, show Rep.byte.n = 1 from rfl, List.drop_eq_getElem_cons h1] at this
      have e2 : [xs[i]] = [Value.int .u8 l[i].toNat] := this
      simpa [bcells] using e2
  rw [← e]
  exact hx
theorem strCells_eq (s : ByteArray) : Lib.strCells s = bcells s.data.toList := rfl
/-- append(b, s...), s a string. -/
theorem wpList_append_str {ops : Array Oper} {rest : List Oper} {o : Oper} {a : Act} {Q : Exit → Act → World → Prop} (hgd : o.guard = none) (s x : Operand) (t u : TypeId)
    (ho : o.op = .call { callee := .builtin .append, args := #[s, x], argTypes := #[t, u] })
    (base : Nat) (e : TypeId) (i : TypeInfo) (hT : P.underlying t = some (.slice e)) (hu : P.underlying u = some .string) (hi : P.info? e = some i) (hz : i.zero = some (.int .u8 0)) (hsize : i.size = 1) (hby : i.bytes = 1)
    (v : Value) (l : List UInt8) (hs : a.eval s = v) (hown : Own Rep.byte e w base nob v l) (t : ByteArray) (hx : a.eval x = .string t)
    (hbytes : l.length + t.size ≤ 140737488355328) (hbase : base ≤ w.heap.size)
    (h : ∀ v' w', Own Rep.byte e w' base nob v' (l ++ t.data.toList) → w.grownBy w' v.ownBlock → wpList P ops Q rest (a.put o.dst v') w') : wpList P ops Q (o :: rest) a w := by
  refine Lib.wpList_append_own_string (P := P) w hgd s x _ u ho base e i hT hu hi hz hsize hby v l.length (bcells l) hs hown.to_bcells t hx (by simp only [maxLen]; omega) hbytes hbase ?_
  intro v' w' ho' hg _
  refine h v' w' (Own.of_bcells ?_) hg
  rw [strCells_eq, ← bcells_append] at ho'
  rw [List.length_append]
  exact ho'
end
end Go.Proofs.YtfmaaempcpjpkaaDoor
