/- Two rows of bytes of the call's own, side by side: each grows by append. Condition: room. -/
import Derived.Test.YtooempbgpfhdcaaDoorText19
namespace Go.Proofs.YtooempbgpfhdcaaDoor
open Go.RowKit Go.ChangeShapes Go.WideShapes Go.Deep

theorem Own.emptyRow (w : World) (base g : Nat) (hb : base ≤ g) (hg : w.heap[g]? = some (.cells #[] 5)) : Own Rep.byte 5 w base nob (.slice (some ⟨g, 0, none⟩) 0 0) [] :=
  ⟨[], ⟨by simp, .inr ⟨g, 0, #[], rfl, hb, hg, Nat.le_refl _, by simp [maxLen], by simp, by simp⟩⟩, fun _ h => h.elim, by simp, fun i hi => absurd hi (by simp)⟩
structure Two (w0 w : World) (vt vw : Value) (T W : List UInt8) : Prop where
  t : Own Rep.byte 5 w w0.heap.size nob vt T
  s : Own Rep.byte 5 w w0.heap.size nob vw W
  ne : ∀ b, vt.ownBlock = some b → vw.ownBlock ≠ some b
  b : Below w0.heap.size w0 w
section
variable {w0 w w' : World} {vt vw v4 : Value} {T W m : List UInt8}
theorem Two.alloc (h : Two w0 w vt vw T W) (o : Obj) : Two w0 (w.alloc o) vt vw T W := ⟨h.t.alloc o, h.s.alloc o, h.ne, h.b.alloc h.b.size o⟩
theorem Two.left (h : Two w0 w vt vw T W) (hown : Own Rep.byte 5 w' w0.heap.size nob v4 (T ++ m)) (hg : w.grownBy w' vt.ownBlock) (hat : v4.ownBlock = vt.ownBlock ∨ v4.ownBlock = some w.heap.size) : Two w0 w' v4 vw (T ++ m) W := by
  refine ⟨hown, h.s.mono hg ?_ (fun _ h => h.elim), fun b hb => ?_, below_own h.b h.t hg h.b.size⟩
  · cases hv : vt.ownBlock with
    | none => cases hw : vw.ownBlock <;> simp
    | some b => exact .inr (h.ne b hv)
  · rcases hat with e | e <;> rw [e] at hb
    · exact h.ne b hb
    · intro hw
      simp only [Option.some.injEq] at hb
      have := (h.s.block_lt hw).2
      omega
theorem Two.right (h : Two w0 w vt vw T W) (hown : Own Rep.byte 5 w' w0.heap.size nob v4 (W ++ m)) (hg : w.grownBy w' vw.ownBlock) (hat : v4.ownBlock = vw.ownBlock ∨ v4.ownBlock = some w.heap.size) : Two w0 w' vt v4 T (W ++ m) := by
  refine ⟨h.t.mono hg ?_ (fun _ h => h.elim), hown, fun b hb => ?_, below_own h.b h.s hg h.b.size⟩
  · cases hv : vt.ownBlock with
    | none => exact .inl rfl
    | some b => exact .inr fun e => h.ne b hv e.symm
  · intro hw
    rcases hat with e | e <;> rw [e] at hw
    · exact h.ne b hb hw
    · simp only [Option.some.injEq] at hw
      have := (h.t.block_lt hb).2
      omega
end
theorem wp_two_left {ops : Array Oper} {rest : List Oper} {o : Oper} {a : Act} {Q : Exit → Act → World → Prop} (hgd : o.guard = none) (s x : Operand)
    (ho : o.op = .call { callee := .builtin .append, args := #[s, x], argTypes := #[23, 23] }) (w0 w : World) (vt vw : Value) (T W : List UInt8) (H : Hid (Two w0 w vt vw T W)) (hs : a.eval s = vt)
    (S2 : Blocks) (A : Option Addr) (c : Nat) (m : List UInt8) (hx : a.eval x = .slice A m.length c) (hm : SliceAt Rep.byte w S2 A c m) (hlen : T.length + m.length ≤ 140737488355328)
    (h : ∀ A4 n4 c4 w', Hid (Two w0 w' (.slice A4 n4 c4) vw (T ++ m) W) → Hid (n4 = (T ++ m).length) → n4 ≤ c4 → c4 ≤ 9223372036854775807 → wpList Tryd.prog ops Q rest (a.put o.dst (.slice A4 n4 c4)) w') : wpList Tryd.prog ops Q (o :: rest) a w := by
  refine wpList_append_Own w hgd s x 23 ho Rep.byte w0.heap.size 5 1 stBytes nob vt T hs H.out.t S2 A c m hx hm nob (fun _ h => h.elim) (fun _ h => h) (fun _ _ h => h) (by omega) (by omega) H.out.b.size ?_
  intro v' w' hown hg hat
  obtain ⟨A4, n4, c4, rfl, hn4, hnc4, hcm4⟩ := hown.form
  exact h A4 n4 c4 w' (Lib.hid (H.out.left hown hg hat)) hn4 hnc4 hcm4
theorem wp_two_right {ops : Array Oper} {rest : List Oper} {o : Oper} {a : Act} {Q : Exit → Act → World → Prop} (hgd : o.guard = none) (s x : Operand)
    (ho : o.op = .call { callee := .builtin .append, args := #[s, x], argTypes := #[23, 23] }) (w0 w : World) (vt vw : Value) (T W : List UInt8) (H : Hid (Two w0 w vt vw T W)) (hs : a.eval s = vw)
    (S2 : Blocks) (A : Option Addr) (c : Nat) (m : List UInt8) (hx : a.eval x = .slice A m.length c) (hm : SliceAt Rep.byte w S2 A c m) (hlen : W.length + m.length ≤ 140737488355328)
    (h : ∀ A4 n4 c4 w', Hid (Two w0 w' vt (.slice A4 n4 c4) T (W ++ m)) → Hid (n4 = (W ++ m).length) → n4 ≤ c4 → c4 ≤ 9223372036854775807 → wpList Tryd.prog ops Q rest (a.put o.dst (.slice A4 n4 c4)) w') : wpList Tryd.prog ops Q (o :: rest) a w := by
  refine wpList_append_Own w hgd s x 23 ho Rep.byte w0.heap.size 5 1 stBytes nob vw W hs H.out.s S2 A c m hx hm nob (fun _ h => h.elim) (fun _ h => h) (fun _ _ h => h) (by omega) (by omega) H.out.b.size ?_
  intro v' w' hown hg hat
  obtain ⟨A4, n4, c4, rfl, hn4, hnc4, hcm4⟩ := hown.form
  exact h A4 n4 c4 w' (Lib.hid (H.out.right hown hg hat)) hn4 hnc4 hcm4
/-- How much rows hold, each with its line end. -/
def tot : List (List UInt8) → Nat
  | [] => 0
  | r :: l => 1 + r.length + tot l
theorem tot_append (a b : List (List UInt8)) : tot (a ++ b) = tot a + tot b := by
  induction a with
  | nil => simp [tot]
  | cons x r ih => simp only [List.cons_append, tot, ih]; omega
theorem tot_take (l : List (List UInt8)) {i : Nat} (hi : i < l.length) : tot (l.take (i + 1)) = tot (l.take i) + 1 + l[i].length := by
  rw [List.take_succ_eq_append_getElem hi, tot_append]
  simp only [tot]
  omega
theorem tot_le (l : List (List UInt8)) (i : Nat) : tot (l.take i) ≤ tot l := by
  have := tot_append (l.take i) (l.drop i)
  rw [List.take_append_drop] at this
  omega
theorem SliceAt.rowsB {w : World} {S : Blocks} {A : Option Addr} {c : Nat} {l : List (List UInt8)} (h : SliceAt Rep.byte.slice w S A c l) {i : Nat} (hi : i < l.length) :
    ∃ g o A' c', A = some ⟨g, o, none⟩ ∧ S g ∧ w.cell? ⟨g, o + i, none⟩ = some (.slice A' l[i].length c') ∧ SliceAt Rep.byte w S A' c' l[i] := by
  obtain ⟨g, o, cs, e, hb, hc, A', c', rfl, hs⟩ := h.at_ hi
  have := hc.one
  rw [show Rep.byte.slice.n = 1 from rfl, Nat.mul_one] at this
  exact ⟨g, o, A', c', e, hb, this, hs⟩
theorem byteNew4 (w : World) (a b : UInt8) (x y : Int) (hx : x = a.toNat) (hy : y = b.toNat) (B : Nat) (hB : w.heap.size < B) : SliceAt Rep.byte (w.alloc (.cells #[.int .u8 x, .int .u8 y] 5)) (under B) (some ⟨w.heap.size, 0, none⟩) 2 [a, b] := by
  subst hx hy
  exact (SliceAt.newBytes w 5 _ [a, b] 2 (by simp) (by simp [maxLen]) rfl).up fun b hb => Nat.lt_of_lt_of_le hb hB
end Go.Proofs.YtooempbgpfhdcaaDoor
