/- Texts that lead to the claim, one behind the other: bytes.Clone, and slices.Clone of nodes: the walks. Condition: room. | A whole command: made, stored, loaded. No conditions. -/
import Derived.Test.YtnpideapdjomgaaDoorRA7
import Derived.Deep.RegionWith
import Derived.Test.YtnpideapdjomgaaDoorRA8
import Derived.Deep.WholeRow
namespace Go.Proofs.YtnpideapdjomgaaDoor
open Go.RowKit Go.ChangeShapes Go.WideShapes Go.Deep

theorem Own.empty {α : Type} (r : Rep α) (e : TypeId) (w : World) (B : Nat) (hB : B ≤ w.heap.size) : Own r e (w.alloc (.cells #[] e)) B nob (.slice (some ⟨w.heap.size, 0, none⟩) 0 0) ([] : List α) :=
  ⟨[], ⟨by simp, .inr ⟨w.heap.size, 0, #[], by simp, hB, heap_alloc_new w _, by simp, by simp [maxLen], by simp, by simp⟩⟩, fun _ h => h.elim, by simp, fun i hi => absurd hi (by simp)⟩
set_option maxRecDepth 100000 in
set_option maxHeartbeats 1000000 in
theorem cloneBytes (A : Option Addr) (n c : Nat) (l : List UInt8) (w : World) (S : Blocks) (hn : Hid (n = l.length)) (hl : Hid (SliceAt Rep.byte w S A c l)) (hS : Hid (∀ b, S b → b < w.heap.size)) (hb : n ≤ 140737488351232) :
    Calls Tryd.prog 37 #[.slice A n c] w fun e w' => ∃ A' c', e = .returned (.slice A' n c') ∧ n ≤ c' ∧ c' ≤ 9223372036854775807 ∧ Own Rep.byte 5 w' w.heap.size nob (.slice A' n c') l ∧ Below w.heap.size w w' := by
  cases A with
  | none =>
    have hc0 := hl.out.2.2.1 rfl
    have h0 : l = [] := List.eq_nil_of_length_eq_zero (by have := hl.out.len; omega)
    have hn0 : n = 0 := by rw [hn.out, h0]; rfl
    subst hn0; subst hc0
    have he : ∀ w : World, (binOp .eql 39 (.slice none 0 0) (.slice none 0 0)).run Tryd.prog w = .ok (.bool true) w := fun _ => rfl
    go_enter Tryd.func37, Tryd.ntmps37
    go_wp2_with fail
    go_ret
    exact ⟨none, 0, rfl, Nat.le_refl _, by omega, by rw [h0]; exact Own.nil _ _ _ _, Below.refl _ _⟩
  | some a =>
    have hS1 := Lib.hid (hl.out.keep (S' := S) (fun _ h => h) (Same.of_below (Below.alloc (Below.refl w.heap.size w) (Nat.le_refl _) (.cells #[] 5)) hS.out))
    have he : ∀ w : World, (binOp .eql 39 (.slice (some a) n c) (.slice none 0 0)).run Tryd.prog w = .ok (.bool false) w := fun _ => rfl
    go_enter Tryd.func37, Tryd.ntmps37
    go_wp2_with (at_builtin; refine wpList_append_bytes _ rfl (.tmp 5) (.tmp 6) 39 rfl w.heap.size 5 stBytes (.slice (some ⟨w.heap.size, 0, none⟩) 0 0) [] rfl (Own.empty Rep.byte 5 w w.heap.size (Nat.le_refl _)) S (some a) n c l rfl hS1.out hn.out.symm (by simp <;> omega) (by simp) ?_; intro v' w1 hown hg hat; have HO := Lib.hid hown; have HG := Lib.hid hg; clear hown hg hat)
    obtain ⟨A', n', c', rfl, hn', h1, h2⟩ := HO.out.form
    go_ret
    have e : n' = n := by rw [hn'.out, hn.out]; simp
    subst e
    refine ⟨A', c', rfl, h1, h2, HO.out, ?_⟩
    exact (Below.alloc (Below.refl _ _) (Nat.le_refl _) _).grown HG.out (by simp) fun k hk => by simp [Value.ownBlock] at hk; omega
set_option maxRecDepth 100000 in
set_option maxHeartbeats 1000000 in
theorem cloneNodes (A : Option Addr) (n c : Nat) (l : List Nd) (w : World) (S : Blocks) (hn : Hid (n = l.length)) (hl : Hid (SliceAt Rep.nd w S A c l)) (hS : Hid (∀ b, S b → b < w.heap.size)) (hb : n ≤ 1099511627776) :
    Calls Tryd.prog 38 #[.slice A n c] w fun e w' => ∃ A' c', e = .returned (.slice A' n c') ∧ n ≤ c' ∧ c' ≤ 9223372036854775807 ∧ Own Rep.nd 66 w' w.heap.size nob (.slice A' n c') l ∧ Below w.heap.size w w' := by
  cases A with
  | none =>
    have hc0 := hl.out.2.2.1 rfl
    have h0 : l = [] := List.eq_nil_of_length_eq_zero (by have := hl.out.len; omega)
    have hn0 : n = 0 := by rw [hn.out, h0]; rfl
    subst hn0; subst hc0
    have he : ∀ w : World, (binOp .eql 36 (.slice none 0 0) (.slice none 0 0)).run Tryd.prog w = .ok (.bool true) w := fun _ => rfl
    go_enter Tryd.func38, Tryd.ntmps38
    go_wp2_with fail
    go_ret
    exact ⟨none, 0, rfl, Nat.le_refl _, by omega, by rw [h0]; exact Own.nil _ _ _ _, Below.refl _ _⟩
  | some a =>
    have hS1 := Lib.hid (hl.out.keep (S' := S) (fun _ h => h) (Same.of_below (Below.alloc (Below.refl w.heap.size w) (Nat.le_refl _) (.cells #[] 66)) hS.out))
    have he : ∀ w : World, (binOp .eql 36 (.slice (some a) n c) (.slice none 0 0)).run Tryd.prog w = .ok (.bool false) w := fun _ => rfl
    go_enter Tryd.func38, Tryd.ntmps38
    go_wp2_with (at_builtin; refine wpList_append_Own _ rfl (.tmp 5) (.tmp 6) 36 rfl Rep.nd w.heap.size 66 72 stNds nob (.slice (some ⟨w.heap.size, 0, none⟩) 0 0) [] rfl (Own.empty Rep.nd 66 w w.heap.size (Nat.le_refl _)) S (some a) c l (by rw [← hn.out]; rfl) hS1.out nob (fun _ h => h.elim) (fun _ h => h) (fun _ _ h => h) (by rw [← hn.out]; simp <;> omega) (by rw [← hn.out]; simp <;> omega) (by simp) ?_; intro v' w1 hown hg hat; have HO := Lib.hid hown; have HG := Lib.hid hg; clear hown hg hat)
    obtain ⟨A', n', c', rfl, hn', h1, h2⟩ := HO.out.form
    go_ret
    have e : n' = n := by rw [hn'.out, hn.out]; simp
    subst e
    refine ⟨A', c', rfl, h1, h2, HO.out, ?_⟩
    exact (Below.alloc (Below.refl _ _) (Nat.le_refl _) _).grown HG.out (by simp) fun k hk => by simp [Value.ownBlock] at hk; omega
end Go.Proofs.YtnpideapdjomgaaDoor
namespace Go.Proofs.YtnpideapdjomgaaDoor
open Go.RowKit Go.ChangeShapes Go.WideShapes Go.Deep

theorem wpList_alloc_cm {ops : Array Oper} {rest : List Oper} {op : Oper} {a : Act} {w : World} {Q : Exit → Act → World → Prop} (hgd : op.guard = none) (ho : op.op = .alloc 44) (Z : Array Value) (hZ : Z = zcells.toArray)
    (h : wpList Tryd.prog ops Q rest (a.put op.dst (.pointer (some ⟨w.heap.size, 0, none⟩))) (w.alloc (.cells Z 44))) : wpList Tryd.prog ops Q (op :: rest) a w :=
  wpList_plain hgd fun _ hK => by
    subst hZ
    unfold Oper.wp execOp
    simp only [ho, Instr.alloc, Sem.run_bind, cm_zero, Result.andThen_ok]
    exact hK _ _ h
theorem wpList_store_cm {ops : Array Oper} {rest : List Oper} {op : Oper} {a : Act} {w : World} {Q : Exit → Act → World → Prop} (hgd : op.guard = none) (x y : Operand) (ho : op.op = .store 44 x y) (g : Nat) (X : Array Value) (hx : a.eval x = .pointer (some ⟨g, 0, none⟩)) (hy : a.eval y = .agg X)
    {c : Cm} {s : CmS} (hX : CmX X c s) (t : TypeId) (old : Array Value) (hg : w.heap[g]? = some (.cells old t (0, 0))) (hold : old.size = 272) (h : wpList Tryd.prog ops Q rest (a.put op.dst undef) (w.setRow g X)) : wpList Tryd.prog ops Q (op :: rest) a w := by
  refine wpList_store_row hgd 44 x y ho g X hx hy t old hg ?_ (hold.trans hX.size.symm) ?_ h
  · rw [hX.size]; kernel_rfl
  · rw [hX.arr]; exact all_oneCell_toArray (ccells_one c s)
end Go.Proofs.YtnpideapdjomgaaDoor
