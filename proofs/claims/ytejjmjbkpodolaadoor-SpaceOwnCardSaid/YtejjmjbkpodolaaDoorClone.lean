/- bytes.Clone, in the reading of a slice as a list; small words for what a call leaves. Condition: room. -/
import Derived.Test.YtejjmjbkpodolaaDoorProg
import Derived.Test.YtejjmjbkpodolaaDoorShelf
import Derived.Test.YtejjmjbkpodolaaDoorAppendStr
import Derived.Test.YtejjmjbkpodolaaDoorOnly
import Derived.WalkKit
import Derived.WalkSpells
import Derived.RegionTactic
import Derived.ChangeAlike
import Derived.Deep.QuietTactic
import Derived.BigQuiet
import Derived.Deep.LoopGhost
import Derived.WalkMore
import Derived.Deep.CutBlock
import Derived.Lib.Hide
namespace Go.Proofs.YtejjmjbkpodolaaDoor
open Go.RowKit Go.ChangeShapes Go.WideShapes Go.Deep

theorem quietL {P : Program} {f : FuncId} {args : Array Value} {w : World} {n : Nat} {v : Value}
    (h : Calls P f args (w.drewN n) fun e w' => e = .returned v ∧ w.drewN n = w') : Calls P f args (w.drewN n) fun e w'' => e = .returned v ∧ ∃ m, w'' = w.drewN m :=
  h.mono fun _ _ ⟨he, hm⟩ => ⟨he, n, hm.symm⟩
theorem below_drewN (w : World) (m : Nat) : Below w.heap.size w (w.drewN m) := ⟨rfl, rfl, rfl, Nat.le_refl _, fun _ _ => rfl⟩
theorem bfar {a b c : World} (h : Below a.heap.size a b) (k : Below b.heap.size b c) : Below a.heap.size a c := h.trans (k.mono h.size)
theorem Own.low {α : Type} {r : Rep α} {e : TypeId} {w : World} {base base' : Nat} {S : Blocks} {v : Value} {l : List α} (h : Own r e w base S v l) (hb : base' ≤ base) : Own r e w base' S v l := by
  obtain ⟨xs, hx, hrest⟩ := h
  refine ⟨xs, ⟨hx.1, ?_⟩, hrest⟩
  rcases hx.2 with hx2 | ⟨g, cap, cur, e1, e2, e3⟩
  · exact .inl hx2
  · exact .inr ⟨g, cap, cur, e1, Nat.le_trans hb e2, e3⟩
/-- bytes.Clone. -/
theorem cloneB (A : Option Addr) (n c : Nat) (l : List UInt8) (w : World) (S : Blocks) (hn : n = l.length) (hl : SliceAt Rep.byte w S A c l) (hb : n ≤ 140737488355328) :
    Calls Tryd.prog 27 #[.slice A n c] w fun e w' => ∃ A' c', e = .returned (.slice A' n c') ∧ n ≤ c' ∧ c' ≤ 9223372036854775807 ∧ Hid (Own Rep.byte 5 w' w.heap.size nob (.slice A' n c') l) ∧ Hid (Below w.heap.size w w') := by
  cases A with
  | none =>
    have h0 : l = [] := List.eq_nil_of_length_eq_zero (by have := hl.2.2.1 rfl; have := hl.len; omega)
    subst h0
    obtain rfl : n = 0 := hn
    refine (Tryd.bytes_Clone_nil 0 c w).mono ?_
    rintro e w' ⟨rfl, rfl⟩
    exact ⟨none, 0, rfl, Nat.le_refl _, by omega, Lib.hid (Own.nil _ _ _ _), Lib.hid (Below.refl _ _)⟩
  | some a =>
    refine (Tryd.bytes_Clone_at a n c (l.map fun b => (b.toNat : Int)) w (by simp [hn]) hb (fun i hi => ?_)).mono ?_
    · have hil : i < l.length := by omega
      obtain ⟨g, o, he, -, hc⟩ := hl.byte hil
      simp only [Option.some.injEq] at he
      subst he
      rw [add_plain, hc]
      simp [List.getD, hil]
    · rintro e w' ⟨v', rfl, ho, -, hbw⟩
      have hbc : (l.map fun b => (b.toNat : Int)).map (Value.int .u8) = bcells l := by simp [bcells]
      rw [hbc, hn] at ho
      have hown := Own.of_bcells ho
      obtain ⟨A', n', c', rfl, h1, h2, h3⟩ := hown.form
      have e1 : n' = n := by rw [h1.out, hn]
      subst e1
      exact ⟨A', c', rfl, h2, h3, Lib.hid hown, Lib.hid hbw⟩
end Go.Proofs.YtejjmjbkpodolaaDoor
