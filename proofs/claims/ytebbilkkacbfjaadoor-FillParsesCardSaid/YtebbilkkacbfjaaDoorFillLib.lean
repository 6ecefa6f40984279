/- An Expand's length against Long; the callees with lengths by names of their own. No conditions. -/
import Derived.Test.YtebbilkkacbfjaaDoorProg
import Derived.Test.YtebbilkkacbfjaaDoorWorks16
import Derived.Test.YtebbilkkacbfjaaDoorLong
import Derived.Test.YtebbilkkacbfjaaDoorEqBytes
import Derived.WalkKit
import Derived.WalkSpells
import Derived.Deep.QuietTactic
import Derived.BigQuiet
import Derived.Lib.Hide
namespace Go.Proofs.YtebbilkkacbfjaaDoor
open Go.RowKit

/-! ### Plain -/
theorem one_le (t : List UInt8) (ss : List Span) (p : Piece) : ((one t ss p).length : Int) ≤ klen ss p := by
  unfold one klen
  split
  · exact Int.le_refl _
  · unfold taken
    split
    · rename_i s hs
      rw [hs]
      by_cases h : 0 ≤ p.group ∧ 0 ≤ s.lo ∧ s.lo ≤ s.hi ∧ s.hi ≤ t.length
      · simp only [if_pos h, if_pos (show 0 ≤ p.group ∧ 0 ≤ s.lo ∧ s.lo ≤ s.hi from ⟨h.1, h.2.1, h.2.2.1⟩)]
        simp; omega
      · rw [if_neg h]
        simp only [List.length_nil]
        split <;> omega
    · rename_i hs
      rw [hs]
      simp
theorem klen_nn (ss : List Span) (p : Piece) : 0 ≤ klen ss p := by
  have := one_le [] ss p
  omega
theorem longFrom_le (t : List UInt8) (ss : List Span) : ∀ (ps : List Piece) (n : Int), longFrom ss n ps ≤ 4194304 → n + ((expand ps t ss).length : Int) ≤ longFrom ss n ps
  | [], n, _ => by simp [longFrom, expand]
  | p :: r, n, h => by
    unfold longFrom at h ⊢
    have h1 := one_le t ss p
    split at h
    · omega
    · rename_i hc
      rw [if_neg hc]
      have := longFrom_le t ss r _ h
      have e : expand (p :: r) t ss = one t ss p ++ expand r t ss := by simp [expand]
      rw [e, List.length_append]
      omega
def goodSpan (t : List UInt8) (s : Span) : Prop := (0 ≤ s.lo ∧ s.lo ≤ s.hi ∧ s.hi ≤ t.length) ∨ (s.lo = -1 ∧ s.hi = -1)
theorem one_eq (t : List UInt8) (ss : List Span) (h : ∀ s ∈ ss, goodSpan t s) (p : Piece) : ((one t ss p).length : Int) = klen ss p := by
  unfold one klen
  split
  · rfl
  · unfold taken
    split
    · rename_i s hs
      rw [hs]
      obtain ⟨hj, rfl⟩ := List.getElem?_eq_some_iff.1 hs
      have hg := h _ (List.getElem_mem hj)
      by_cases h1 : 0 ≤ p.group ∧ 0 ≤ ss[p.group.toNat].lo ∧ ss[p.group.toNat].lo ≤ ss[p.group.toNat].hi
      · have h2 : ss[p.group.toNat].hi ≤ t.length := by rcases hg with h | h <;> omega
        simp only [if_pos h1, if_pos (show 0 ≤ p.group ∧ 0 ≤ ss[p.group.toNat].lo ∧ ss[p.group.toNat].lo ≤ ss[p.group.toNat].hi ∧ ss[p.group.toNat].hi ≤ t.length from ⟨h1.1, h1.2.1, h1.2.2, h2⟩)]
        simp; omega
      · simp only [if_neg h1]
        rw [if_neg (fun e => h1 ⟨e.1, e.2.1, e.2.2.1⟩)]
        rfl
    · rename_i hs
      rw [hs]
      rfl
theorem longFrom_eq (t : List UInt8) (ss : List Span) (hs : ∀ s ∈ ss, goodSpan t s) : ∀ (ps : List Piece) (n : Int), longFrom ss n ps ≤ 4194304 → n + ((expand ps t ss).length : Int) = longFrom ss n ps
  | [], n, _ => by simp [longFrom, expand]
  | p :: r, n, h => by
    unfold longFrom at h ⊢
    have h1 := one_eq t ss hs p
    split at h
    · omega
    · rename_i hc
      rw [if_neg hc]
      have := longFrom_eq t ss hs r _ h
      have e : expand (p :: r) t ss = one t ss p ++ expand r t ss := by simp [expand]
      rw [e, List.length_append]
      omega
theorem expand_app (a b : List Piece) (t : List UInt8) (ss : List Span) : expand (a ++ b) t ss = expand a t ss ++ expand b t ss := by simp [expand]

/-! ### The callees, with lengths by names of their own -/
theorem expand_n (A T S : Option Addr) (n ca m ct k cs : Nat) (ps : List Piece) (t : List UInt8) (ss : List Span) (w : World) (hn : n = ps.length) (hm : m = t.length) (hk : k = ss.length)
    (hp : SliceAt Rep.piece w (under w.heap.size) A ca ps) (ht : SliceAt Rep.byte w (under w.heap.size) T ct t) (hs : SliceAt Rep.span w (under w.heap.size) S cs ss) (hx : (expand ps t ss).length ≤ 4194304) :
    Calls Tryd.prog 22 #[.slice A n ca, .slice T m ct, .slice S k cs] w fun e w' => ∃ A1 n1 c1, e = .returned (.slice A1 n1 c1) ∧ Hid (n1 = (expand ps t ss).length) ∧ n1 ≤ c1 ∧ c1 ≤ 9223372036854775807 ∧
      SliceAt Rep.byte w' (under w'.heap.size) A1 c1 (expand ps t ss) ∧ Below w.heap.size w w' := by
  subst hn; subst hm; subst hk
  refine (expand_any A T S ca ct cs ps t ss w hp ht hs hx).mono fun e w' ⟨v, he, ho, hb⟩ => ?_
  obtain ⟨A1, n1, c1, rfl, hn1, h1, h2, hs⟩ := ho.read
  exact ⟨A1, n1, c1, he, hn1, h1, h2, hs.up (btw_under (Nat.le_refl _)), hb⟩
theorem refLong_n (A S : Option Addr) (n ca k cs : Nat) (ps : List Piece) (ss : List Span) (w : World) (hn : n = ps.length) (hk : k = ss.length) (hp : SliceAt Rep.piece w (under w.heap.size) A ca ps) (hs : SliceAt Rep.span w (under w.heap.size) S cs ss) :
    Calls Tryd.prog 17 #[.slice A n ca, .slice S k cs] w fun e w' => e = .returned (.int .i64 (longFrom ss 0 ps)) ∧ ∃ n, w' = w.drewN n := by
  subst hn; subst hk
  exact refLong A S ca cs ps ss w _ _ hp hs
theorem fillLong_n (A S : Option Addr) (n ca k cs : Nat) (ps : List Piece) (ss : List Span) (w : World) (hn : n = ps.length) (hk : k = ss.length) (hp : SliceAt Rep.piece w (under w.heap.size) A ca ps) (hs : SliceAt Rep.span w (under w.heap.size) S cs ss) :
    Calls Tryd.prog 18 #[.slice A n ca, .slice S k cs] w fun e w' => e = .returned (.int .i64 (longFrom ss 0 ps)) ∧ Below w.heap.size w w' := by
  subst hn; subst hk
  exact fillLong A S ca cs ps ss w hp hs
theorem eqBytes_n (A B : Option Addr) (n c m d : Nat) (xs ys : List UInt8) (w : World) (b : Bool) (hn : n = xs.length) (hm : m = ys.length) (hb : decide (xs = ys) = b) (S S' : Blocks) (hx : SliceAt Rep.byte w S A c xs) (hy : SliceAt Rep.byte w S' B d ys) :
    Calls Tryd.prog 25 #[.slice A n c, .slice B m d] w fun e w' => e = .returned (.bool b) ∧ ∃ n, w' = w.drewN n := by
  subst hn; subst hm; subst hb
  exact eqBytes A B c d xs ys w S S' hx hy
theorem SliceAt.grow {α : Type} {r : Rep α} {w w1 : World} {A : Option Addr} {c : Nat} {l : List α} (h : SliceAt r w (under w.heap.size) A c l) (hb : Below w.heap.size w w1) : SliceAt r w1 (under w1.heap.size) A c l :=
  (h.below hb (Nat.le_refl _)).up fun _ h => Nat.lt_of_lt_of_le h hb.size
theorem stPieces : SliceType Tryd.prog 26 81 2 32 := SliceType.mk' (z := .agg #[.int .i64 0, .slice none 0 0]) Tryd.underlying26 (by kernel_rfl) rfl (by omega)
theorem quiet_add {P : Program} {f : FuncId} {args : Array Value} {w : World} {a n : Nat} {v : Value}
    (h : Calls P f args (w.drewN (a + n)) fun e w' => e = .returned v ∧ ∃ m, w' = (w.drewN (a + n)).drewN m) :
    Calls P f args (w.drewN (a + n)) fun e w'' => e = .returned v ∧ ∃ m, w'' = w.drewN (a + m) :=
  h.mono fun _ _ ⟨he, m, hm⟩ => ⟨he, n + m, by rw [hm, World.drewN_drewN, Nat.add_assoc]⟩
theorem below_drewN {B : Nat} {a w : World} (h : Below B a w) (n : Nat) : Below B a (w.drewN n) := ⟨h.os, h.tape, h.output, h.size, h.block⟩
end Go.Proofs.YtebbilkkacbfjaaDoor
