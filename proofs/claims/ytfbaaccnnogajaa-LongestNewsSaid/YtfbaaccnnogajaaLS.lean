/- Searches in a law's walk: small functions, and what is known of a search between its calls. Conditions: room. -/
import Derived.Test.YtfbaaccnnogajaaProg
import Derived.Test.YtfbaaccnnogajaaSearchPlain
import Derived.Test.YtfbaaccnnogajaaWorks08
import Derived.Test.YtfbaaccnnogajaaCopyBytes
namespace Go.Proofs.Ytfbaaccnnogajaa
open Go.RowKit

theorem long_any (n : Nat) (w : World) : Calls Try.prog 9 #[.int .i64 n] w fun e w' => e = .returned (.bool (decide (2147483647 < n))) ∧ w' = w := by
  by_cases h : 2147483647 < n
  · rw [decide_eq_true h]
    have h' : (2147483647 : Int) < n := by omega
    go_enter Try.func9, Try.ntmps9
    go_wp2
    go_ret
    exact ⟨by simp, rfl⟩
  · rw [decide_eq_false h]
    have h' : decide ((2147483647 : Int) < n) = false := decide_eq_false (by omega)
    go_enter Try.func9, Try.ntmps9
    go_wp2
    go_ret
    exact ⟨by simp, rfl⟩
def Heavy (m n : Nat) : Prop := 400 < n ∨ 1048576 / ((n + 1) * (n + 1)) < m
instance (m n : Nat) : Decidable (Heavy m n) := by unfold Heavy; exact inferInstance
theorem light {m n : Nat} (h : ¬ Heavy m n) : n ≤ 400 ∧ m * ((n + 1) * (n + 1)) ≤ 1048576 := by
  unfold Heavy at h
  have h1 : n ≤ 400 := by omega
  have h2 : m ≤ 1048576 / ((n + 1) * (n + 1)) := by omega
  exact ⟨h1, (Nat.le_div_iff_mul_le (Nat.mul_pos (by omega) (by omega))).1 h2⟩
theorem heavy_any (m n : Nat) (w : World) : Calls Try.prog 20 #[.int .i64 m, .int .i64 n] w fun e w' => e = .returned (.bool (decide (Heavy m n))) ∧ w' = w := by
  by_cases h : 400 < n
  · have hy : Heavy m n := .inl h
    rw [decide_eq_true hy]
    have h' : decide ((400 : Int) < n) = true := decide_eq_true (by omega)
    go_enter Try.func20, Try.ntmps20
    go_wp2
    go_ret
    exact ⟨rfl, rfl⟩
  · have h' : decide ((400 : Int) < n) = false := decide_eq_false (by omega)
    obtain ⟨q, hq⟩ : ∃ q, q = (n + 1) * (n + 1) := ⟨_, rfl⟩
    have hqi : ((n : Int) + 1) * ((n : Int) + 1) = q := by rw [hq, Int.natCast_mul]; rfl
    have hq1 : q ≤ 401 * 401 := by rw [hq]; exact Nat.mul_le_mul (by omega) (by omega)
    have hq0 : 1 ≤ q := by rw [hq]; exact Nat.mul_pos (by omega) (by omega)
    have hdec : Heavy m n ↔ 1048576 / q < m := by unfold Heavy; rw [← hq]; exact ⟨fun h2 => h2.resolve_left h, .inr⟩
    obtain ⟨r, hr⟩ : ∃ r, r = decide (Heavy m n) := ⟨_, rfl⟩
    rw [← hr]
    have hr' : decide ((1048576 : Int) / (q : Int) < (m : Int)) = r := by
      rw [hr]
      apply decide_eq_decide.2
      rw [hdec]
      have : ((1048576 : Int) / (q : Int)) = ((1048576 / q : Nat) : Int) := by rw [Int.natCast_ediv]; rfl
      rw [this]; omega
    have h400 : n ≤ 400 := by omega
    clear hq hdec hr h
    go_enter Try.func20, Try.ntmps20
    go_wp2
    go_ret
    exact ⟨rfl, rfl⟩
/-- A search between the calls of a law that began in w0. -/
structure LS (w0 w : World) (B gs : Nat) (M : List Instr) (F : Blocks) (st : Nat) (E : List Bool) : Prop where
  s : Srch w B gs M F st E
  b : Below w0.heap.size w0 w
  hB : w0.heap.size ≤ B
section
variable {w0 w w1 w' : World} {B gs : Nat} {M : List Instr} {F F' : Blocks} {st st' : Nat} {E E' : List Bool}
theorem LS.far (h : LS w0 w B gs M F st E) (hb : Below w.heap.size w w') : LS w0 w' B gs M F st E := ⟨h.s.far hb, h.b.trans (hb.mono h.b.size), h.hB⟩
theorem LS.next (h : LS w0 w B gs M F st E) (hs : Srch w' B gs M F' st' E') (ho : Only F w w') : LS w0 w' B gs M F' st' E' :=
  ⟨hs, h.b.trans (ho.below h.b.size fun b hb => Nat.le_trans h.hB (h.s.lt b hb).1), h.hB⟩
theorem LS.fresh (h : LS w0 w B gs M F st E) : ¬ F w.heap.size := fun hF => by have := (h.s.lt _ hF).2; omega
/-- What is kept by a call of the search. -/
def Kept (w w' : World) (F F' : Blocks) : Prop := w.heap.size ≤ w'.heap.size ∧ ∀ q, q < w.heap.size → ¬ F q → w'.heap[q]? = w.heap[q]? ∧ ¬ F' q
theorem Kept.far {w2 : World} (h : Kept w w' F F') (hb : Below w'.heap.size w' w2) : Kept w w2 F F' := ⟨Nat.le_trans h.1 hb.size, fun q hq hn => ⟨(hb.block q (Nat.lt_of_lt_of_le hq h.1)).trans (h.2 q hq hn).1, (h.2 q hq hn).2⟩⟩
theorem Kept.from_ {w2 : World} (h : Kept w2 w' F F') (hb : Below w.heap.size w w2) : Kept w w' F F' := ⟨Nat.le_trans hb.size h.1, fun q hq hn => by
  obtain ⟨h1, h2⟩ := h.2 q (Nat.lt_of_lt_of_le hq hb.size) hn
  exact ⟨h1.trans (hb.block q hq), h2⟩⟩
theorem Kept.of (h : Only F w w') (hF : ∀ b, F' b → F b ∨ w.heap.size ≤ b) : Kept w w' F F' := ⟨h.size, fun q hq hn => ⟨h.block q hq hn, fun h' => by
  rcases hF q h' with h' | h'
  · exact hn h'
  · omega⟩⟩
theorem Kept.trans {w2 : World} {F2 : Blocks} (h : Kept w w1 F F') (k : Kept w1 w2 F' F2) : Kept w w2 F F2 := ⟨Nat.le_trans h.1 k.1, fun q hq hn => by
  obtain ⟨h1, h2⟩ := h.2 q hq hn
  obtain ⟨k1, k2⟩ := k.2 q (Nat.lt_of_lt_of_le hq h.1) h2
  exact ⟨k1.trans h1, k2⟩⟩

variable {text : List UInt8} {n c : Nat} {A : Option Addr}
/-- A text of the call's own is apart from the search. -/
theorem own_apart (h : LS w0 w B gs M F st E) (hv : Own Rep.byte 5 w1 w.heap.size nob (.slice A n c) text) : ∃ S : Blocks, SliceAt Rep.byte w1 S A c text ∧ n = text.length ∧ ∀ b, S b → b < w1.heap.size ∧ ¬ F b := by
  obtain ⟨A', c', he, hs⟩ := hv.slice
  simp only [Value.slice.injEq] at he
  obtain ⟨rfl, rfl, rfl⟩ := he
  refine ⟨_, hs, rfl, fun b hb' => ?_⟩
  rcases hb' with ⟨h1, h2, -⟩ | h1
  · exact ⟨h2, fun hF => by have := (h.s.lt b hF).2; omega⟩
  · exact h1.elim
theorem LS.find (h : LS w0 w B gs M F st E) (hM : MShaped M) (hb : Below w.heap.size w w1) (hv : Own Rep.byte 5 w1 w.heap.size nob (.slice A n c) text) (hn : text.length ≤ 400) (hMn : M.length * ((text.length + 1) * (text.length + 1)) ≤ 1048576) (at_ : Nat) :
    Calls Try.prog 15 #[.pointer (some ⟨gs, 0, none⟩), .slice A n c, .int .i64 at_] w1 fun e w' =>
      e = .returned (.tuple #[.agg #[.int .i64 (spanA (findAll M text at_).1), .int .i64 (spanB (findAll M text at_).1)], .bool (findAll M text at_).1.isSome]) ∧ ∃ F' E', LS w0 w' B gs M F' (findAll M text at_).2 E' ∧ Kept w w' F F' := by
  obtain ⟨S, htx, rfl, hS⟩ := own_apart h hv
  have h1 := h.far hb
  refine (find_in B gs M F st E w1 A _ c at_ text S h1.s hM.wf hM.1 (by have := hM.2.1; omega) (by omega) ?_ rfl htx hS).mono ?_
  · have : (text.length + 1) * (1 + 2 * (M.length * (text.length + 1))) = (text.length + 1) + 2 * (M.length * ((text.length + 1) * (text.length + 1))) := by
      rw [Nat.mul_add, Nat.mul_one]
      rw [Nat.mul_left_comm (text.length + 1) 2, Nat.mul_left_comm (text.length + 1) M.length]
    omega
  · rintro e w' ⟨F', E', rfl, hs, ho, hF⟩
    exact ⟨rfl, F', E', h1.next hs ho, (Kept.of ho hF).from_ hb⟩
theorem LS.find_neg (h : LS w0 w B gs M F st E) (hM : MShaped M) (hb : Below w.heap.size w w1) (at_ : Int) (hat : at_ < 0) :
    Calls Try.prog 15 #[.pointer (some ⟨gs, 0, none⟩), .slice A n c, .int .i64 at_] w1 fun e w' => e = .returned (.tuple #[.agg #[.int .i64 0, .int .i64 0], .bool false]) ∧ LS w0 w' B gs M F 0 E ∧ Kept w w' F F := by
  have h1 := h.far hb
  refine (Go.Proofs.Ytfbaaccnnogajaa.find_neg B gs M F st E w1 A n c at_ h1.s hM.1 hat).mono ?_
  rintro e w' ⟨rfl, hs, ho⟩
  exact ⟨rfl, h1.next hs ho, (Kept.of ho fun b hb => .inl hb).from_ hb⟩
theorem LS.ends (h : LS w0 w B gs M F st E) (hM : MShaped M) (hb : Below w.heap.size w w1) (hv : Own Rep.byte 5 w1 w.heap.size nob (.slice A n c) text) (hn : text.length ≤ 400) (hMn : M.length * ((text.length + 1) * (text.length + 1)) ≤ 1048576) (at_ : Nat) (hat : at_ ≤ text.length) :
    Calls Try.prog 17 #[.pointer (some ⟨gs, 0, none⟩), .slice A n c, .int .i64 at_] w1 fun e w' =>
      ∃ v F', e = .returned v ∧ Own Rep.bool 4 w' w.heap.size nob v (endsAt M text at_) ∧ LS w0 w' B gs M F' (fromAll M text at_ 0).2.2 (endsAt M text at_) ∧ Kept w w' F F' ∧ ∀ b, v.ownBlock = some b → ¬ F' b := by
  obtain ⟨S, htx, rfl, hS⟩ := own_apart h hv
  have h1 := h.far hb
  have hMn2 : M.length * (text.length + 1) ≤ M.length * ((text.length + 1) * (text.length + 1)) := Nat.mul_le_mul_left _ (Nat.le_mul_of_pos_left _ (by omega))
  refine (ends_in B gs M F st E w1 A _ c at_ text S h1.s hM.wf hM.1 (by have := hM.2.1; omega) (by omega) (by omega) rfl hat htx hS).mono ?_
  rintro e w' ⟨v, F', rfl, hv', hs, ho, hF, hn'⟩
  refine ⟨v, F', rfl, ?_, h1.next hs ho, (Kept.of ho hF).from_ hb, hn'⟩
  obtain ⟨xs, hx, hrest⟩ := hv'
  refine ⟨xs, ⟨hx.1, ?_⟩, hrest⟩
  rcases hx.2 with hx2 | ⟨g, cap, cur, e1, e2, e3⟩
  · exact .inl hx2
  · exact .inr ⟨g, cap, cur, e1, Nat.le_trans hb.size e2, e3⟩
theorem LS.ends_out (h : LS w0 w B gs M F st E) (hM : MShaped M) (hb : Below w.heap.size w w1) (at_ : Int) (hat : at_ < 0 ∨ n < at_) :
    Calls Try.prog 17 #[.pointer (some ⟨gs, 0, none⟩), .slice A n c, .int .i64 at_] w1 fun e w' => e = .returned (.slice none 0 0) ∧ LS w0 w' B gs M F 0 E ∧ Kept w w' F F := by
  have h1 := h.far hb
  refine (Go.Proofs.Ytfbaaccnnogajaa.ends_out B gs M F st E w1 A n c at_ h1.s hM.1 hat).mono ?_
  rintro e w' ⟨rfl, hs, ho⟩
  exact ⟨rfl, h1.next hs ho, (Kept.of ho fun b hb => .inl hb).from_ hb⟩
theorem LS.steps (h : LS w0 w B gs M F st E) : Calls Try.prog 18 #[.pointer (some ⟨gs, 0, none⟩)] w fun e w' => e = .returned (.int .i64 st) ∧ w' = w := steps_any B gs M F st E w h.s
end
end Go.Proofs.Ytfbaaccnnogajaa
