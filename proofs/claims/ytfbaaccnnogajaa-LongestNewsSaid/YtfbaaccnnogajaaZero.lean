/- What no New made: a nil search, a zero one, of the document too. Condition: room. -/
import Derived.Test.YtfbaaccnnogajaaProg
import Derived.Test.YtfbaaccnnogajaaFind
import Derived.Test.YtfbaaccnnogajaaRefShaped
import Derived.Test.YtfbaaccnnogajaaInstr
namespace Go.Proofs.Ytfbaaccnnogajaa
open Go.RowKit

/-- A zero search. -/
abbrev zsearch : Obj := .cells #[.slice none 0 0, .slice none 0 0, .int .i16 0, .slice none 0 0, .slice none 0 0, .slice none 0 0, .int .i64 0] 40
section
variable (A : Option Addr) (n c gs : Nat) (at_ : Int) (w : World)
theorem find_nil : Calls Try.prog 15 #[.pointer none, .slice A n c, .int .i64 at_] w fun e w' => e = .returned (.tuple #[.agg #[.int .i64 0, .int .i64 0], .bool false]) ∧ Below w.heap.size w w' := by
  go_enter Try.func15, Try.ntmps15
  go_wp2
  refine bodyPost_ret (v := .tuple #[.agg #[.int .i64 0, .int .i64 0], .bool false]) (by simp [results, Try.results15, go_sem]) rfl ⟨rfl, (Below.refl _ _).alloc (Nat.le_refl _) _⟩
theorem find_zero (hz : w.heap[gs]? = some zsearch) : Calls Try.prog 15 #[.pointer (some ⟨gs, 0, none⟩), .slice A n c, .int .i64 at_] w fun e w' => e = .returned (.tuple #[.agg #[.int .i64 0, .int .i64 0], .bool false]) ∧ Below w.heap.size w w' := by
  have hc0 : w.cell? ⟨gs, 0, none⟩ = some (.slice none 0 0) := cell_of_row w gs 0 _ _ (0, 0) hz
  have hgl : gs < w.heap.size := World.block_lt_of_cell? w _ hc0
  clear hz
  go_enter Try.func15, Try.ntmps15
  go_wp2
  refine bodyPost_ret (v := .tuple #[.agg #[.int .i64 0, .int .i64 0], .bool false]) (by simp [results, Try.results15, go_sem]) rfl ⟨rfl, (Below.refl _ _).alloc (Nat.le_refl _) _⟩
theorem ends_nil : Calls Try.prog 17 #[.pointer none, .slice A n c, .int .i64 at_] w fun e w' => e = .returned (.slice none 0 0) ∧ w = w' := by
  go_enter Try.func17, Try.ntmps17
  go_wp2
  go_ret
  exact ⟨rfl, rfl⟩
theorem ends_zero (hz : w.heap[gs]? = some zsearch) : Calls Try.prog 17 #[.pointer (some ⟨gs, 0, none⟩), .slice A n c, .int .i64 at_] w fun e w' => e = .returned (.slice none 0 0) ∧ w = w' := by
  have hc0 : w.cell? ⟨gs, 0, none⟩ = some (.slice none 0 0) := cell_of_row w gs 0 _ _ (0, 0) hz
  clear hz
  go_enter Try.func17, Try.ntmps17
  go_wp2
  go_ret
  exact ⟨rfl, rfl⟩
theorem steps_zero (hz : w.heap[gs]? = some zsearch) : Calls Try.prog 18 #[.pointer (some ⟨gs, 0, none⟩)] w fun e w' => e = .returned (.int .i64 0) ∧ w = w' := by
  have hc0 : w.cell? ⟨gs, 6, none⟩ = some (.int .i64 0) := cell_of_row w gs 6 _ _ (0, 0) hz
  clear hz
  go_enter Try.func18, Try.ntmps18
  go_wp2
  go_ret
  exact ⟨rfl, rfl⟩
end
/-- The document's New. -/
def RefNew (c : Int) (w : World) (e : Ending) (w' : World) : Prop := (∃ p, e = .returned (.tuple #[.pointer p, .int .i64 c])) ∧ Below w.heap.size w w'
set_option maxRecDepth 100000 in
theorem refNew_ok (M : List Instr) (A : Option Addr) (n c : Nat) (w : World) (S : Blocks) (hm : SliceAt Rep.instr w S A c M) (hnM : n = M.length) (hM : MShaped M) :
    Calls Try.prog 12 #[.slice A n c] w (RefNew 0 w) := by
  have hsh := refShaped_any M A n c w S hm hnM
  subst hnM
  rw [decide_eq_true hM] at hsh
  have hn : M.length ≤ 65540 := by have := hM.2.1; omega
  have HSH := Lib.hid hsh
  have HM := Lib.hid hm
  clear hsh hm hM
  go_enter Try.func12, Try.ntmps12
  go_wp2_with fail
  refine HSH.out.mono ?_
  rintro e w' ⟨rfl, rfl⟩
  go_wp2_with (at_builtin; refine wpList_append_Own _ rfl (.tmp 8) (.tmp 9) 22 rfl Rep.instr w.heap.size 64 56 stInstrs nob _ [] rfl (Own.nil _ _ _ _) _ _ _ M rfl HM.out nob (fun _ h => h.elim) (fun _ h => h) (fun _ _ h => Rep.instr_is.2 (Rep.instr_is.1 h)) (by simp; omega) (by simp; omega) (Nat.le_refl _) ?_; intro v1 w1 hown1 hg1 hat1; have HB := Lib.hid (below_own (Below.refl _ _) (Own.nil Rep.instr 64 w w.heap.size) hg1 (Nat.le_refl _)); obtain ⟨A9, n9, c9, rfl, -, -, -⟩ := hown1.form; clear hown1 hg1 hat1)
  go_ret2
  exact ⟨⟨_, rfl⟩, HB.out.alloc HB.out.size _⟩
theorem refNew_no (M : List Instr) (A : Option Addr) (n c : Nat) (w : World) (S : Blocks) (hm : SliceAt Rep.instr w S A c M) (hnM : n = M.length) (hM : ¬ MShaped M) :
    Calls Try.prog 12 #[.slice A n c] w (RefNew 49 w) := by
  have hsh := refShaped_any M A n c w S hm hnM
  rw [decide_eq_false hM] at hsh
  have HSH := Lib.hid hsh
  clear hsh hm hnM hM
  go_enter Try.func12, Try.ntmps12
  go_wp2_with fail
  refine HSH.out.mono ?_
  rintro e w' ⟨rfl, rfl⟩
  go_wp2_with fail
  go_ret2
  exact ⟨⟨_, rfl⟩, Below.refl _ _⟩
end Go.Proofs.Ytfbaaccnnogajaa
