/- Texts that lead to the claim, one behind the other: Disks that are none: what the program's calls answer there. No conditions. -/
import Derived.Test.YtignnohjggjkoaaTa0
import Derived.Test.YtignnohjggjkoaaTa1
import Derived.Test.YtignnohjggjkoaaProg
import Derived.WalkKit
import Derived.WalkSpells
import Derived.WalkMore
namespace Go.Proofs.Ytignnohjggjkoaa
open Go.RowKit Go.ChangeShapes Go.WideShapes Go.Deep

/-- A disk that is none: 'ours' says so, here and later. -/
def ND (p : Value) (w : World) : Prop := ∀ W, Below w.heap.size w W → Calls Try.prog 39 #[p] W fun e w' => e = .returned (.bool false) ∧ W = w'
theorem ND.far {p : Value} {w w' : World} (h : ND p w) (hb : Below w.heap.size w w') : ND p w' := fun W hW => h W (hb.trans (hW.mono hb.size))
theorem nd_nil (w : World) : ND (.pointer none) w := by
  intro W hW
  go_enter Try.func39, Try.ntmps39
  go_wp2
  go_ret
  exact ⟨rfl, rfl⟩
theorem nd_zero (w : World) (g : Nat) (hg : w.heap[g]? = some (.cells #[.map none, .map none, .slice none 0 0, .bool false, .bool false, .int .i64 0, .slice none 0 0, .int .i64 0, .int .i64 0] 71)) : ND (.pointer (some ⟨g, 0, none⟩)) w := by
  intro W hW
  have hgl : g < w.heap.size := (Array.getElem?_eq_some_iff.1 hg).1
  have h2 : W.cell? ⟨g, 3, none⟩ = some (.bool false) := (hW.cell (p := ⟨g, 3, none⟩) hgl).trans (cell_of_row w _ 3 _ _ (0, 0) hg)
  go_enter Try.func39, Try.ntmps39
  go_wp2
  go_ret
  exact ⟨rfl, rfl⟩
section
variable (p : Value) (w : World)
set_option maxRecDepth 100000 in
theorem looked_nd (s v : Value) (h : Hid (ND p w)) : Calls Try.prog 43 #[p, s, v] w fun e w' => e = .returned (.tuple #[.pointer none, .int .i64 1]) ∧ w = w' := by
  go_enter Try.func43, Try.ntmps43
  go_wp2_with fail
  refine (h.out _ (Below.refl _ _)).mono ?_
  rintro e w1 ⟨rfl, rfl⟩
  go_wp2_with fail
  go_ret2
  exact ⟨rfl, rfl⟩
set_option maxRecDepth 100000 in
theorem power_nd (h : Hid (ND p w)) : Calls Try.prog 12 #[p] w fun e w' => e = .returned (.bool false) ∧ w = w' := by
  go_enter Try.func12, Try.ntmps12
  go_wp2_with fail
  refine (h.out _ (Below.refl _ _)).mono ?_
  rintro e w1 ⟨rfl, rfl⟩
  go_wp2_with fail
  go_ret
  exact ⟨rfl, rfl⟩
set_option maxRecDepth 100000 in
theorem syncDir_nd (h : Hid (ND p w)) : Calls Try.prog 27 #[p] w fun e w' => e = .returned (.int .i64 1) ∧ w = w' := by
  go_enter Try.func27, Try.ntmps27
  go_wp2_with fail
  refine (looked_nd p w _ _ h).mono ?_
  rintro e w1 ⟨rfl, rfl⟩
  go_wp2_with fail
  go_ret
  exact ⟨rfl, rfl⟩
set_option maxRecDepth 100000 in
theorem make_nd (s : ByteArray) (h : Hid (ND p w)) : Calls Try.prog 28 #[p, .string s] w fun e w' => e = .returned (.int .i64 1) ∧ Below w.heap.size w w' := by
  go_enter Try.func28, Try.ntmps28
  go_wp2_with fail
  refine (looked_nd p _ _ _ (Lib.hid (h.out.far (Below.alloc (Below.refl _ _) (Nat.le_refl _) _)))).mono ?_
  rintro e w1 ⟨rfl, rfl⟩
  go_wp2_with fail
  go_ret
  exact ⟨rfl, Below.alloc (Below.refl _ _) (Nat.le_refl _) _⟩
set_option maxRecDepth 100000 in
theorem append_nd (s : ByteArray) (v : Value) (h : Hid (ND p w)) : Calls Try.prog 29 #[p, .string s, v] w fun e w' => e = .returned (.int .i64 1) ∧ Below w.heap.size w w' := by
  go_enter Try.func29, Try.ntmps29
  go_wp2_with fail
  refine (looked_nd p _ _ _ (Lib.hid (h.out.far (Below.alloc (Below.refl _ _) (Nat.le_refl _) _)))).mono ?_
  rintro e w1 ⟨rfl, rfl⟩
  go_wp2_with fail
  go_ret
  exact ⟨rfl, Below.alloc (Below.refl _ _) (Nat.le_refl _) _⟩
set_option maxRecDepth 100000 in
theorem sync_nd (s : ByteArray) (h : Hid (ND p w)) : Calls Try.prog 30 #[p, .string s] w fun e w' => e = .returned (.int .i64 1) ∧ Below w.heap.size w w' := by
  go_enter Try.func30, Try.ntmps30
  go_wp2_with fail
  refine (looked_nd p _ _ _ (Lib.hid (h.out.far (Below.alloc (Below.refl _ _) (Nat.le_refl _) _)))).mono ?_
  rintro e w1 ⟨rfl, rfl⟩
  go_wp2_with fail
  go_ret
  exact ⟨rfl, Below.alloc (Below.refl _ _) (Nat.le_refl _) _⟩
set_option maxRecDepth 100000 in
theorem rename_nd (s : ByteArray) (t : ByteArray) (h : Hid (ND p w)) : Calls Try.prog 31 #[p, .string s, .string t] w fun e w' => e = .returned (.int .i64 1) ∧ Below w.heap.size w w' := by
  go_enter Try.func31, Try.ntmps31
  go_wp2_with fail
  refine (looked_nd p _ _ _ (Lib.hid (h.out.far (Below.alloc (Below.refl _ _) (Nat.le_refl _) _)))).mono ?_
  rintro e w1 ⟨rfl, rfl⟩
  go_wp2_with fail
  go_ret
  exact ⟨rfl, Below.alloc (Below.refl _ _) (Nat.le_refl _) _⟩
set_option maxRecDepth 100000 in
theorem remove_nd (s : ByteArray) (h : Hid (ND p w)) : Calls Try.prog 32 #[p, .string s] w fun e w' => e = .returned (.int .i64 1) ∧ Below w.heap.size w w' := by
  go_enter Try.func32, Try.ntmps32
  go_wp2_with fail
  refine (looked_nd p _ _ _ (Lib.hid (h.out.far (Below.alloc (Below.refl _ _) (Nat.le_refl _) _)))).mono ?_
  rintro e w1 ⟨rfl, rfl⟩
  go_wp2_with fail
  go_ret
  exact ⟨rfl, Below.alloc (Below.refl _ _) (Nat.le_refl _) _⟩
set_option maxRecDepth 100000 in
theorem spoil_nd (s : ByteArray) (b : Bool) (h : Hid (ND p w)) : Calls Try.prog 33 #[p, .string s, .bool b] w fun e w' => e = .returned (.int .i64 1) ∧ Below w.heap.size w w' := by
  go_enter Try.func33, Try.ntmps33
  go_wp2_with fail
  refine (looked_nd p _ _ _ (Lib.hid (h.out.far (Below.alloc (Below.refl _ _) (Nat.le_refl _) _)))).mono ?_
  rintro e w1 ⟨rfl, rfl⟩
  go_wp2_with fail
  go_ret
  exact ⟨rfl, Below.alloc (Below.refl _ _) (Nat.le_refl _) _⟩
set_option maxRecDepth 100000 in
theorem plan_nd (v : Value) (h : Hid (ND p w)) : Calls Try.prog 10 #[p, v] w fun e w' => e = .returned (.int .i64 1) ∧ w = w' := by
  go_enter Try.func10, Try.ntmps10
  go_wp2_with fail
  refine (h.out _ (Below.refl _ _)).mono ?_
  rintro e w1 ⟨rfl, rfl⟩
  go_wp2_with fail
  go_ret
  exact ⟨rfl, rfl⟩
set_option maxRecDepth 100000 in
theorem off_nd (h : Hid (ND p w)) : Calls Try.prog 13 #[p] w fun e w' => e = .returned (.tuple #[]) ∧ w = w' := by
  go_enter Try.func13, Try.ntmps13
  go_wp2_with fail
  refine (h.out _ (Below.refl _ _)).mono ?_
  rintro e w1 ⟨rfl, rfl⟩
  go_wp2_with fail
  go_end0
  exact ⟨rfl, rfl⟩
set_option maxRecDepth 100000 in
theorem start_nd (d : Int) (v : Value) (h : Hid (ND p w)) : Calls Try.prog 14 #[p, .int .i64 d, v] w fun e w' => e = .returned (.tuple #[]) ∧ w = w' := by
  go_enter Try.func14, Try.ntmps14
  go_wp2_with fail
  refine (h.out _ (Below.refl _ _)).mono ?_
  rintro e w1 ⟨rfl, rfl⟩
  go_wp2_with fail
  (try simp only [Exit.inBlock, Exit.then]); refine bodyPost_ret (results_none rfl _ _ _) rfl ?_
  exact ⟨rfl, rfl⟩
set_option maxRecDepth 100000 in
theorem pending_nd (h : Hid (ND p w)) : Calls Try.prog 21 #[p] w fun e w' => e = .returned (.int .i64 0) ∧ w = w' := by
  go_enter Try.func21, Try.ntmps21
  go_wp2_with fail
  refine (h.out _ (Below.refl _ _)).mono ?_
  rintro e w1 ⟨rfl, rfl⟩
  go_wp2_with fail
  go_ret
  exact ⟨rfl, rfl⟩
set_option maxRecDepth 100000 in
theorem done_nd (h : Hid (ND p w)) : Calls Try.prog 25 #[p] w fun e w' => e = .returned (.int .i64 0) ∧ w = w' := by
  go_enter Try.func25, Try.ntmps25
  go_wp2_with fail
  refine (h.out _ (Below.refl _ _)).mono ?_
  rintro e w1 ⟨rfl, rfl⟩
  go_wp2_with fail
  go_ret
  exact ⟨rfl, rfl⟩
set_option maxRecDepth 100000 in
theorem names_nd (h : Hid (ND p w)) : Calls Try.prog 17 #[p] w fun e w' => e = .returned (.slice none 0 0) ∧ w = w' := by
  go_enter Try.func17, Try.ntmps17
  go_wp2_with fail
  refine (power_nd p w h).mono ?_
  rintro e w1 ⟨rfl, rfl⟩
  go_wp2_with fail
  go_ret
  exact ⟨rfl, rfl⟩
set_option maxRecDepth 100000 in
theorem files_nd (h : Hid (ND p w)) : Calls Try.prog 24 #[p] w fun e w' => e = .returned (.slice none 0 0) ∧ w = w' := by
  go_enter Try.func24, Try.ntmps24
  go_wp2_with fail
  refine (names_nd p w h).mono ?_
  rintro e w1 ⟨rfl, rfl⟩
  go_wp2_with fail
  refine wp_loop_rounds 1 ?_
  rw [rounds_succ]
  go_wp2_with fail
  go_ret
  exact ⟨rfl, rfl⟩
set_option maxRecDepth 100000 in
theorem read_nd (s : ByteArray) (h : Hid (ND p w)) : Calls Try.prog 15 #[p, .string s] w fun e w' => e = .returned (.tuple #[.slice none 0 0, .int .i64 1]) ∧ Below w.heap.size w w' := by
  go_enter Try.func15, Try.ntmps15
  go_wp2_with fail
  refine (looked_nd p _ _ _ (Lib.hid (h.out.far (Below.alloc (Below.refl _ _) (Nat.le_refl _) _)))).mono ?_
  rintro e w1 ⟨rfl, rfl⟩
  go_wp2_with fail
  go_ret2
  exact ⟨rfl, Below.alloc (Below.refl _ _) (Nat.le_refl _) _⟩
end
end Go.Proofs.Ytignnohjggjkoaa
