/- Texts that lead to the claim, one behind the other: Disks that are none: what Read answers there. No conditions. | Disks that are none: Power, SyncDir, Names. No conditions. | Clean and Stale of no disk: the walks. No conditions. -/
import Derived.Test.YtncpeogkccjmcaaGreatDoorTK0
import Derived.Test.YtncpeogkccjmcaaGreatDoorTK2
import Derived.Test.YtncpeogkccjmcaaGreatDoorProg
import Derived.WalkKit
import Derived.WalkSpells
import Derived.WalkMore
import Derived.Test.YtncpeogkccjmcaaGreatDoorTK30
namespace Go.Proofs.YtncpeogkccjmcaaGreatDoor
open Go.RowKit Go.ChangeShapes Go.WideShapes Go.Deep

/-- A disk that is none: 'ours' says so, here and later. -/
def ND (p : Value) (w : World) : Prop := ∀ W, Below w.heap.size w W → Calls Tryz.prog 84 #[p] W fun e w' => e = .returned (.bool false) ∧ W = w'
theorem ND.far {p : Value} {w w' : World} (h : ND p w) (hb : Below w.heap.size w w') : ND p w' := fun W hW => h W (hb.trans (hW.mono hb.size))
theorem nd_nil (w : World) : ND (.pointer none) w := by
  intro W hW
  go_enter Tryz.func84, Tryz.ntmps84
  go_wp2
  go_ret
  exact ⟨rfl, rfl⟩
theorem nd_zero (w : World) (g : Nat) (hg : w.heap[g]? = some (.cells #[.map none, .map none, .slice none 0 0, .bool false, .bool false, .int .i64 0, .slice none 0 0, .int .i64 0, .int .i64 0] 40)) : ND (.pointer (some ⟨g, 0, none⟩)) w := by
  intro W hW
  have hgl : g < w.heap.size := (Array.getElem?_eq_some_iff.1 hg).1
  have h2 : W.cell? ⟨g, 3, none⟩ = some (.bool false) := (hW.cell (p := ⟨g, 3, none⟩) hgl).trans (cell_of_row w _ 3 _ _ (0, 0) hg)
  go_enter Tryz.func84, Tryz.ntmps84
  go_wp2
  go_ret
  exact ⟨rfl, rfl⟩
section
variable (p : Value) (w : World)
set_option maxRecDepth 100000 in
theorem looked_nd (s v : Value) (h : Hid (ND p w)) : Calls Tryz.prog 85 #[p, s, v] w fun e w' => e = .returned (.tuple #[.pointer none, .int .i64 1]) ∧ w = w' := by
  go_enter Tryz.func85, Tryz.ntmps85
  go_wp2_with fail
  refine (h.out _ (Below.refl _ _)).mono ?_
  rintro e w1 ⟨rfl, rfl⟩
  go_wp2_with fail
  go_ret2
  exact ⟨rfl, rfl⟩
end
end Go.Proofs.YtncpeogkccjmcaaGreatDoor
namespace Go.Proofs.YtncpeogkccjmcaaGreatDoor
open Go.RowKit Go.ChangeShapes Go.WideShapes Go.Deep

section
variable (p : Value) (w : World)
set_option maxRecDepth 100000 in
theorem power_nd (h : Hid (ND p w)) : Calls Tryz.prog 27 #[p] w fun e w' => e = .returned (.bool false) ∧ w = w' := by
  go_enter Tryz.func27, Tryz.ntmps27
  go_wp2_with fail
  refine (h.out _ (Below.refl _ _)).mono ?_
  rintro e w1 ⟨rfl, rfl⟩
  go_wp2_with fail
  go_ret
  exact ⟨rfl, rfl⟩
set_option maxRecDepth 100000 in
theorem syncDir_nd (h : Hid (ND p w)) : Calls Tryz.prog 28 #[p] w fun e w' => e = .returned (.int .i64 1) ∧ w = w' := by
  go_enter Tryz.func28, Tryz.ntmps28
  go_wp2_with fail
  refine (looked_nd p w _ _ h).mono ?_
  rintro e w1 ⟨rfl, rfl⟩
  go_wp2_with fail
  go_ret
  exact ⟨rfl, rfl⟩
set_option maxRecDepth 100000 in
theorem names_nd (h : Hid (ND p w)) : Calls Tryz.prog 33 #[p] w fun e w' => e = .returned (.slice none 0 0) ∧ w = w' := by
  go_enter Tryz.func33, Tryz.ntmps33
  go_wp2_with fail
  refine (power_nd p w h).mono ?_
  rintro e w1 ⟨rfl, rfl⟩
  go_wp2_with fail
  go_ret
  exact ⟨rfl, rfl⟩
end
end Go.Proofs.YtncpeogkccjmcaaGreatDoor
namespace Go.Proofs.YtncpeogkccjmcaaGreatDoor
open Go.RowKit Go.ChangeShapes Go.WideShapes Go.Deep

section
variable {w : World}
theorem stale_nd (p : Option Addr) (h : Hid (ND (.pointer p) w)) : Calls Tryz.prog 9 #[.pointer p] w (StrsPost w []) :=
  stale_anyG p [] (Lib.hid fun W hW => (names_nd (.pointer p) W (Lib.hid (h.out.far hW))).mono fun e w' hh => by
    obtain ⟨rfl, rfl⟩ := hh
    exact ⟨none, 0, 0, rfl, Lib.hid rfl, Nat.le_refl _, by omega, Own.nil _ _ _ _, Below.refl _ _⟩) [] rfl (by simp)
set_option maxRecDepth 100000 in
set_option maxHeartbeats 4000000 in
theorem clean_nd (p : Option Addr) (h : Hid (ND (.pointer p) w)) : Calls Tryz.prog 8 #[.pointer p] w fun e w' => e = .returned (.int .i64 1) ∧ Below w.heap.size w w' := by
  obtain ⟨W, hW⟩ : ∃ W, W = (w.alloc (.cells #[.pointer p] 25)).alloc (.cells #[.int .i64 0] 26) := ⟨_, rfl⟩
  have hbW : Below w.heap.size w W := by rw [hW]; exact Below.alloc (Below.alloc (Below.refl _ _) (Nat.le_refl _) _) (by simp) _
  have b1 : Boxed W w.heap.size 25 (.pointer p) := by rw [hW]; exact (Boxed.new w _ _).alloc _
  have b2 : Boxed W (w.heap.size + 1) 26 (.int .i64 0) := by
    rw [hW]
    have := Boxed.new (w.alloc (.cells #[.pointer p] 25)) 26 (.int .i64 0)
    rwa [World.size_alloc] at this
  have HP2 := Lib.hid (power_nd (.pointer p) W (Lib.hid (h.out.far hbW)))
  have HSD := Lib.hid (syncDir_nd (.pointer p) W (Lib.hid (h.out.far hbW)))
  have HB2 := Lib.hid b2
  have HBW := Lib.hid hbW
  have c1 := b1.cell
  have c2 : W.cell? ⟨w.heap.size + 1, 0, none⟩ = some (.int .i64 0) := b2.cell
  have f2 : W.frozen? ⟨w.heap.size + 1, 0, none⟩ = false := b2.frozen
  clear b1 b2 hbW
  refine (callsIn_wide (n := 5)).1 ?_
  refine callsIn_of_wp_marks Tryz.func8 rfl trivial ?_ rfl
  simp only [Tryz.ntmps8, List.size_toArray, List.length_cons, List.length_nil, Nat.reduceAdd, Nat.reduceSub, Array.replicate_succ, Array.replicate_zero, List.push_toArray, List.append_toArray, List.nil_append, List.cons_append]
  gi_wp2_with fail
  rw [← hW]
  clear hW
  gi_wp2_with (first
    | (refine ⟨trivial, ?_⟩; gi_at_call 27; refine (callsIn_wide.2 HP2.out).mono ?_; rintro e w' ⟨rfl, rfl⟩)
    | (refine ⟨trivial, ?_⟩; gi_at_call 28; refine (callsIn_wide.2 HSD.out).mono ?_; rintro e w9 ⟨rfl, rfl⟩))
  refine ⟨_, errno_result rfl (w.heap.size + 1) _ (.int .i64 1) rfl ?_, ?_⟩
  · exact Boxed.cell (t := 26) (HB2.out.set _)
  · exact ⟨rfl, HBW.out.trans ((Only.setCell (Only.refl (fun b => b = w.heap.size + 1) W) (.inl rfl) _).below HBW.out.size fun b hb => by subst hb; omega)⟩
end
end Go.Proofs.YtncpeogkccjmcaaGreatDoor
