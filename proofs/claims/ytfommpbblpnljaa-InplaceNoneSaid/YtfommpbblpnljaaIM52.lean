/- Texts that lead to the claim, one behind the other: InplaceNone: a disk that is none is not edited, and the run is not called. No conditions. -/
import Derived.Test.YtfommpbblpnljaaIM51
import Derived.Deep.LoopGhost
namespace Go.Proofs.Ytfommpbblpnljaa
open Go.RowKit Go.ChangeShapes Go.WideShapes Go.Deep

section
variable {w : World}
set_option maxRecDepth 100000 in
set_option maxHeartbeats 4000000 in
theorem inplaceNone_law (n : ByteArray) (_ : n.size ≤ 9223372036854775807) : Calls Try.prog 3 #[.string n] w fun e w' => e = .returned (.bool true) ∧ Below w.heap.size w w' := by
  have hmf : ∀ (fn : Fn) (first cap : Array Value) (w : World), (Instr.makeFunc fn first cap).run Try.prog w = .ok (.func fn first cap) w := fun _ _ _ _ => rfl
  go_enter Try.func3, Try.ntmps3
  go_wp2_with fail
  go_loopg [4] 2 (fun k iv wr => ∃ (i : Nat), i ≤ 2 ∧ iv = .int .i64 i ∧ k = 2 - i ∧ Hid (Below w.heap.size w wr))
  case atStart => exact ⟨0, Nat.zero_le _, rfl, rfl, Lib.hid (Below.refl _ _)⟩
  case round =>
    obtain ⟨i, hi, rfl, rfl, HB⟩ := hrel
    match i, hi with
    | 0, _ =>
      have c6 : (wr.alloc (.cells #[.int .i64 0] 3)).cell? ⟨wr.heap.size, 0, none⟩ = some (.int .i64 0) := (Boxed.new wr 3 (.int .i64 0)).cell
      have HE := Lib.hid (edit_nd none (Lib.hid (nd_nil (wr.alloc (.cells #[.int .i64 0] 3)))) n 7 #[.pointer (some ⟨wr.heap.size, 0, none⟩)])
      have HA : Hid (Below wr.heap.size wr (wr.alloc (.cells #[.int .i64 0] 3))) := Lib.hid (Below.alloc (Below.refl _ _) (Nat.le_refl _) _)
      go_wp2_with fail
      refine HE.out.mono ?_
      rintro e w1 ⟨rfl, h1⟩
      have c7 := (h1.cell (p := ⟨wr.heap.size, 0, none⟩) (by simp)).trans c6
      have HB1 := Lib.hid (HB.out.trans ((HA.out.trans (h1.mono HA.out.size)).mono HB.out.size))
      clear h1 c6 HE HA HB
      go_wp2_with fail
      go_roundg 1
      · exact ⟨1, by omega, by first | rfl | go_num, rfl, HB1⟩
      · omega
    | 1, _ =>
      obtain ⟨wa, hwa⟩ : ∃ W, W = wr.alloc (.cells #[.map none, .map none, .slice none 0 0, .bool false, .bool false, .int .i64 0, .slice none 0 0, .int .i64 0, .int .i64 0] 29) := ⟨_, rfl⟩
      have hwz : wa.heap[wr.heap.size]? = some (.cells #[.map none, .map none, .slice none 0 0, .bool false, .bool false, .int .i64 0, .slice none 0 0, .int .i64 0, .int .i64 0] 29 (0, 0)) := by rw [hwa]; exact World.alloc_heap_new wr _
      have hsz : wa.heap.size = wr.heap.size + 1 := by rw [hwa]; simp
      have hba : Below wr.heap.size wr wa := by rw [hwa]; exact Below.alloc (Below.refl _ _) (Nat.le_refl _) _
      have c6 : (wa.alloc (.cells #[.int .i64 0] 3)).cell? ⟨wr.heap.size + 1, 0, none⟩ = some (.int .i64 0) := by rw [← hsz]; exact (Boxed.new wa 3 (.int .i64 0)).cell
      have HE := Lib.hid (edit_nd (some ⟨wr.heap.size, 0, none⟩) (Lib.hid ((nd_zero wa wr.heap.size hwz).far (Below.alloc (Below.refl _ _) (Nat.le_refl _) (.cells #[.int .i64 0] 3)))) n 7 #[.pointer (some ⟨wr.heap.size + 1, 0, none⟩)])
      have HA : Hid (Below wr.heap.size wr (wa.alloc (.cells #[.int .i64 0] 3))) := Lib.hid (Below.alloc hba hba.size _)
      have HSZ := Lib.hid hsz
      have HWA := Lib.hid hwa
      clear hwz hsz hba hwa
      go_wp2_with fail
      rw [← HWA.out]
      refine HE.out.mono ?_
      rintro e w1 ⟨rfl, h1⟩
      have c7 := (h1.cell (p := ⟨wr.heap.size + 1, 0, none⟩) (by simp [HSZ.out])).trans c6
      have HB1 := Lib.hid (HB.out.trans ((HA.out.trans (h1.mono HA.out.size)).mono HB.out.size))
      clear h1 c6 HE HA HB
      go_wp2_with fail
      go_roundg 0
      · exact ⟨2, by omega, by first | rfl | go_num, rfl, HB1⟩
      · omega
    | 2, _ =>
      have HL := Lib.hid (editLives_any (w := wr))
      go_wp2_with fail
      refine HL.out.mono ?_
      rintro e w1 ⟨rfl, h1⟩
      have HB1 := Lib.hid (HB.out.trans (h1.mono HB.out.size))
      clear h1
      go_wp2_with fail
      go_ret
      exact ⟨rfl, HB1.out⟩
end
end Go.Proofs.Ytfommpbblpnljaa
