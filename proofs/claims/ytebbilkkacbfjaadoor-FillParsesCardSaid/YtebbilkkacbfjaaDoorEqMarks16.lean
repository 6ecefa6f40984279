/- Two lists of marks that are the same: the walk of galleyref00.EqMarks (16's marks); and of marks with spare room. No conditions. -/
import Derived.Test.YtebbilkkacbfjaaDoorPieces
import Derived.Test.YtebbilkkacbfjaaDoorEqBytes
import Derived.Test.YtebbilkkacbfjaaDoorPrint
import Derived.Deep.LoopGhost
import Derived.Laws.StructEq
import Derived.WalkLawsBesides
import Derived.ChangeKeysEq
namespace Go.Proofs.YtebbilkkacbfjaaDoor
open Go.RowKit

theorem run_neq_mark (a : Mark) (w : World) : (binOp .neq 34 (.agg #[.int .u8 a.byte.toNat, .bool a.plain]) (.agg #[.int .u8 a.byte.toNat, .bool a.plain])).run Tryd.prog w = .ok (.bool false) w := by
  have hu : Tryd.prog.underlying 34 = some (.struct (Tryd.prog.fieldsOf 34)) := by kernel_rfl
  have hp : Tryd.prog.stoodInHeld 34 = false := by kernel_rfl
  have hf : (Tryd.prog.fieldsOf 34).toList.map (fun f => (f.name == "_", f.type, f.offset)) = [(false, 5, 0), (false, 4, 1)] := by kernel_rfl
  have k4 : Tryd.prog.underlying 4 = some .bool := by kernel_rfl
  have k9 : Tryd.prog.underlying 5 = some (.int .u8) := by kernel_rfl
  have q0 : ∀ x : Mark, (part 5 #[.int .u8 x.byte.toNat, .bool x.plain] 0).run Tryd.prog w = .ok (.int .u8 x.byte.toNat) w := fun _ => by kernel_rfl
  have q1 : ∀ x : Mark, (part 4 #[.int .u8 x.byte.toNat, .bool x.plain] 1).run Tryd.prog w = .ok (.bool x.plain) w := fun _ => by kernel_rfl
  rw [run_neq_struct, show (10000 : Nat) = 9998 + 1 + 1 from rfl, run_equalIn_struct w (9998 + 1) _ _ _ hu hp]
  generalize (Tryd.prog.fieldsOf 34).toList = fs at hf
  have hl : fs.length = 2 := by simpa using congrArg List.length hf
  rcases fs with _ | ⟨f0, _ | ⟨f1, _ | ⟨f2, fs⟩⟩⟩ <;> simp only [List.length_nil, List.length_cons] at hl <;> try omega
  simp only [List.map_cons, List.map_nil, List.cons.injEq, Prod.mk.injEq, and_true, beq_eq_false_iff_ne] at hf
  obtain ⟨⟨n0, t0, o0⟩, n1, t1, o1⟩ := hf
  simp only [Op.eqFields, n0, n1, t0, t1, o0, o1, ne_eq, not_false_eq_true, if_true, Sem.run_bind, q0, q1, Result.andThen_ok, run_equalIn_bool' w 9998 4 _ _ k4, run_equalIn_int w 9998 5 .u8 .u8 _ _ k9, Sem.run_ite, Sem.run_pure]
  simp
set_option maxHeartbeats 1000000 in
theorem eqMarks16 (A B : Option Addr) (n m c d : Nat) (l : List Mark) (w : World) (S S' : Blocks) (hn : Hid (n = l.length)) (hm : Hid (m = l.length)) (hx : Hid (SliceAt Rep.mark w S A c l)) (hy : Hid (SliceAt Rep.mark w S' B d l)) :
    Calls Tryd.prog 11 #[.slice A n c, .slice B m d] w fun e w' => e = .returned (.bool true) ∧ ∃ q, w' = w.drewN q := by
  obtain rfl : m = n := hm.out.trans hn.out.symm
  have hnc : m ≤ c := by rw [hn.out]; exact hx.out.len
  have hnd : m ≤ d := by rw [hn.out]; exact hy.out.len
  have hcm := hx.out.max
  have hdm := hy.out.max
  go_enter Tryd.func11, Tryd.ntmps11
  go_wp2_with fail
  go_loopg [5] m (fun k iv wr => ∃ i nd : Nat, i ≤ m ∧ iv = .int .i64 i ∧ k = m - i ∧ wr = w.drewN nd)
  case atStart => exact ⟨0, 0, Nat.zero_le _, rfl, rfl, rfl⟩
  case round =>
    obtain ⟨i, nd, hi, rfl, rfl, rfl⟩ := hrel
    rcases Nat.lt_or_ge i m with hlt | hge
    · have hil : i < l.length := by rw [← hn.out]; exact hlt
      obtain ⟨g, o, rfl, k0, k1⟩ := mark_at hx.out (Same.refl _ _) hil
      obtain ⟨g', o', rfl, k2, k3⟩ := mark_at hy.out (Same.refl _ _) hil
      obtain ⟨x, hx'⟩ : ∃ x, x = l[i] := ⟨_, rfl⟩
      rw [← hx'] at k0 k1 k2 k3
      have hneq := run_neq_mark x
      clear hx'
      go_wp2_with fail
      go_quiet (fail)
      go_wp2_with fail
      go_roundg (m - (i + 1))
      case measure => omega
      case rel => exact ⟨i + 1, nd + nq, by omega, by go_num, rfl, rfl⟩
    · obtain rfl : i = m := by omega
      go_wp2_with fail
      go_ret
      exact ⟨rfl, _, rfl⟩
end Go.Proofs.YtebbilkkacbfjaaDoor
