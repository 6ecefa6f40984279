/- Texts that lead to the claim, one behind the other: A node's own fields: the walk of syntax.shaped. Condition: the node's numbers are Go's. Printed by gen/synone.py. -/
import Derived.Test.YtnpideapdjomgaaDoorProg
import Derived.Test.YtnpideapdjomgaaDoorRA4
import Derived.WalkKit
import Derived.WalkSpells
import Derived.Deep.QuietTactic
import Derived.BigQuiet
import Derived.Lib.Hide
namespace Go.Proofs.YtnpideapdjomgaaDoor
open Go.RowKit

theorem run_neq_ndz (w : World) (n mn mx c0 c1 c2 c3 : Int) : (binOp .neq 66 (.agg #[.int .i8 0, .int .u64 c0, .int .u64 c1, .int .u64 c2, .int .u64 c3, .int .i64 n, .int .i64 mn, .int .i64 mx, .int .i64 0]) (.agg #[.int .i8 0, .int .u64 0, .int .u64 0, .int .u64 0, .int .u64 0, .int .i64 0, .int .i64 0, .int .i64 0, .int .i64 0])).run Tryd.prog w
    = .ok (.bool (!(((c0 == 0) && (c1 == 0) && (c2 == 0) && (c3 == 0)) && (n == 0) && (mn == 0) && (mx == 0)))) w := by
  have := run_neq_nd ⟨0, c0, c1, c2, c3, n, mn, mx, 0⟩ ⟨0, 0, 0, 0, 0, 0, 0, 0, 0⟩ w
  simp only [ncells, Nd.eqB] at this
  rw [this]
  simp

set_option maxRecDepth 100000 in
set_option maxHeartbeats 4000000 in
theorem synOne_1 (c0 c1 c2 c3 n mn mx kids : Int) (w : World) :
    Calls Tryd.prog 59 #[.agg #[.int .i8 1, .int .u64 c0, .int .u64 c1, .int .u64 c2, .int .u64 c3, .int .i64 n, .int .i64 mn, .int .i64 mx, .int .i64 kids]] w fun e w' => e = .returned (.bool (Syn.okN ⟨1, c0, c1, c2, c3, n, mn, mx, kids⟩)) ∧ Below w.heap.size w w' := by
  obtain ⟨b, hb⟩ : ∃ b, ((n == 0) && (mn == 0) && (mx == 0)) = b := ⟨_, rfl⟩
  have hz' : ∀ w, (binOp .neq 66 (.agg #[.int .i8 0, .int .u64 0, .int .u64 0, .int .u64 0, .int .u64 0, .int .i64 n, .int .i64 mn, .int .i64 mx, .int .i64 0]) (.agg #[.int .i8 0, .int .u64 0, .int .u64 0, .int .u64 0, .int .u64 0, .int .i64 0, .int .i64 0, .int .i64 0, .int .i64 0])).run Tryd.prog w = .ok (.bool (!b)) w := by
    intro w; rw [run_neq_ndz, ← hb]; try simp
  have HB : Hid (b = ((n == 0) && (mn == 0) && (mx == 0))) := Lib.hid hb.symm
  clear hb
  · skip
    all_goals (go_enter Tryd.func59, Tryd.ntmps59; cases b)
    all_goals (go_wp2; try go_ret)
    all_goals (refine ⟨?_, (by repeat' (first | exact Below.refl _ _ | refine Below.drew ?_ | refine Below.alloc ?_ (by simp) _ | refine Below.setCell ?_ (by simp) _))⟩)
    all_goals (have hb := HB.out; simp only [Ending.returned.injEq, Syn.okN, Syn.fields, Syn.count, Syn.set0, Syn.reps]; first | (simp at hb; done) | (try simp at hb; simp_all))

set_option maxRecDepth 100000 in
set_option maxHeartbeats 4000000 in
theorem synOne_2 (c0 c1 c2 c3 n mn mx kids : Int) (w : World) :
    Calls Tryd.prog 59 #[.agg #[.int .i8 2, .int .u64 c0, .int .u64 c1, .int .u64 c2, .int .u64 c3, .int .i64 n, .int .i64 mn, .int .i64 mx, .int .i64 kids]] w fun e w' => e = .returned (.bool (Syn.okN ⟨2, c0, c1, c2, c3, n, mn, mx, kids⟩)) ∧ Below w.heap.size w w' := by
  obtain ⟨b, hb⟩ : ∃ b, (((c0 == 0) && (c1 == 0) && (c2 == 0) && (c3 == 0)) && (n == 0) && (mn == 0) && (mx == 0)) = b := ⟨_, rfl⟩
  have hz' : ∀ w, (binOp .neq 66 (.agg #[.int .i8 0, .int .u64 c0, .int .u64 c1, .int .u64 c2, .int .u64 c3, .int .i64 n, .int .i64 mn, .int .i64 mx, .int .i64 0]) (.agg #[.int .i8 0, .int .u64 0, .int .u64 0, .int .u64 0, .int .u64 0, .int .i64 0, .int .i64 0, .int .i64 0, .int .i64 0])).run Tryd.prog w = .ok (.bool (!b)) w := by
    intro w; rw [run_neq_ndz, ← hb]; try simp
  have HB : Hid (b = (((c0 == 0) && (c1 == 0) && (c2 == 0) && (c3 == 0)) && (n == 0) && (mn == 0) && (mx == 0))) := Lib.hid hb.symm
  clear hb
  · skip
    all_goals (go_enter Tryd.func59, Tryd.ntmps59; cases b)
    all_goals (go_wp2; try go_ret)
    all_goals (refine ⟨?_, (by repeat' (first | exact Below.refl _ _ | refine Below.drew ?_ | refine Below.alloc ?_ (by simp) _ | refine Below.setCell ?_ (by simp) _))⟩)
    all_goals (have hb := HB.out; simp only [Ending.returned.injEq, Syn.okN, Syn.fields, Syn.count, Syn.set0, Syn.reps]; first | (simp at hb; done) | (try simp at hb; simp_all))

set_option maxRecDepth 100000 in
set_option maxHeartbeats 4000000 in
theorem synOne_3 (c0 c1 c2 c3 n mn mx kids : Int) (w : World) :
    Calls Tryd.prog 59 #[.agg #[.int .i8 3, .int .u64 c0, .int .u64 c1, .int .u64 c2, .int .u64 c3, .int .i64 n, .int .i64 mn, .int .i64 mx, .int .i64 kids]] w fun e w' => e = .returned (.bool (Syn.okN ⟨3, c0, c1, c2, c3, n, mn, mx, kids⟩)) ∧ Below w.heap.size w w' := by
  obtain ⟨b, hb⟩ : ∃ b, (((c0 == 0) && (c1 == 0) && (c2 == 0) && (c3 == 0)) && (n == 0) && (mn == 0) && (mx == 0)) = b := ⟨_, rfl⟩
  have hz' : ∀ w, (binOp .neq 66 (.agg #[.int .i8 0, .int .u64 c0, .int .u64 c1, .int .u64 c2, .int .u64 c3, .int .i64 n, .int .i64 mn, .int .i64 mx, .int .i64 0]) (.agg #[.int .i8 0, .int .u64 0, .int .u64 0, .int .u64 0, .int .u64 0, .int .i64 0, .int .i64 0, .int .i64 0, .int .i64 0])).run Tryd.prog w = .ok (.bool (!b)) w := by
    intro w; rw [run_neq_ndz, ← hb]; try simp
  have HB : Hid (b = (((c0 == 0) && (c1 == 0) && (c2 == 0) && (c3 == 0)) && (n == 0) && (mn == 0) && (mx == 0))) := Lib.hid hb.symm
  clear hb
  · skip
    all_goals (go_enter Tryd.func59, Tryd.ntmps59; cases b)
    all_goals (go_wp2; try go_ret)
    all_goals (refine ⟨?_, (by repeat' (first | exact Below.refl _ _ | refine Below.drew ?_ | refine Below.alloc ?_ (by simp) _ | refine Below.setCell ?_ (by simp) _))⟩)
    all_goals (have hb := HB.out; simp only [Ending.returned.injEq, Syn.okN, Syn.fields, Syn.count, Syn.set0, Syn.reps]; first | (simp at hb; done) | (try simp at hb; simp_all))

set_option maxRecDepth 100000 in
set_option maxHeartbeats 4000000 in
theorem synOne_4 (c0 c1 c2 c3 n mn mx kids : Int) (w : World) :
    Calls Tryd.prog 59 #[.agg #[.int .i8 4, .int .u64 c0, .int .u64 c1, .int .u64 c2, .int .u64 c3, .int .i64 n, .int .i64 mn, .int .i64 mx, .int .i64 kids]] w fun e w' => e = .returned (.bool (Syn.okN ⟨4, c0, c1, c2, c3, n, mn, mx, kids⟩)) ∧ Below w.heap.size w w' := by
  obtain ⟨b, hb⟩ : ∃ b, (((c0 == 0) && (c1 == 0) && (c2 == 0) && (c3 == 0)) && (n == 0) && (mn == 0) && (mx == 0)) = b := ⟨_, rfl⟩
  have hz' : ∀ w, (binOp .neq 66 (.agg #[.int .i8 0, .int .u64 c0, .int .u64 c1, .int .u64 c2, .int .u64 c3, .int .i64 n, .int .i64 mn, .int .i64 mx, .int .i64 0]) (.agg #[.int .i8 0, .int .u64 0, .int .u64 0, .int .u64 0, .int .u64 0, .int .i64 0, .int .i64 0, .int .i64 0, .int .i64 0])).run Tryd.prog w = .ok (.bool (!b)) w := by
    intro w; rw [run_neq_ndz, ← hb]; try simp
  have HB : Hid (b = (((c0 == 0) && (c1 == 0) && (c2 == 0) && (c3 == 0)) && (n == 0) && (mn == 0) && (mx == 0))) := Lib.hid hb.symm
  clear hb
  by_cases hk : kids = 0
  · subst hk
    all_goals (go_enter Tryd.func59, Tryd.ntmps59; cases b)
    all_goals (go_wp2; try go_ret)
    all_goals (refine ⟨?_, (by repeat' (first | exact Below.refl _ _ | refine Below.drew ?_ | refine Below.alloc ?_ (by simp) _ | refine Below.setCell ?_ (by simp) _))⟩)
    all_goals (have hb := HB.out; simp only [Ending.returned.injEq, Syn.okN, Syn.fields, Syn.count, Syn.set0, Syn.reps]; first | (simp at hb; done) | (try simp at hb; simp_all))
  · have hk0 : (kids == 0) = false := by simpa using hk
    all_goals (go_enter Tryd.func59, Tryd.ntmps59; cases b)
    all_goals (go_wp2; try go_ret)
    all_goals (refine ⟨?_, (by repeat' (first | exact Below.refl _ _ | refine Below.drew ?_ | refine Below.alloc ?_ (by simp) _ | refine Below.setCell ?_ (by simp) _))⟩)
    all_goals (have hb := HB.out; simp only [Ending.returned.injEq, Syn.okN, Syn.fields, Syn.count, Syn.set0, Syn.reps]; first | (simp at hb; done) | (try simp at hb; simp_all))

set_option maxRecDepth 100000 in
set_option maxHeartbeats 4000000 in
theorem synOne_5 (c0 c1 c2 c3 n mn mx kids : Int) (w : World) :
    Calls Tryd.prog 59 #[.agg #[.int .i8 5, .int .u64 c0, .int .u64 c1, .int .u64 c2, .int .u64 c3, .int .i64 n, .int .i64 mn, .int .i64 mx, .int .i64 kids]] w fun e w' => e = .returned (.bool (Syn.okN ⟨5, c0, c1, c2, c3, n, mn, mx, kids⟩)) ∧ Below w.heap.size w w' := by
  obtain ⟨b, hb⟩ : ∃ b, (((c0 == 0) && (c1 == 0) && (c2 == 0) && (c3 == 0)) && (n == 0) && (mn == 0) && (mx == 0)) = b := ⟨_, rfl⟩
  have hz' : ∀ w, (binOp .neq 66 (.agg #[.int .i8 0, .int .u64 c0, .int .u64 c1, .int .u64 c2, .int .u64 c3, .int .i64 n, .int .i64 mn, .int .i64 mx, .int .i64 0]) (.agg #[.int .i8 0, .int .u64 0, .int .u64 0, .int .u64 0, .int .u64 0, .int .i64 0, .int .i64 0, .int .i64 0, .int .i64 0])).run Tryd.prog w = .ok (.bool (!b)) w := by
    intro w; rw [run_neq_ndz, ← hb]; try simp
  have HB : Hid (b = (((c0 == 0) && (c1 == 0) && (c2 == 0) && (c3 == 0)) && (n == 0) && (mn == 0) && (mx == 0))) := Lib.hid hb.symm
  clear hb
  · skip
    all_goals (go_enter Tryd.func59, Tryd.ntmps59; cases b)
    all_goals (go_wp2; try go_ret)
    all_goals (refine ⟨?_, (by repeat' (first | exact Below.refl _ _ | refine Below.drew ?_ | refine Below.alloc ?_ (by simp) _ | refine Below.setCell ?_ (by simp) _))⟩)
    all_goals (have hb := HB.out; simp only [Ending.returned.injEq, Syn.okN, Syn.fields, Syn.count, Syn.set0, Syn.reps]; first | (simp at hb; done) | (try simp at hb; simp_all))

set_option maxRecDepth 100000 in
set_option maxHeartbeats 4000000 in
theorem synOne_7 (c0 c1 c2 c3 n mn mx kids : Int) (w : World) :
    Calls Tryd.prog 59 #[.agg #[.int .i8 7, .int .u64 c0, .int .u64 c1, .int .u64 c2, .int .u64 c3, .int .i64 n, .int .i64 mn, .int .i64 mx, .int .i64 kids]] w fun e w' => e = .returned (.bool (Syn.okN ⟨7, c0, c1, c2, c3, n, mn, mx, kids⟩)) ∧ Below w.heap.size w w' := by
  obtain ⟨b, hb⟩ : ∃ b, (((c0 == 0) && (c1 == 0) && (c2 == 0) && (c3 == 0)) && (mn == 0) && (mx == 0)) = b := ⟨_, rfl⟩
  have hz' : ∀ w, (binOp .neq 66 (.agg #[.int .i8 0, .int .u64 c0, .int .u64 c1, .int .u64 c2, .int .u64 c3, .int .i64 0, .int .i64 mn, .int .i64 mx, .int .i64 0]) (.agg #[.int .i8 0, .int .u64 0, .int .u64 0, .int .u64 0, .int .u64 0, .int .i64 0, .int .i64 0, .int .i64 0, .int .i64 0])).run Tryd.prog w = .ok (.bool (!b)) w := by
    intro w; rw [run_neq_ndz, ← hb]; try simp
  have HB : Hid (b = (((c0 == 0) && (c1 == 0) && (c2 == 0) && (c3 == 0)) && (mn == 0) && (mx == 0))) := Lib.hid hb.symm
  clear hb
  · skip
    all_goals (go_enter Tryd.func59, Tryd.ntmps59; cases b)
    all_goals (go_wp2; try go_ret)
    all_goals (refine ⟨?_, (by repeat' (first | exact Below.refl _ _ | refine Below.drew ?_ | refine Below.alloc ?_ (by simp) _ | refine Below.setCell ?_ (by simp) _))⟩)
    all_goals (have hb := HB.out; simp only [Ending.returned.injEq, Syn.okN, Syn.fields, Syn.count, Syn.set0, Syn.reps]; first | (simp at hb; done) | (try simp at hb; simp_all))

set_option maxRecDepth 100000 in
set_option maxHeartbeats 4000000 in
theorem synOne_8 (c0 c1 c2 c3 n mn mx kids : Int) (w : World) :
    Calls Tryd.prog 59 #[.agg #[.int .i8 8, .int .u64 c0, .int .u64 c1, .int .u64 c2, .int .u64 c3, .int .i64 n, .int .i64 mn, .int .i64 mx, .int .i64 kids]] w fun e w' => e = .returned (.bool (Syn.okN ⟨8, c0, c1, c2, c3, n, mn, mx, kids⟩)) ∧ Below w.heap.size w w' := by
  obtain ⟨b, hb⟩ : ∃ b, (((c0 == 0) && (c1 == 0) && (c2 == 0) && (c3 == 0)) && (mn == 0) && (mx == 0)) = b := ⟨_, rfl⟩
  have hz' : ∀ w, (binOp .neq 66 (.agg #[.int .i8 0, .int .u64 c0, .int .u64 c1, .int .u64 c2, .int .u64 c3, .int .i64 0, .int .i64 mn, .int .i64 mx, .int .i64 0]) (.agg #[.int .i8 0, .int .u64 0, .int .u64 0, .int .u64 0, .int .u64 0, .int .i64 0, .int .i64 0, .int .i64 0, .int .i64 0])).run Tryd.prog w = .ok (.bool (!b)) w := by
    intro w; rw [run_neq_ndz, ← hb]; try simp
  have HB : Hid (b = (((c0 == 0) && (c1 == 0) && (c2 == 0) && (c3 == 0)) && (mn == 0) && (mx == 0))) := Lib.hid hb.symm
  clear hb
  · skip
    all_goals (go_enter Tryd.func59, Tryd.ntmps59; cases b)
    all_goals (go_wp2; try go_ret)
    all_goals (refine ⟨?_, (by repeat' (first | exact Below.refl _ _ | refine Below.drew ?_ | refine Below.alloc ?_ (by simp) _ | refine Below.setCell ?_ (by simp) _))⟩)
    all_goals (have hb := HB.out; simp only [Ending.returned.injEq, Syn.okN, Syn.fields, Syn.count, Syn.set0, Syn.reps]; first | (simp at hb; done) | (try simp at hb; simp_all))

set_option maxRecDepth 100000 in
set_option maxHeartbeats 4000000 in
theorem synOne_6 (c0 c1 c2 c3 n mn mx kids : Int) (w : World) :
    Calls Tryd.prog 59 #[.agg #[.int .i8 6, .int .u64 c0, .int .u64 c1, .int .u64 c2, .int .u64 c3, .int .i64 n, .int .i64 mn, .int .i64 mx, .int .i64 kids]] w fun e w' => e = .returned (.bool (Syn.okN ⟨6, c0, c1, c2, c3, n, mn, mx, kids⟩)) ∧ Below w.heap.size w w' := by
  obtain ⟨b, hb⟩ : ∃ b, (((c0 == 0) && (c1 == 0) && (c2 == 0) && (c3 == 0)) && (n == 0)) = b := ⟨_, rfl⟩
  have hz' : ∀ w, (binOp .neq 66 (.agg #[.int .i8 0, .int .u64 c0, .int .u64 c1, .int .u64 c2, .int .u64 c3, .int .i64 n, .int .i64 0, .int .i64 0, .int .i64 0]) (.agg #[.int .i8 0, .int .u64 0, .int .u64 0, .int .u64 0, .int .u64 0, .int .i64 0, .int .i64 0, .int .i64 0, .int .i64 0])).run Tryd.prog w = .ok (.bool (!b)) w := by
    intro w; rw [run_neq_ndz, ← hb]; try simp
  have HB : Hid (b = (((c0 == 0) && (c1 == 0) && (c2 == 0) && (c3 == 0)) && (n == 0))) := Lib.hid hb.symm
  clear hb
  by_cases h1 : mn < 0
  · have e1 : decide (0 ≤ mn) = false := by simpa using h1
    all_goals (go_enter Tryd.func59, Tryd.ntmps59; cases b)
    all_goals (go_wp2; try go_ret)
    all_goals (refine ⟨?_, (by repeat' (first | exact Below.refl _ _ | refine Below.drew ?_ | refine Below.alloc ?_ (by simp) _ | refine Below.setCell ?_ (by simp) _))⟩)
    all_goals (have hb := HB.out; simp only [Ending.returned.injEq, Syn.okN, Syn.fields, Syn.count, Syn.set0, Syn.reps]; first | (simp at hb; done) | (try simp at hb; simp_all; try omega))
  by_cases h2 : 255 < mn
  · have e1 : decide (mn ≤ 255) = false := by simpa using h2
    all_goals (go_enter Tryd.func59, Tryd.ntmps59; cases b)
    all_goals (go_wp2; try go_ret)
    all_goals (refine ⟨?_, (by repeat' (first | exact Below.refl _ _ | refine Below.drew ?_ | refine Below.alloc ?_ (by simp) _ | refine Below.setCell ?_ (by simp) _))⟩)
    all_goals (have hb := HB.out; simp only [Ending.returned.injEq, Syn.okN, Syn.fields, Syn.count, Syn.set0, Syn.reps]; first | (simp at hb; done) | (try simp at hb; simp_all; try omega))
  by_cases h3 : mx = -1
  · subst h3
    have e1 : mn ≤ 255 := by omega
    have e2 : 0 ≤ mn := by omega
    all_goals (go_enter Tryd.func59, Tryd.ntmps59; cases b)
    all_goals (go_wp2; try go_ret)
    all_goals (refine ⟨?_, (by repeat' (first | exact Below.refl _ _ | refine Below.drew ?_ | refine Below.alloc ?_ (by simp) _ | refine Below.setCell ?_ (by simp) _))⟩)
    all_goals (have hb := HB.out; simp only [Ending.returned.injEq, Syn.okN, Syn.fields, Syn.count, Syn.set0, Syn.reps]; first | (simp at hb; done) | (try simp at hb; simp_all; try omega))
  have e3 : (mx == -1) = false := by simpa using h3
  have e4 : (mx != -1) = true := by simpa using h3
  by_cases h4 : mx < mn
  · have e1 : decide (mn ≤ mx) = false := by simpa using h4
    all_goals (go_enter Tryd.func59, Tryd.ntmps59; cases b)
    all_goals (go_wp2; try go_ret)
    all_goals (refine ⟨?_, (by repeat' (first | exact Below.refl _ _ | refine Below.drew ?_ | refine Below.alloc ?_ (by simp) _ | refine Below.setCell ?_ (by simp) _))⟩)
    all_goals (have hb := HB.out; simp only [Ending.returned.injEq, Syn.okN, Syn.fields, Syn.count, Syn.set0, Syn.reps]; first | (simp at hb; done) | (try simp at hb; simp_all; try omega))
  by_cases h5 : 255 < mx
  · have e1 : decide (mx ≤ 255) = false := by simpa using h5
    all_goals (go_enter Tryd.func59, Tryd.ntmps59; cases b)
    all_goals (go_wp2; try go_ret)
    all_goals (refine ⟨?_, (by repeat' (first | exact Below.refl _ _ | refine Below.drew ?_ | refine Below.alloc ?_ (by simp) _ | refine Below.setCell ?_ (by simp) _))⟩)
    all_goals (have hb := HB.out; simp only [Ending.returned.injEq, Syn.okN, Syn.fields, Syn.count, Syn.set0, Syn.reps]; first | (simp at hb; done) | (try simp at hb; simp_all; try omega))
  · have e1 : mn ≤ 255 := by omega
    have e2 : 0 ≤ mn := by omega
    have e5 : mn ≤ mx := by omega
    have e6 : mx ≤ 255 := by omega
    all_goals (go_enter Tryd.func59, Tryd.ntmps59; cases b)
    all_goals (go_wp2; try go_ret)
    all_goals (refine ⟨?_, (by repeat' (first | exact Below.refl _ _ | refine Below.drew ?_ | refine Below.alloc ?_ (by simp) _ | refine Below.setCell ?_ (by simp) _))⟩)
    all_goals (have hb := HB.out; simp only [Ending.returned.injEq, Syn.okN, Syn.fields, Syn.count, Syn.set0, Syn.reps]; first | (simp at hb; done) | (try simp at hb; simp_all; try omega))

set_option maxRecDepth 100000 in
set_option maxHeartbeats 4000000 in
theorem synOne_none (op c0 c1 c2 c3 n mn mx kids : Int) (w : World) (h1 : (op == 1) = false) (h2 : (op == 2) = false) (h3 : (op == 3) = false) (h4 : (op == 4) = false) (h5 : (op == 5) = false) (h6 : (op == 6) = false) (h7 : (op == 7) = false) (h8 : (op == 8) = false) :
    Calls Tryd.prog 59 #[.agg #[.int .i8 op, .int .u64 c0, .int .u64 c1, .int .u64 c2, .int .u64 c3, .int .i64 n, .int .i64 mn, .int .i64 mx, .int .i64 kids]] w fun e w' => e = .returned (.bool (Syn.okN ⟨op, c0, c1, c2, c3, n, mn, mx, kids⟩)) ∧ Below w.heap.size w w' := by
  obtain ⟨b, hb⟩ : ∃ b, (((c0 == 0) && (c1 == 0) && (c2 == 0) && (c3 == 0)) && (n == 0) && (mn == 0) && (mx == 0)) = b := ⟨_, rfl⟩
  have hz' : ∀ w, (binOp .neq 66 (.agg #[.int .i8 0, .int .u64 c0, .int .u64 c1, .int .u64 c2, .int .u64 c3, .int .i64 n, .int .i64 mn, .int .i64 mx, .int .i64 0]) (.agg #[.int .i8 0, .int .u64 0, .int .u64 0, .int .u64 0, .int .u64 0, .int .i64 0, .int .i64 0, .int .i64 0, .int .i64 0])).run Tryd.prog w = .ok (.bool (!b)) w := by
    intro w; rw [run_neq_ndz, ← hb]; try simp
  have HB : Hid (b = (((c0 == 0) && (c1 == 0) && (c2 == 0) && (c3 == 0)) && (n == 0) && (mn == 0) && (mx == 0))) := Lib.hid hb.symm
  clear hb
  · skip
    all_goals (go_enter Tryd.func59, Tryd.ntmps59; cases b)
    all_goals (go_wp2; try go_ret)
    all_goals (refine ⟨?_, (by repeat' (first | exact Below.refl _ _ | refine Below.drew ?_ | refine Below.alloc ?_ (by simp) _ | refine Below.setCell ?_ (by simp) _))⟩)
    all_goals (have hb := HB.out; simp only [Ending.returned.injEq, Syn.okN, Syn.fields, Syn.count, Syn.set0, Syn.reps]; first | (simp at hb; done) | (try simp at hb; simp_all))
end Go.Proofs.YtnpideapdjomgaaDoor
