/- errors.Is where the target is a sentinel of errors.New's make: nil and the sentinel itself. No conditions. -/
import Derived.Test.YtfmaaempcpjpkaaDoorProg
import Derived.WalkKit
import Derived.LaidEql
import Derived.RowKitTokens
namespace Go.Proofs.YtfmaaempcpjpkaaDoor
open Go.RowKit Go.Extern

/-- What the model runs for reflectlite's Comparable. -/
def comparableOf : Array Value → Sem Value := Extern.ReflectliteType.method fun t => do Extern.Rtype.noPackHeld "Comparable" t; pure (.bool (← typeInfo t).comparable)
theorem isTypeOf (v : Value) (w : World) : (Extern.ReflectliteType.typeOf #[.iface 168 v]).run Tryd.prog w = .ok (.iface 136 (.agg #[.pointer (some ⟨7, 168, none⟩)])) w := by kernel_rfl
theorem isComparable (w : World) : (comparableOf #[.agg #[.pointer (some ⟨7, 168, none⟩)]]).run Tryd.prog w = .ok (.bool true) w := by kernel_rfl
theorem isMethodComparable (v : Value) (w : World) : (Go.method 306 136 v "Comparable").run Tryd.prog w = .ok (103, v) w := by kernel_rfl
theorem isComp : (Tryd.prog.info? 168).map (·.comparable) = some true := by kernel_rfl
theorem isSize : (Tryd.prog.info? 170).map (·.size) = some 1 := by kernel_rfl

set_option maxRecDepth 100000 in
/-- errors.is(x, x, true), x a pointer to an errors.errorString. -/
theorem is_in (a : Addr) (w : World) :
    Calls Tryd.prog 54 #[.iface 168 (.pointer (some a)), .iface 168 (.pointer (some a)), .bool true] w fun e w' => e = .returned (.bool true) ∧ w' = w := by
  obtain ⟨i, hi, hcmp⟩ := Option.map_eq_some_iff.1 isComp
  obtain ⟨j, hj, hjs⟩ := Option.map_eq_some_iff.1 isSize
  have heq := run_eql_iface_ptr_same (P := Tryd.prog) w a Tryd.underlying64 Tryd.underlying168 hi hcmp hj
  go_enter Tryd.func54, Tryd.ntmps54
  go_wp2
  refine wp_loop_rounds 1 ?_
  rw [rounds_succ]
  go_wp2
  go_ret
  exact ⟨rfl, rfl⟩
set_option maxRecDepth 100000 in
/-- errors.Is(x, x), x a pointer to an errors.errorString. -/
theorem is_same (a : Addr) (w : World) :
    Calls Tryd.prog 25 #[.iface 168 (.pointer (some a)), .iface 168 (.pointer (some a))] w fun e w' => e = .returned (.bool true) ∧ w' = w := by
  have h8 := @run_callFunc_extern Tryd.prog 53 _ Extern.ReflectliteType.typeOf Tryd.func53 (by kernel_rfl) (by kernel_rfl) (by kernel_rfl) (by kernel_rfl)
  have h32 := @run_callFunc_extern Tryd.prog 103 _ comparableOf Tryd.func103 (by kernel_rfl) (by kernel_rfl) (by kernel_rfl) (by kernel_rfl)
  have tT := isTypeOf
  have cT := isComparable
  have mR := isMethodComparable
  go_enter Tryd.func25, Tryd.ntmps25
  go_wp2_with (go_at_call 54; refine (is_in a _).mono ?_; rintro e w' ⟨rfl, rfl⟩)
  go_ret
  exact ⟨rfl, rfl⟩
set_option maxRecDepth 100000 in
/-- errors.Is(nil, x). -/
theorem is_nil (b : Addr) (w : World) :
    Calls Tryd.prog 25 #[.nilIface, .iface 168 (.pointer (some b))] w fun e w' => e = .returned (.bool false) ∧ w' = w := by
  have hn := run_eql_iface_nil_left (P := Tryd.prog) w 168 (.pointer (some b)) Tryd.underlying64
  go_enter Tryd.func25, Tryd.ntmps25
  go_wp2
  go_ret
  exact ⟨rfl, rfl⟩
end Go.Proofs.YtfmaaempcpjpkaaDoor
