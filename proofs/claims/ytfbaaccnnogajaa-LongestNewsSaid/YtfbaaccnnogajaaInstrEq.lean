/- Two instructions held against each other. No conditions. -/
import Derived.Test.YtfbaaccnnogajaaProg
import Derived.Test.YtfbaaccnnogajaaInstr
import Derived.Laws.StructEq
import Derived.WalkLawsBesides
import Derived.ChangeKeysEq
namespace Go.Proofs.Ytfbaaccnnogajaa
open Go.RowKit

theorem Instr.ext' (a b : Instr) : a = b ↔ a.op = b.op ∧ a.set.c0 = b.set.c0 ∧ a.set.c1 = b.set.c1 ∧ a.set.c2 = b.set.c2 ∧ a.set.c3 = b.set.c3 ∧ a.x = b.x ∧ a.y = b.y := by
  obtain ⟨o, ⟨c0, c1, c2, c3⟩, x, y⟩ := a
  obtain ⟨o', ⟨c0', c1', c2', c3'⟩, x', y'⟩ := b
  simp only [Instr.mk.injEq, Class.mk.injEq]
  constructor
  · rintro ⟨a, ⟨b, c, d, e⟩, f, g⟩; exact ⟨a, b, c, d, e, f, g⟩
  · rintro ⟨a, b, c, d, e, f, g⟩; exact ⟨a, ⟨b, c, d, e⟩, f, g⟩
def Class.eqB (a b : Class) : Bool := (a.c0 == b.c0) && (a.c1 == b.c1) && (a.c2 == b.c2) && (a.c3 == b.c3)
def Instr.eqB (a b : Instr) : Bool := (a.op == b.op) && a.set.eqB b.set && (a.x == b.x) && (a.y == b.y)
theorem Class.eqB_eq (a b : Class) : a.eqB b = decide (a = b) := by
  obtain ⟨c0, c1, c2, c3⟩ := a
  obtain ⟨c0', c1', c2', c3'⟩ := b
  rw [Bool.eq_iff_iff]
  simp [Class.eqB, and_assoc]
theorem Instr.eqB_eq (a b : Instr) : a.eqB b = decide (a = b) := by
  rw [Bool.eq_iff_iff]
  simp only [Instr.eqB, Class.eqB, Instr.ext', Bool.and_eq_true, beq_iff_eq, decide_eq_true_eq, and_assoc]
def ccells (a : Class) : List Value := [.int .u64 a.c0, .int .u64 a.c1, .int .u64 a.c2, .int .u64 a.c3]
theorem run_eq_step {P : Program} {w : World} {d : Nat} {e : TypeId} {k : IntKind} {xs ys : Array Value} {j : Nat} {a b : Int} {K : Bool → Sem Bool} (hu : P.underlying e = some (.int k)) (ha : (part e xs j).run P w = .ok (.int k a) w) (hb : (part e ys j).run P w = .ok (.int k b) w) :
    (do let x ← part e xs j; let y ← part e ys j; let r ← Op.equalIn (d + 1) e x y; K r).run P w = (K (a == b)).run P w := by
  simp only [Sem.run_bind, ha, hb, Result.andThen_ok, run_equalIn_int w d e k k a b hu]
theorem run_equalIn_class (d : Nat) (a b : Class) (w : World) : (Op.equalIn (d + 2) 62 (.agg #[.int .u64 a.c0, .int .u64 a.c1, .int .u64 a.c2, .int .u64 a.c3]) (.agg #[.int .u64 b.c0, .int .u64 b.c1, .int .u64 b.c2, .int .u64 b.c3])).run Try.prog w = .ok (a.eqB b) w := by
  have hu : Try.prog.underlying 62 = some (.array 4 60) := by kernel_rfl
  have hi : Try.prog.info? 60 = some (Try.prog.info? 60).get! := by kernel_rfl
  have hk : Try.prog.underlying 60 = some (.int .u64) := by kernel_rfl
  have hc : Try.prog.cellsOf 60 = 1 := by kernel_rfl
  have p0 : ∀ x0 x1 x2 x3 : Value, (part 60 #[x0, x1, x2, x3] 0).run Try.prog w = .ok x0 w := fun _ _ _ _ => by kernel_rfl
  have p1 : ∀ x0 x1 x2 x3 : Value, (part 60 #[x0, x1, x2, x3] 1).run Try.prog w = .ok x1 w := fun _ _ _ _ => by kernel_rfl
  have p2 : ∀ x0 x1 x2 x3 : Value, (part 60 #[x0, x1, x2, x3] 2).run Try.prog w = .ok x2 w := fun _ _ _ _ => by kernel_rfl
  have p3 : ∀ x0 x1 x2 x3 : Value, (part 60 #[x0, x1, x2, x3] 3).run Try.prog w = .ok x3 w := fun _ _ _ _ => by kernel_rfl
  rw [run_equalIn_array w (d + 1) _ _ hu hi, hc]
  have hr : List.range 4 = [0, 1, 2, 3] := rfl
  rw [hr]
  simp only [Op.eqItems, Nat.mul_one, Sem.run_bind, p0, p1, p2, p3, Result.andThen_ok, run_equalIn_int w d 60 .u64 .u64 _ _ hk, Sem.run_ite, Sem.run_pure, Class.eqB]
  cases a.c0 == b.c0 <;> cases a.c1 == b.c1 <;> cases a.c2 == b.c2 <;> cases a.c3 == b.c3 <;> rfl
theorem fields_instr : Try.prog.fieldsOf 64 = Try.prog.fieldsOf 64 := rfl
theorem run_equalIn_instr (d : Nat) (a b : Instr) (w : World) : (Op.equalIn (d + 3) 64 (.agg (icells a).toArray) (.agg (icells b).toArray)).run Try.prog w = .ok (a.eqB b) w := by
  have hu : Try.prog.underlying 64 = some (.struct (Try.prog.fieldsOf 64)) := by kernel_rfl
  have hp : Try.prog.stoodInHeld 64 = false := by kernel_rfl
  rw [run_equalIn_struct w (d + 2) _ _ _ hu hp]
  have hf : (Try.prog.fieldsOf 64).toList.map (fun f => (f.name == "_", f.type, f.offset)) = [(false, 55, 0), (false, 62, 1), (false, 3, 5), (false, 3, 6)] := by kernel_rfl
  have k8 : Try.prog.underlying 55 = some (.int .i8) := by kernel_rfl
  have k64 : Try.prog.underlying 3 = some (.int .i64) := by kernel_rfl
  have q0 : ∀ x : Instr, (part 55 (icells x).toArray 0).run Try.prog w = .ok (.int .i8 x.op) w := fun _ => by kernel_rfl
  have q1 : ∀ x : Instr, (part 62 (icells x).toArray 1).run Try.prog w = .ok (.agg #[.int .u64 x.set.c0, .int .u64 x.set.c1, .int .u64 x.set.c2, .int .u64 x.set.c3]) w := fun _ => by kernel_rfl
  have q2 : ∀ x : Instr, (part 3 (icells x).toArray 5).run Try.prog w = .ok (.int .i64 x.x) w := fun _ => by kernel_rfl
  have q3 : ∀ x : Instr, (part 3 (icells x).toArray 6).run Try.prog w = .ok (.int .i64 x.y) w := fun _ => by kernel_rfl
  generalize (Try.prog.fieldsOf 64).toList = fs at hf
  have hl : fs.length = 4 := by simpa using congrArg List.length hf
  rcases fs with _ | ⟨f0, _ | ⟨f1, _ | ⟨f2, _ | ⟨f3, _ | ⟨f4, fs⟩⟩⟩⟩⟩ <;> simp only [List.length_nil, List.length_cons] at hl <;> try omega
  simp only [List.map_cons, List.map_nil, List.cons.injEq, Prod.mk.injEq, and_true, beq_eq_false_iff_ne] at hf
  obtain ⟨⟨n0, t0, o0⟩, ⟨n1, t1, o1⟩, ⟨n2, t2, o2⟩, n3, t3, o3⟩ := hf
  simp only [Op.eqFields, n0, n1, n2, n3, t0, t1, t2, t3, o0, o1, o2, o3, ne_eq, not_false_eq_true, if_true, Sem.run_bind, q0, q1, q2, q3, Result.andThen_ok, run_equalIn_int w (d + 1) 55 .i8 .i8 _ _ k8, run_equalIn_int w (d + 1) 3 .i64 .i64 _ _ k64, run_equalIn_class d, Sem.run_ite, Sem.run_pure, Instr.eqB]
  cases a.op == b.op <;> cases a.set.eqB b.set <;> cases a.x == b.x <;> cases a.y == b.y <;> rfl
theorem run_neq_instrB (a b : Instr) (w : World) : (binOp .neq 64 (.agg (icells a).toArray) (.agg (icells b).toArray)).run Try.prog w = .ok (.bool (!a.eqB b)) w := by
  rw [run_neq_struct, show (10000 : Nat) = 9997 + 3 from rfl, run_equalIn_instr]; rfl
theorem run_eql_instrB (a b : Instr) (w : World) : (binOp .eql 64 (.agg (icells a).toArray) (.agg (icells b).toArray)).run Try.prog w = .ok (.bool (a.eqB b)) w := by
  rw [run_eql_struct, show (10000 : Nat) = 9997 + 3 from rfl, run_equalIn_instr]; rfl
theorem Instr.eqB_iff (a b : Instr) : a.eqB b = true ↔ a = b := by rw [Instr.eqB_eq, decide_eq_true_eq]
theorem run_neq_instr (a b : Instr) (w : World) : (binOp .neq 64 (.agg (icells a).toArray) (.agg (icells b).toArray)).run Try.prog w = .ok (.bool (!decide (a = b))) w := by
  rw [run_neq_struct, show (10000 : Nat) = 9997 + 3 from rfl, run_equalIn_instr, ← Instr.eqB_eq]; rfl
theorem run_eql_instr (a b : Instr) (w : World) : (binOp .eql 64 (.agg (icells a).toArray) (.agg (icells b).toArray)).run Try.prog w = .ok (.bool (decide (a = b))) w := by
  rw [run_eql_struct, show (10000 : Nat) = 9997 + 3 from rfl, run_equalIn_instr, ← Instr.eqB_eq]; rfl
end Go.Proofs.Ytfbaaccnnogajaa
