/- Texts that lead to the claim, one behind the other: Nodes of regexes: what they are in memory; two of them held against each other. No conditions. -/
import Derived.Test.YtnpideapdjomgaaDoorProg
import Derived.Test.YtnpideapdjomgaaDoorRA2
import Derived.Test.YtnpideapdjomgaaDoorRA3
import Derived.WalkKit
import Derived.WalkSpells
import Derived.Laws.StructEq
import Derived.WalkLawsBesides
import Derived.ChangeKeysEq
import Derived.Lib.Hide
namespace Go.Proofs.YtnpideapdjomgaaDoor
open Go.RowKit

/-- A node's cells. -/
def ncells (a : Nd) : List Value := [.int .i8 a.op, .int .u64 a.c0, .int .u64 a.c1, .int .u64 a.c2, .int .u64 a.c3, .int .i64 a.n, .int .i64 a.mn, .int .i64 a.mx, .int .i64 a.kids]
structure Nd.ok (a : Nd) : Prop where
  op : (Lit.int .i8 a.op).wf = true
  c0 : (Lit.int .u64 a.c0).wf = true
  c1 : (Lit.int .u64 a.c1).wf = true
  c2 : (Lit.int .u64 a.c2).wf = true
  c3 : (Lit.int .u64 a.c3).wf = true
  n : (Lit.int .i64 a.n).wf = true
  mn : (Lit.int .i64 a.mn).wf = true
  mx : (Lit.int .i64 a.mx).wf = true
  kids : (Lit.int .i64 a.kids).wf = true
def Rep.nd : Rep Nd where
  n := 9
  is := fun _ _ cs a => cs = ncells a ∧ a.ok
  size := by rintro _ _ _ _ ⟨rfl, _⟩; rfl
  keep := by rintro _ _ _ _ _ _ ⟨rfl, h⟩ _ _; exact ⟨rfl, h⟩
  one := by rintro _ _ _ _ ⟨rfl, _⟩; simp [ncells, Value.oneCell']
theorem stNds : SliceType Tryd.prog 36 66 9 72 :=
  SliceType.mk' (z := .agg #[.int .i8 0, .int .u64 0, .int .u64 0, .int .u64 0, .int .u64 0, .int .i64 0, .int .i64 0, .int .i64 0, .int .i64 0]) Tryd.underlying36 (by kernel_rfl) rfl (by omega)
theorem nd_at {w w' : World} {S : Blocks} {A : Option Addr} {c : Nat} {l : List Nd} (h : SliceAt Rep.nd w S A c l) (hk : Same S w w') {i : Nat} (hi : i < l.length) :
    ∃ g o, A = some ⟨g, o, none⟩ ∧ S g ∧ CellsAt w' g (o + i * 9) (ncells l[i]) ∧ l[i].ok := by
  obtain ⟨g, o, cs, e, hb, hc, rfl, hok⟩ := h.at_ hi
  exact ⟨g, o, e, hb, hc.keep hb hk, hok⟩

def Nd.eqB (a b : Nd) : Bool := (a.op == b.op) && ((a.c0 == b.c0) && (a.c1 == b.c1) && (a.c2 == b.c2) && (a.c3 == b.c3)) && (a.n == b.n) && (a.mn == b.mn) && (a.mx == b.mx) && (a.kids == b.kids)
theorem Nd.eqB_eq (a b : Nd) : a.eqB b = decide (a = b) := by
  obtain ⟨a0, a1, a2, a3, a4, a5, a6, a7, a8⟩ := a
  obtain ⟨b0, b1, b2, b3, b4, b5, b6, b7, b8⟩ := b
  rw [Bool.eq_iff_iff]
  simp only [Nd.eqB, Bool.and_eq_true, beq_iff_eq, decide_eq_true_eq, Nd.mk.injEq, and_assoc]
theorem run_equalIn_ndset (d : Nat) (a0 a1 a2 a3 b0 b1 b2 b3 : Int) (w : World) : (Op.equalIn (d + 2) 64 (.agg #[.int .u64 a0, .int .u64 a1, .int .u64 a2, .int .u64 a3]) (.agg #[.int .u64 b0, .int .u64 b1, .int .u64 b2, .int .u64 b3])).run Tryd.prog w = .ok ((a0 == b0) && (a1 == b1) && (a2 == b2) && (a3 == b3)) w := by
  have hu : Tryd.prog.underlying 64 = some (.array 4 62) := by kernel_rfl
  have hi : Tryd.prog.info? 62 = some (Tryd.prog.info? 62).get! := by kernel_rfl
  have hk : Tryd.prog.underlying 62 = some (.int .u64) := by kernel_rfl
  have hc : Tryd.prog.cellsOf 62 = 1 := by kernel_rfl
  have p0 : ∀ x0 x1 x2 x3 : Value, (part 62 #[x0, x1, x2, x3] 0).run Tryd.prog w = .ok x0 w := fun _ _ _ _ => by kernel_rfl
  have p1 : ∀ x0 x1 x2 x3 : Value, (part 62 #[x0, x1, x2, x3] 1).run Tryd.prog w = .ok x1 w := fun _ _ _ _ => by kernel_rfl
  have p2 : ∀ x0 x1 x2 x3 : Value, (part 62 #[x0, x1, x2, x3] 2).run Tryd.prog w = .ok x2 w := fun _ _ _ _ => by kernel_rfl
  have p3 : ∀ x0 x1 x2 x3 : Value, (part 62 #[x0, x1, x2, x3] 3).run Tryd.prog w = .ok x3 w := fun _ _ _ _ => by kernel_rfl
  rw [run_equalIn_array w (d + 1) _ _ hu hi, hc]
  have hr : List.range 4 = [0, 1, 2, 3] := rfl
  rw [hr]
  simp only [Op.eqItems, Nat.mul_one, Sem.run_bind, p0, p1, p2, p3, Result.andThen_ok, run_equalIn_int w d 62 .u64 .u64 _ _ hk, Sem.run_ite, Sem.run_pure]
  cases a0 == b0 <;> cases a1 == b1 <;> cases a2 == b2 <;> cases a3 == b3 <;> rfl
theorem run_equalIn_nd (d : Nat) (a b : Nd) (w : World) : (Op.equalIn (d + 3) 66 (.agg (ncells a).toArray) (.agg (ncells b).toArray)).run Tryd.prog w = .ok (a.eqB b) w := by
  have hu : Tryd.prog.underlying 66 = some (.struct (Tryd.prog.fieldsOf 66)) := by kernel_rfl
  have hp : Tryd.prog.stoodInHeld 66 = false := by kernel_rfl
  rw [run_equalIn_struct w (d + 2) _ _ _ hu hp]
  have hf : (Tryd.prog.fieldsOf 66).toList.map (fun f => (f.name == "_", f.type, f.offset)) = [(false, 35, 0), (false, 64, 1), (false, 3, 5), (false, 3, 6), (false, 3, 7), (false, 3, 8)] := by kernel_rfl
  have k8 : Tryd.prog.underlying 35 = some (.int .i8) := by kernel_rfl
  have k64 : Tryd.prog.underlying 3 = some (.int .i64) := by kernel_rfl
  have q0 : ∀ x : Nd, (part 35 (ncells x).toArray 0).run Tryd.prog w = .ok (.int .i8 x.op) w := fun _ => by kernel_rfl
  have q1 : ∀ x : Nd, (part 64 (ncells x).toArray 1).run Tryd.prog w = .ok (.agg #[.int .u64 x.c0, .int .u64 x.c1, .int .u64 x.c2, .int .u64 x.c3]) w := fun _ => by kernel_rfl
  have q2 : ∀ x : Nd, (part 3 (ncells x).toArray 5).run Tryd.prog w = .ok (.int .i64 x.n) w := fun _ => by kernel_rfl
  have q3 : ∀ x : Nd, (part 3 (ncells x).toArray 6).run Tryd.prog w = .ok (.int .i64 x.mn) w := fun _ => by kernel_rfl
  have q4 : ∀ x : Nd, (part 3 (ncells x).toArray 7).run Tryd.prog w = .ok (.int .i64 x.mx) w := fun _ => by kernel_rfl
  have q5 : ∀ x : Nd, (part 3 (ncells x).toArray 8).run Tryd.prog w = .ok (.int .i64 x.kids) w := fun _ => by kernel_rfl
  generalize (Tryd.prog.fieldsOf 66).toList = fs at hf
  have hl : fs.length = 6 := by simpa using congrArg List.length hf
  rcases fs with _ | ⟨f0, _ | ⟨f1, _ | ⟨f2, _ | ⟨f3, _ | ⟨f4, _ | ⟨f5, _ | ⟨f6, fs⟩⟩⟩⟩⟩⟩⟩ <;> simp only [List.length_nil, List.length_cons] at hl <;> try omega
  simp only [List.map_cons, List.map_nil, List.cons.injEq, Prod.mk.injEq, and_true, beq_eq_false_iff_ne] at hf
  obtain ⟨⟨n0, t0, o0⟩, ⟨n1, t1, o1⟩, ⟨n2, t2, o2⟩, ⟨n3, t3, o3⟩, ⟨n4, t4, o4⟩, n5, t5, o5⟩ := hf
  simp only [Op.eqFields, n0, n1, n2, n3, n4, n5, t0, t1, t2, t3, t4, t5, o0, o1, o2, o3, o4, o5, ne_eq, not_false_eq_true, if_true, Sem.run_bind, q0, q1, q2, q3, q4, q5, Result.andThen_ok, run_equalIn_int w (d + 1) 35 .i8 .i8 _ _ k8, run_equalIn_int w (d + 1) 3 .i64 .i64 _ _ k64, run_equalIn_ndset d, Sem.run_ite, Sem.run_pure, Nd.eqB]
  generalize ((a.c0 == b.c0) && (a.c1 == b.c1) && (a.c2 == b.c2) && (a.c3 == b.c3)) = t
  cases a.op == b.op <;> cases t <;> cases a.n == b.n <;> cases a.mn == b.mn <;> cases a.mx == b.mx <;> cases a.kids == b.kids <;> rfl
theorem run_neq_nd (a b : Nd) (w : World) : (binOp .neq 66 (.agg (ncells a).toArray) (.agg (ncells b).toArray)).run Tryd.prog w = .ok (.bool (!a.eqB b)) w := by
  rw [run_neq_struct, show (10000 : Nat) = 9997 + 3 from rfl, run_equalIn_nd]; rfl
end Go.Proofs.YtnpideapdjomgaaDoor
