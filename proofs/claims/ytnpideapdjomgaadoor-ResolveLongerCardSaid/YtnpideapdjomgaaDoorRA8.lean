/- Texts that lead to the claim, one behind the other: Tables of 256 bytes: held against the table of none; loaded whole out of a command. No conditions. -/
import Derived.Test.YtnpideapdjomgaaDoorRA7
import Derived.DeepKeys
namespace Go.Proofs.YtnpideapdjomgaaDoor
open Go.RowKit Go.ChangeShapes Go.WideShapes Go.Deep

theorem bcell_get {a : List UInt8} {X : Array Value} (hX : X.toList = bcells a) {i : Nat} (hi : i < a.length) : X[i]? = some (.int .u8 (a.getD i 0).toNat) := by
  rw [← Array.getElem?_toList, hX, bcells, List.getElem?_map, List.getElem?_eq_getElem hi, List.getD_eq_getElem?_getD, List.getElem?_eq_getElem hi]; rfl
theorem run_eqItems_bytes (d : Nat) {a b : List UInt8} {X Y : Array Value} (hX : X.toList = bcells a) (hY : Y.toList = bcells b) (w : World) : ∀ is : List Nat, (∀ i ∈ is, i < a.length ∧ i < b.length) →
    (Op.eqItems (d + 1) 5 1 X Y is).run Tryd.prog w = .ok (is.all fun i => (a.getD i 0 == b.getD i 0)) w := by
  intro is
  have hp : Tryd.prog.plainKey 5 = true := by kernel_rfl
  have hk : Tryd.prog.underlying 5 = some (.int .u8) := by kernel_rfl
  induction is with
  | nil => intro _; simp [Op.eqItems]
  | cons i is ih =>
    intro h
    obtain ⟨h1, h2⟩ := h i (by simp)
    have p1 := run_part_plain (P := Tryd.prog) (w := w) hp (off := i * 1) (by rw [Nat.mul_one]; exact bcell_get hX h1)
    have p2 := run_part_plain (P := Tryd.prog) (w := w) hp (off := i * 1) (by rw [Nat.mul_one]; exact bcell_get hY h2)
    have p3 := run_equalIn_int (P := Tryd.prog) w d 5 .u8 .u8 ((a.getD i 0).toNat : Int) ((b.getD i 0).toNat : Int) hk
    have e : (((a.getD i 0).toNat : Int) == ((b.getD i 0).toNat : Int)) = (a.getD i 0 == b.getD i 0) := by
      rw [Bool.eq_iff_iff, beq_iff_eq, beq_iff_eq]
      constructor
      · intro h; exact UInt8.toNat_inj.1 (by omega)
      · intro h; rw [h]
    rw [e] at p3
    simp only [Op.eqItems, Sem.run_bind, p1, p2, p3, Result.andThen_ok, List.all_cons]
    cases a.getD i 0 == b.getD i 0
    · simp
    · simp [ih fun j hj => h j (List.mem_cons_of_mem _ hj)]
def zeros : List UInt8 := List.replicate 256 0
theorem zeros_len : zeros.length = 256 := List.length_replicate
theorem all_zero (t : List UInt8) (h : t.length = 256) : ((List.range 256).all fun i => (t.getD i 0 == zeros.getD i 0)) = t.all (· == 0) := by
  rw [Bool.eq_iff_iff, List.all_eq_true, List.all_eq_true]
  have hz : ∀ i, zeros.getD i 0 = 0 := fun i => by
    rw [List.getD_eq_getElem?_getD]
    cases hx : zeros[i]? with
    | none => rfl
    | some y =>
      have := List.mem_of_getElem? hx
      exact List.eq_of_mem_replicate this
  constructor
  · intro H x hx
    obtain ⟨i, hi, rfl⟩ := List.mem_iff_getElem.1 hx
    have := H i (List.mem_range.2 (by omega))
    rw [hz, List.getD_eq_getElem?_getD, List.getElem?_eq_getElem hi] at this
    exact this
  · intro H i hi
    have hi := List.mem_range.1 hi
    rw [hz, List.getD_eq_getElem?_getD, List.getElem?_eq_getElem (by omega)]
    exact H _ (List.getElem_mem _)
theorem run_neq_table {t : List UInt8} {X Z : Array Value} (ht : t.length = 256) (hX : X.toList = bcells t) (hZ : Z.toList = bcells zeros) (w : World) :
    (binOp .neq 42 (.agg X) (.agg Z)).run Tryd.prog w = .ok (.bool (!t.all (· == 0))) w := by
  have hu : Tryd.prog.underlying 42 = some (.array 256 5) := by kernel_rfl
  have hi : Tryd.prog.info? 5 = some (Tryd.prog.info? 5).get! := by kernel_rfl
  have hc : Tryd.prog.cellsOf 5 = 1 := by kernel_rfl
  rw [run_neq_struct, show (10000 : Nat) = 9998 + 1 + 1 from rfl, run_equalIn_array w (9998 + 1) _ _ hu hi, hc, run_eqItems_bytes 9998 hX hZ w _ (fun i hi => by have := List.mem_range.1 hi; rw [ht, zeros_len]; omega), all_zero t ht]
  rfl
theorem table_info : (Tryd.prog.info? 42).map (fun i => (i.zero, i.size)) = some (some (.agg (bcells zeros).toArray), 256) := by kernel_rfl
/-- A command's table, loaded. -/
theorem run_load_table {w : World} {b : Nat} {X : Array Value} {c : Cm} {s : CmS} {t : TypeId} (hb : w.heap[b]? = some (.cells X t (0, 0))) (h : CmX X c s) : (loadVar 42 ⟨b, 16, none⟩).run Tryd.prog w = .ok (.agg (bcells c.table).toArray) w := by
  refine run_loadVar_mid w b 16 42 (bcells c.table) (.array 256 5) ?_ (by kernel_rfl) rfl ?_
  · intro j u hj
    rw [cell_of_row w b _ X t (0, 0) hb, ← Array.getElem?_toList, h.list]
    unfold ccells
    rw [List.getElem?_append_right (by show 16 ≤ 16 + j; omega)]
    show (bcells c.table)[16 + j - 16]? = _
    rw [Nat.add_sub_cancel_left]
    exact hj
  · rw [bcells_len, h.wf.table]; kernel_rfl
/-- A command, loaded. -/
theorem run_load_cm {w : World} {b : Nat} {X : Array Value} {c : Cm} {s : CmS} {t : TypeId} (hb : w.heap[b]? = some (.cells X t (0, 0))) (h : CmX X c s) : (loadVar 44 ⟨b, 0, none⟩).run Tryd.prog w = .ok (.agg X) w := by
  have := run_loadVar_mid (P := Tryd.prog) w b 0 44 X.toList (.struct (Tryd.prog.fieldsOf 44)) (cm_range hb) (by kernel_rfl) rfl (by rw [Array.length_toList, h.size]; kernel_rfl)
  rw [this, Array.toArray_toList]
/-- A load of many cells where the guard is met. -/
theorem wpList_loadg {P : Program} {ops : Array Oper} {rest : List Oper} {op : Oper} {a : Act} {w : World} {Q : Exit → Act → World → Prop} (hw : Region.wanted op (yielded ops a.tmps) = true) (ty : TypeId) (x : Operand) (ho : op.op = .load ty x)
    (b o : Nat) (hx : a.eval x = .pointer (some ⟨b, o, none⟩)) (cs : List Value) (d : TypeDesc) (hc : w.rangeAt b o cs)
    (hu : P.underlying ty = some d) (hd : d.isRow = true) (hi : (P.info? ty).map (·.size) = some cs.length) (v : Array Value) (hv : v = cs.toArray)
    (h : wpList P ops Q rest (a.put op.dst (.agg v)) w) : wpList P ops Q (op :: rest) a w := by
  subst hv
  show (if Region.wanted op (yielded ops a.tmps) then _ else _)
  rw [if_pos hw]
  exact .inl (wp_load_mid ty x ho b o hx cs d hc hu hd hi h)
/-- .. of a whole command; of its table. -/
theorem wpList_load_cm {ops : Array Oper} {rest : List Oper} {op : Oper} {a : Act} {w : World} {Q : Exit → Act → World → Prop} {b : Nat} {X : Array Value} {c : Cm} {s : CmS} {t : TypeId} (hb : w.heap[b]? = some (.cells X t (0, 0))) (hX : CmX X c s) (x : Operand) (ho : op.op = .load 44 x)
    (hw : Region.wanted op (yielded ops a.tmps) = true) (hx : a.eval x = .pointer (some ⟨b, 0, none⟩)) (h : wpList Tryd.prog ops Q rest (a.put op.dst (.agg X)) w) : wpList Tryd.prog ops Q (op :: rest) a w :=
  wpList_loadg hw 44 x ho b 0 hx X.toList (.struct (Tryd.prog.fieldsOf 44)) (cm_range hb) (by kernel_rfl) rfl (by rw [Array.length_toList, hX.size]; kernel_rfl) X Array.toArray_toList.symm h
theorem wpList_load_table {ops : Array Oper} {rest : List Oper} {op : Oper} {a : Act} {w : World} {Q : Exit → Act → World → Prop} {b : Nat} {X : Array Value} {c : Cm} {s : CmS} {t : TypeId} (hb : w.heap[b]? = some (.cells X t (0, 0))) (hX : CmX X c s) (x : Operand) (ho : op.op = .load 42 x)
    (hw : Region.wanted op (yielded ops a.tmps) = true) (hx : a.eval x = .pointer (some ⟨b, 16, none⟩)) (v : Array Value) (hv : v = (bcells c.table).toArray) (h : wpList Tryd.prog ops Q rest (a.put op.dst (.agg v)) w) : wpList Tryd.prog ops Q (op :: rest) a w := by
  refine wpList_loadg hw 42 x ho b 16 hx (bcells c.table) (.array 256 5) ?_ (by kernel_rfl) rfl ?_ v hv h
  · intro j u hj
    rw [cell_of_row w b _ X t (0, 0) hb, ← Array.getElem?_toList, hX.list]
    unfold ccells
    rw [List.getElem?_append_right (by show 16 ≤ 16 + j; omega)]
    show (bcells c.table)[16 + j - 16]? = _
    rw [Nat.add_sub_cancel_left]
    exact hj
  · rw [bcells_len, hX.wf.table]; kernel_rfl
end Go.Proofs.YtnpideapdjomgaaDoor
