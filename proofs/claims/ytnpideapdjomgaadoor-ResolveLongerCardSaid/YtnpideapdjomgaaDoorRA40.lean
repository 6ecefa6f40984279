/- Texts that lead to the claim, one behind the other: Commands resolved: the walk of resolve.Resolve. Condition: room for each copy; the library's variables hold what they hold. -/
import Derived.Test.YtnpideapdjomgaaDoorRA23
import Derived.Test.YtnpideapdjomgaaDoorRA13
import Derived.Test.YtnpideapdjomgaaDoorRA25
import Derived.Test.YtnpideapdjomgaaDoorRA37
import Derived.Test.YtnpideapdjomgaaDoorRA38
import Derived.Test.YtnpideapdjomgaaDoorRA10
import Derived.Test.YtnpideapdjomgaaDoorRA11
import Derived.Test.YtnpideapdjomgaaDoorRA39
import Derived.Deep.RegionHeld3
import Derived.Laws.MakeOwn
import Derived.Lib.SmallJoins
import Derived.WalkMore
import Derived.Deep.Cut
import Derived.Deep.CutBlock
import Derived.Deep.RegionLaw
namespace Go.Proofs.YtnpideapdjomgaaDoor
open Go.RowKit Go.Shelf Go.ChangeShapes Go.WideShapes Go.Deep

def Cm.rc (c : Cm) : Res.RC := ⟨c.name, c.text, c.write, Cmd.shaped c⟩
theorem rc_writes (c : Cm) : c.rc.writes = writesB c := rfl
theorem rcs_take (l : List Cm) (i : Nat) : (l.map Cm.rc).take i = (l.take i).map Cm.rc := by rw [List.map_take]
theorem wpList_load_cml {ops : Array Oper} {rest : List Oper} {op : Oper} {a : Act} {w : World} {Q : Exit → Act → World → Prop} {g o : Nat} {X : Array Value} {c : Cm} {s : CmS} (hc : CellsAt w g o (ccells c s)) (hX : CmX X c s) (x : Operand) (ho : op.op = .load 44 x)
    (hw : Region.wanted op (yielded ops a.tmps) = true) (hx : a.eval x = .pointer (some ⟨g, o, none⟩)) (h : wpList Tryd.prog ops Q rest (a.put op.dst (.agg X)) w) : wpList Tryd.prog ops Q (op :: rest) a w :=
  wpList_loadg hw 44 x ho g o hx X.toList (.struct (Tryd.prog.fieldsOf 44)) (by rw [hX.list]; exact hc) (by kernel_rfl) rfl (by rw [Array.length_toList, hX.size]; kernel_rfl) X Array.toArray_toList.symm h
theorem wpList_store_prog {ops : Array Oper} {rest : List Oper} {op : Oper} {a : Act} {w : World} {Q : Exit → Act → World → Prop} (hgd : op.guard = none) (x y : Operand) (ho : op.op = .store 28 x y) (g : Nat) (X : Array Value) (hx : a.eval x = .pointer (some ⟨g, 0, none⟩)) (hy : a.eval y = .agg X)
    (t : TypeId) (old : Array Value) (hg : w.heap[g]? = some (.cells old t (0, 0))) (hold : old.size = 4) (hX : X.size = 4) (h1 : X.all (·.oneCell') = true) (h : wpList Tryd.prog ops Q rest (a.put op.dst undef) (w.setRow g X)) : wpList Tryd.prog ops Q (op :: rest) a w := by
  refine wpList_store_row hgd 28 x y ho g X hx hy t old hg ?_ (hold.trans hX.symm) h1 h
  rw [hX]; kernel_rfl
theorem step_build_cm {ops : Array Oper} {o : Oper} {a : Act} {w : World} {K : Act → World → Prop} {Q : Exit → Act → World → Prop} {E : Prop} (hgd : o.guard = none) (x : Operand) (ho : o.op = .buildSlice 22 1 #[(0, x)]) (X : Array Value) (hx : a.eval x = .agg X) (hX : X.size = 272)
    (h : K (a.put o.dst (.slice (some ⟨w.heap.size, 0, none⟩) 1 1)) (w.alloc (.cells X 44))) : if Region.wanted o (yielded ops a.tmps) = true then Oper.wp Tryd.prog o a w K Q else E := by
  have hw : Region.wanted o (yielded ops a.tmps) = true := by simp [Region.wanted, hgd]
  rw [if_pos hw]
  have hb := run_build_cms w [X] (by intro Y hY; rw [List.mem_singleton.1 hY]; exact hX) (by simp) (by simp)
  have e1 : (flatC [X]).toArray = X := by unfold flatC; simp
  have e2 : (([X].zipIdx.map fun p => (p.2, Value.agg p.1)).toArray : Array (Nat × Value)) = #[(0, .agg X)] := rfl
  rw [e1, e2] at hb
  have e3 : (#[(0, x)] : Array (Nat × Operand)).map (fun p => (p.1, a.eval p.2)) = #[(0, .agg X)] := by simp [hx]
  unfold Oper.wp execOp
  simp only [ho, e3, List.length_singleton] at hb ⊢
  simp only [Sem.run_bind, hb, Result.andThen_ok, Sem.run_pure]
  exact h
theorem below_d22 (B : Nat) (w : World) : Below B w w.drew := ⟨rfl, rfl, rfl, Nat.le_refl _, fun _ _ => rfl⟩
theorem yieldsIf_load_cm {ops : Array Oper} {S : World → Prop} {op : Oper} {a : Act} {b : Nat} {X : Array Value} {c : Cm} {s : CmS} {t : TypeId} (hw : Region.wanted op (yielded ops a.tmps) = true) (x : Operand) (ho : op.op = .load 44 x) (hx : a.eval x = .pointer (some ⟨b, 0, none⟩)) (hX : CmX X c s) (hS : ∀ w, S w → w.heap[b]? = some (.cells X t (0, 0))) : YieldsIf Tryd.prog ops S op (.agg X) a := by
  have h := yieldsIf_load_mid (P := Tryd.prog) (S := S) (ops := ops) hw 44 x ho b 0 hx X.toList (.struct (Tryd.prog.fieldsOf 44)) (fun w hw => cm_range (hS w hw)) (by kernel_rfl) rfl (by rw [Array.length_toList, hX.size]; kernel_rfl)
  rwa [Array.toArray_toList] at h
set_option maxRecDepth 100000 in
theorem prog_result (tmps : Array Value) (w' : World) (G : Nat) (a b c d x y : Value) (h : w'.heap[G]? = some (.cells #[a, b, c, d] 28 (0, 0))) (h2 : tmps.getD 4 undef = .pointer (some ⟨G, 0, none⟩)) (h3 : tmps.getD 5 undef = x) (h4 : tmps.getD 6 undef = y) :
    (results Tryd.f8 tmps).run Tryd.prog w' = .ok (.tuple #[.agg #[a, b, c, d], x, y]) w' := by
  have c0 := cell_of_row w' G 0 _ _ (0, 0) h
  have c1 := cell_of_row w' G 1 _ _ (0, 0) h
  have c2 := cell_of_row w' G 2 _ _ (0, 0) h
  have c3 := cell_of_row w' G 3 _ _ (0, 0) h
  simp at c0 c1 c2 c3
  simp only [Array.getD_eq_getD_getElem?] at h2 h3 h4
  simp [results, Tryd.results8, go_sem, *]
theorem info_int22 : (Tryd.prog.info? 3).map (fun i => (i.zero, i.size, i.bytes)) = some (some (.int .i64 0), 1, 8) := by kernel_rfl
theorem run_make_ints22 (u : World) (n : Nat) (hn : n ≤ 1099511627776) : (Instr.makeSlice 25 (.int .i64 (n : Int)) (.int .i64 (n : Int))).run Tryd.prog u = .ok (.slice (some ⟨u.heap.size, 0, none⟩) n n) (u.alloc (.cells (madeCells #[.int .i64 0] n) 3)) := by
  obtain ⟨i0, hi, hz0, hz1, hz2⟩ := info_parts info_int22
  have h := run_make (P := Tryd.prog) u 25 3 i0 (.int .i64 0) Tryd.underlying25 hi hz0 .i64 .i64 (n : Int) (n : Int) (by omega) (Int.le_refl _) (by rw [hz2]; omega) (by omega)
  have e : ((n : Int)).toNat = n := by omega
  rw [e] at h
  simpa [hz1, Value.cells] using h
theorem run_makeMap_22 {P : Program} (t : TypeId) (w : World) : (Instr.makeMap t none).run P w = .ok (.map (some w.heap.size)) (w.alloc (.map #[] 0)) := by
  simp [Instr.makeMap, Result.andThen]
theorem madeInts (n : Nat) : madeCells #[.int .i64 0] n = intCells (List.replicate n 0) := by
  apply Array.ext'
  unfold intCells madeCells
  apply List.ext_getElem
  · simp
  · intro i h1 h2; simp [Nat.mod_one]
theorem RM.start (w W : World) (A : Option Addr) (n c : Nat) (q : Bool) (hn : n ≤ 9223372036854775807)
    (hW : W = ((((w.alloc (.cells #[.slice A n c] 22)).alloc (.cells #[.slice none 0 0, .slice none 0 0, .slice none 0 0, .bool false] 28)).alloc (.cells (madeCells #[.int .i64 0] n) 3)).alloc (.cells #[.slice none 0 0, .slice (some ⟨w.heap.size + 2, 0, none⟩) n n, .slice none 0 0, .bool q] 28)).alloc (.map #[] 0)) :
    RM w A n c q W 0 [] (Res.start n) [] (.slice none 0 0) (.slice none 0 0) (.slice none 0 0) nob := by
  subst hW
  have hs : ∀ (u : World) (o : Obj), (u.alloc o).heap.size = u.heap.size + 1 := fun u o => by simp
  have old : ∀ (u : World) (o : Obj) (b : Nat), b < u.heap.size → (u.alloc o).heap[b]? = u.heap[b]? := fun u o b hb => Below.heap_alloc u o b hb
  refine ⟨?_, ?_, ?_, ?_, ?_, ?_, ?_, Own.nil _ _ _ _, Own.nil _ _ _ _, Own.nil _ _ _ _, fun _ h => h.elim, rfl, hn, by simp [Res.start], fun x hx => by
    have := List.eq_of_mem_replicate (show x ∈ List.replicate n (0 : Int) from hx)
    omega⟩
  · exact (((((Below.refl _ w).alloc (Nat.le_refl _) _).alloc (by simp [hs]) _).alloc (by simp [hs] <;> omega) _).alloc (by simp [hs] <;> omega) _).alloc (by simp [hs] <;> omega) _
  · simp [hs]
  · rw [old _ _ _ (by simp [hs] <;> omega), old _ _ _ (by simp [hs] <;> omega), old _ _ _ (by simp [hs] <;> omega), old _ _ _ (by simp [hs])]; exact heap_alloc_new _ _
  · rw [old _ _ _ (by simp [hs] <;> omega), old _ _ _ (by simp [hs] <;> omega), old _ _ _ (by simp [hs])]
    have := heap_alloc_new (w.alloc (.cells #[.slice A n c] 22)) (.cells #[.slice none 0 0, .slice none 0 0, .slice none 0 0, .bool false] 28)
    rwa [hs] at this
  · rw [old _ _ _ (by simp [hs] <;> omega), old _ _ _ (by simp [hs])]
    have := heap_alloc_new ((w.alloc (.cells #[.slice A n c] 22)).alloc (.cells #[.slice none 0 0, .slice none 0 0, .slice none 0 0, .bool false] 28)) (.cells (madeCells #[.int .i64 0] n) 3)
    rw [hs, hs] at this
    rw [this, madeInts]; rfl
  · rw [old _ _ _ (by simp [hs])]
    have := heap_alloc_new (((w.alloc (.cells #[.slice A n c] 22)).alloc (.cells #[.slice none 0 0, .slice none 0 0, .slice none 0 0, .bool false] 28)).alloc (.cells (madeCells #[.int .i64 0] n) 3)) (.cells #[.slice none 0 0, .slice (some ⟨w.heap.size + 2, 0, none⟩) n n, .slice none 0 0, .bool q] 28)
    rw [hs, hs, hs] at this
    exact this
  · have := Res.Labels.made ((((w.alloc (.cells #[.slice A n c] 22)).alloc (.cells #[.slice none 0 0, .slice none 0 0, .slice none 0 0, .bool false] 28)).alloc (.cells (madeCells #[.int .i64 0] n) 3)).alloc (.cells #[.slice none 0 0, .slice (some ⟨w.heap.size + 2, 0, none⟩) n n, .slice none 0 0, .bool q] 28)) Tryd.prog 9
    rw [hs, hs, hs, hs] at this
    exact this
theorem flat_cm {w6 w7 W : World} (hb : w6.heap.size ≤ w7.heap.size) (S' : Blocks) : ∀ cs x, Rep.cm.is W (fun b => b = w7.heap.size ∨ (w6.heap.size ≤ b ∧ b < w7.heap.size)) cs x → Rep.cm.is W (fun b => S' b ∨ (w6.heap.size ≤ b ∧ b < w7.heap.size + 1)) cs x := fun cs x h => Rep.cm.keep h (fun b hb' => by
  rcases hb' with rfl | h
  · exact .inr ⟨hb, Nat.lt_succ_self _⟩
  · exact .inr ⟨h.1, Nat.lt_succ_of_lt h.2⟩) (Same.refl _ _)
theorem app_done {w : World} {A : Option Addr} {n c : Nat} {q : Bool} {w6 w7 w8 : World} {m : Nat} {cs cs' : List Cm} {st : Res.St} {fs : List ByteArray} {vo vc vf v3 : Value} {S1 : Blocks} {cb : Nat} {X X' : Array Value} (h : RM w A n c q w6 m cs st fs vo vc vf S1) (hb : Below w6.heap.size w6 w7) (hc : w6.heap[cb]? = some (.cells X 44 (0, 0))) (hcv : ∀ k, vc.ownBlock = some k → k < cb)
    (ho : Own Rep.cm 44 w8 (w.heap.size + 5) (fun b => S1 b ∨ (w6.heap.size ≤ b ∧ b < w7.heap.size + 1)) v3 cs') (hg : (w7.alloc (.cells X' 44)).grownBy w8 vc.ownBlock) :
    RM w A n c q (w8.setCell ⟨w.heap.size + 3, 0, none⟩ v3) m cs' st fs vo v3 vf (fun b => S1 b ∨ (w6.heap.size ≤ b ∧ b < w7.heap.size + 1)) ∧ (w8.setCell ⟨w.heap.size + 3, 0, none⟩ v3).heap[cb]? = some (.cells X 44 (0, 0)) ∧ (∃ v, w8.cell? ⟨w.heap.size + 3, 0, none⟩ = some v) ∧ w8.frozen? ⟨w.heap.size + 3, 0, none⟩ = false ∧ w8.heap[cb]? = some (.cells X 44 (0, 0)) := by
  have hb8 : Below w6.heap.size w6 (w7.alloc (.cells X' 44)) := hb.alloc hb.size _
  have h8 := h.far hb8
  have hlt := (Array.getElem?_eq_some_iff.1 hc).1
  have hcb8 : w8.heap[cb]? = some (.cells X 44 (0, 0)) := (hg.block cb (Nat.lt_of_lt_of_le hlt hb8.size) (fun e => by have := hcv cb e.symm; omega)).trans ((hb8.block cb hlt).trans hc)
  have hp8 := (hg.block (w.heap.size + 3) (by have := h8.five; omega) (fun e => by have := (h8.cmds.lo _ e.symm).1; omega)).trans h8.p
  refine ⟨h8.grownCmds ho hg ?_, ?_, ⟨_, (cell_of_row w8 _ 0 _ _ (0, 0) hp8).trans rfl⟩, by simp [World.frozen?, hp8], hcb8⟩
  · rintro b (hb1 | ⟨hb1, _⟩)
    · exact .inl hb1
    · refine .inr ⟨by have := h.five; omega, fun e => ?_, fun e => ?_⟩
      · have := (h.opn.lo b e.symm).2; omega
      · have := (h.files.lo b e.symm).2; omega
  · by_cases e : cb = w.heap.size + 3
    · subst e
      rw [hp8] at hcb8
      simp at hcb8
    · exact ((grown_setCell w8 _ 0 v3).block cb (Array.getElem?_eq_some_iff.1 hcb8).1 (by simp; omega)).trans hcb8
theorem stInts22 : SliceType Tryd.prog 25 3 1 8 := SliceType.mk' (z := .int .i64 0) Tryd.underlying25 (by kernel_rfl) rfl (by omega)
theorem own_not_cm {α : Type} {r : Rep α} {e : TypeId} {W : World} {base : Nat} {S : Blocks} {v : Value} {l : List α} (h : Own r e W base S v l) {k : Nat} (hk : v.ownBlock = some k) {X : Array Value} (hX : W.heap[k]? = some (.cells X 44 (0, 0))) (he : e ≠ 44 := by decide) : False := by
  obtain ⟨xs, ⟨_, hv⟩, _⟩ := h
  rcases hv with ⟨rfl, _⟩ | ⟨g, cap, cur, rfl, _, hg, _⟩
  · simp [Value.ownBlock] at hk
  · simp [Value.ownBlock] at hk
    subst hk
    rw [hg] at hX
    simp at hX
    exact he hX.2
/-- What Resolve answers. -/
def ResAns (l : List Cm) (q : Bool) (w : World) (e : Ending) (w' : World) : Prop :=
  Below w.heap.size w w' ∧ match Res.resolve (l.map Cm.rc) with
    | .error x => ∃ h : x.2 < l.length, e = .returned (.tuple #[.agg #[.slice none 0 0, .slice none 0 0, .slice none 0 0, .bool false], .int .i64 x.1, .int .i64 l[x.2].pos])
    | .ok r => ∃ A1 c1 A3 c3 fs, e = .returned (.tuple #[.agg #[.slice A1 l.length c1, .slice (some ⟨w.heap.size + 2, 0, none⟩) l.length l.length, .slice A3 fs.length c3, .bool q], .int .i64 0, .int .i64 0]) ∧ ResOk l w w' r A1 c1 A3 c3 fs
theorem ResAns.err {l : List Cm} {q : Bool} {w w' : World} {e : Int} {i : Nat} {x : Int} (hb : Below w.heap.size w w') (hi : i < l.length) (h : Res.resolve (l.map Cm.rc) = .error (e, i)) (hx : x = l[i].pos) : ResAns l q w (.returned (.tuple #[.agg #[.slice none 0 0, .slice none 0 0, .slice none 0 0, .bool false], .int .i64 e, .int .i64 x])) w' := by
  unfold ResAns
  rw [h]
  subst hx
  exact ⟨hb, hi, rfl⟩
theorem ResAns.good {l : List Cm} {q : Bool} {w w' : World} {r : List Int × List (List UInt8)} {A1 A3 : Option Addr} {c1 n2 c3 : Nat} {fs : List ByteArray} (hb : Below w.heap.size w w') (h : Res.resolve (l.map Cm.rc) = .ok r) (hn2 : n2 = l.length) (h1 : ResOk l w w' r A1 c1 A3 c3 fs) : ResAns l q w (.returned (.tuple #[.agg #[.slice A1 l.length c1, .slice (some ⟨w.heap.size + 2, 0, none⟩) n2 n2, .slice A3 fs.length c3, .bool q], .int .i64 0, .int .i64 0])) w' := by
  unfold ResAns
  rw [h]
  subst hn2
  exact ⟨hb, A1, c1, A3, c3, fs, rfl, h1⟩
theorem ba_inj {a b : ByteArray} (h : a.data.toList = b.data.toList) : a = b := by
  cases a; cases b
  simp only at h
  rw [Array.toList_inj.1 h]
theorem stStrs22 : SliceType Tryd.prog 26 9 1 16 := SliceType.mk' (z := .string ⟨#[]⟩) Tryd.underlying26 (by kernel_rfl) rfl (by omega)
theorem RM.filesCell {w : World} {A : Option Addr} {n c : Nat} {q : Bool} {W W' : World} {m : Nat} {cs : List Cm} {st : Res.St} {fs : List ByteArray} {vo vc vf : Value} {S : Blocks} (h : RM w A n c q W m cs st fs vo vc vf S) (hg : W.grownBy W' vf.ownBlock) : (∃ v, W'.cell? ⟨w.heap.size + 3, 2, none⟩ = some v) ∧ W'.frozen? ⟨w.heap.size + 3, 2, none⟩ = false := by
  have hp := (hg.block (w.heap.size + 3) (by have := h.five; omega) (fun e => by have := (h.files.lo _ e.symm).1; omega)).trans h.p
  exact ⟨⟨_, (cell_of_row W' _ 2 _ _ (0, 0) hp).trans rfl⟩, by simp [World.frozen?, hp]⟩
def nilProg : Array Value := #[.slice none 0 0, .slice none 0 0, .slice none 0 0, .bool false]
theorem wpList_store_nil {ops : Array Oper} {rest : List Oper} {op : Oper} {a : Act} {w : World} {Q : Exit → Act → World → Prop} (hgd : op.guard = none) (x y : Operand) (ho : op.op = .store 28 x y) (g : Nat) (hx : a.eval x = .pointer (some ⟨g, 0, none⟩)) (hy : a.eval y = .agg #[.slice none 0 0, .slice none 0 0, .slice none 0 0, .bool false])
    (hg : w.heap[g]? = some (.cells nilProg 28 (0, 0))) (h : wpList Tryd.prog ops Q rest (a.put op.dst undef) (w.setRow g nilProg)) : wpList Tryd.prog ops Q (op :: rest) a w :=
  wpList_store_prog hgd x y ho g nilProg hx hy 28 nilProg hg rfl rfl (by simp [nilProg, Value.oneCell']) h
theorem RM.fault {w : World} {A : Option Addr} {n c : Nat} {q : Bool} {W W9 : World} {m : Nat} {cs : List Cm} {st : Res.St} {fs : List ByteArray} {vo vc vf : Value} {S : Blocks} (h : RM w A n c q W m cs st fs vo vc vf S) (hb : Below W.heap.size W W9) : Below w.heap.size w (W9.setRow (w.heap.size + 1) nilProg) ∧ W9.heap[w.heap.size + 1]? = some (.cells nilProg 28 (0, 0)) ∧ (W9.setRow (w.heap.size + 1) nilProg).heap[w.heap.size + 1]? = some (.cells nilProg 28 (0, 0)) := by
  have h9 := (h.far hb)
  refine ⟨below_setRow h9.b (by omega) _, h9.res, ?_⟩
  exact setRow_heap W9 _ _ _ _ _ h9.res
/-- The closure that tells a fault. -/
theorem RM.call {w : World} {A : Option Addr} {n c : Nat} {q : Bool} {W : World} {m : Nat} {cs : List Cm} {st : Res.St} {fs : List ByteArray} {vo vc vf : Value} {S S0 : Blocks} {l : List Cm} (h : RM w A n c q W m cs st fs vo vc vf S) (hl : Hid (SliceAt Rep.cm w S0 A c l)) (hS : Hid (∀ b, S0 b → b < w.heap.size)) (hn : Hid (n = l.length)) {i : Nat} (hi : i < l.length) (e : Int) :
    Calls Tryd.prog 18 #[.int .i64 e, .int .i64 i, .pointer (some ⟨w.heap.size, 0, none⟩)] W fun ee w' => ee = .returned (.tuple #[.agg #[.slice none 0 0, .slice none 0 0, .slice none 0 0, .bool false], .int .i64 e, .int .i64 l[i].pos]) ∧ Below W.heap.size W w' := by
  refine fault_any (n := n) (c := c) (A := A) (l := l) (S := S0) ((cell_of_row W _ 0 _ _ (0, 0) h.lbox).trans rfl) (Lib.hid (hl.out.keep (fun _ h => h) (Same.of_below h.b hS.out))) (Lib.hid fun b hb => Nat.lt_of_lt_of_le (hS.out b hb) h.b.size) hn.out hi
set_option maxRecDepth 100000 in
set_option maxHeartbeats 8000000 in
theorem resolve_any (A : Option Addr) (n c : Nat) (l : List Cm) (q : Bool) (w : World) (S : Blocks) (hn : Hid (n = l.length)) (hl : Hid (SliceAt Rep.cm w S A c l)) (hS : Hid (∀ b, S b → b < w.heap.size)) (hE : Hid (Env22 w)) (hR : Hid (∀ x ∈ l, Cm.room x)) (hsm : n ≤ 33554432) :
    Calls Tryd.prog 8 #[.slice A n c, .bool q] w fun e w' => ResAns l q w e w' := by
  obtain ⟨rl, hrl⟩ : ∃ rl, rl = l.map Cm.rc := ⟨_, rfl⟩
  have HRL := Lib.hid hrl
  have hRn : Hid (rl.length = n) := Lib.hid (by rw [hrl, List.length_map, hn.out])
  have hAt : Hid (∀ i (h : i < l.length) (h' : i < rl.length), rl[i] = l[i].rc) := Lib.hid (by subst hrl; intro i h h'; rw [List.getElem_map])
  clear hrl
  obtain ⟨Z, hZ⟩ : ∃ Z, Z = zcells.toArray := ⟨_, rfl⟩
  have HZ := Lib.hid hZ
  have HZS : Hid (Z.size = 272) := Lib.hid (by rw [hZ, List.size_toArray]; exact zcells_len)
  clear hZ
  have hnc : n ≤ c := by rw [hn.out]; exact hl.out.len
  have hcm := hl.out.max
  have hmm := run_makeMap_22 (P := Tryd.prog) 55
  have hmk := fun u => run_make_ints22 u n (by omega)
  go_enter Tryd.func8, Tryd.ntmps8
  go_wp2_with fail
  go_step3
  go_upto_region 4 with fail
  clear hmm hmk
  obtain ⟨W0, hW0⟩ : ∃ W, W = ((((w.alloc (.cells #[.slice A n c] 22)).alloc (.cells #[.slice none 0 0, .slice none 0 0, .slice none 0 0, .bool false] 28)).alloc (.cells (madeCells #[.int .i64 0] n) 3)).alloc (.cells #[.slice none 0 0, .slice (some ⟨w.heap.size + 2, 0, none⟩) n n, .slice none 0 0, .bool q] 28)).alloc (.map #[] 0) := ⟨_, rfl⟩
  rw [show w.heap.size + 1 + 1 + 1 + 1 = w.heap.size + 4 from rfl, show w.heap.size + 1 + 1 + 1 = w.heap.size + 3 from rfl, show w.heap.size + 1 + 1 = w.heap.size + 2 from rfl, ← hW0]
  have HM0 := Lib.hid (RM.start w W0 A n c q (by omega) hW0)
  clear hW0
  go_wp2_with fail
  go_step3
  have x0 : W0.cell? ⟨w.heap.size, 0, none⟩ = some (.slice A n c) := (cell_of_row W0 _ 0 _ _ (0, 0) HM0.out.lbox).trans rfl
  go_upto_block 0 with fail
  go_cut [10] from 26 (fun v10 wc => ∃ (st : Res.St) (fs : List ByteArray) (vc vf : Value) (m : Nat) (S1 : Blocks), Hid (RM w A n c q wc m l st fs v10 vc vf S1) ∧ Hid (Res.run rl 0 (Res.start n) = .ok st))
  case first =>
    go_wp2_with fail
    go_loopg [10, 28] n (fun k v10 v28 wr => ∃ (i : Nat) (st : Res.St) (fs : List ByteArray) (vc vf : Value) (m : Nat) (S1 : Blocks), i ≤ n ∧ v28 = .int .i64 i ∧ k = n - i ∧ m ≤ i ∧ Hid (RM w A n c q wr m (l.take i) st fs v10 vc vf S1) ∧ Hid (Res.run (rl.take i) 0 (Res.start n) = .ok st))
    case atStart => exact ⟨0, _, [], _, _, 0, nob, Nat.zero_le _, rfl, rfl, Nat.le_refl _, HM0, Lib.hid rfl⟩
    case round =>
      obtain ⟨i, st, fs, vc, vf, m, S1, hi, rfl, hk, hmi, HM, HRUN⟩ := hrel
      have HK := Lib.hid hk
      have HMI := Lib.hid hmi
      clear hk hmi x0
      by_cases hin : i < n
      · have hil : i < l.length := by rw [← hn.out]; exact hin
        have hirl : i < rl.length := by rw [hRn.out]; exact hin
        obtain ⟨x, hx⟩ : ∃ x, x = l[i] := ⟨_, rfl⟩
        have HX := Lib.hid hx
        have HRX : Hid (rl[i] = x.rc) := Lib.hid (by rw [hAt.out i hil hirl, hx])
        have HROOM : Hid x.room := Lib.hid (by rw [hx]; exact hR.out _ (List.getElem_mem hil))
        have HTK : Hid (l.take (i + 1) = l.take i ++ [x]) := Lib.hid (by rw [hx]; exact List.take_succ_eq_append_getElem hil)
        have HTL : Hid ((l.take i).length = i) := Lib.hid (by rw [List.length_take]; omega)
        obtain ⟨g, o, s, rfl, hg, hcs, hwf, hcl⟩ := cm_at hl.out (Same.refl S w) hil
        rw [← hx] at hcs hwf hcl
        obtain ⟨X, hXX⟩ : ∃ X, X = (ccells x s).toArray := ⟨_, rfl⟩
        have HCX : Hid (CmX X x s) := Lib.hid ⟨by rw [hXX], hwf⟩
        have HCS : Hid (CellsAt wr g (o + i * 272) (ccells x s)) := Lib.hid (hcs.keep hg (Same.of_below HM.out.b hS.out))
        have HENV : Hid (∀ W, Below w.heap.size w W → CmEnv W S X x s) := Lib.hid fun W hW => ⟨HCX.out, hcl.keep (fun _ h => h) (Same.of_below hW hS.out), fun b hb => Nat.lt_of_lt_of_le (hS.out b hb) hW.size, hE.out.below hW⟩
        have HIL := Lib.hid hil
        have HIRL := Lib.hid hirl
        clear hXX hcs hwf hcl hg hx
        go_upto_block 1 with fail
        go_cut [10] from 30 to 168 (fun v10 wc => ∃ (st' : Res.St) (fs' : List ByteArray) (vc' vf' : Value) (m' : Nat) (S' : Blocks), m' ≤ i + 1 ∧ Hid (RM w (some ⟨g, o, none⟩) n c q wc m' (l.take (i + 1)) st' fs' v10 vc' vf' S') ∧ Hid (st.step i x.rc = .ok st'))
        case rest =>
          obtain ⟨st', fs', vc', vf', m', S', hm', HM', HST⟩ := hcut
          go_wp2_with fail
          go_roundg (n - (i + 1))
          case measure => have := HK.out; omega
          case rel => exact ⟨i + 1, st', fs', vc', vf', m', S', by omega, by go_num, rfl, hm', HM', Lib.hid (Res.run_next HIRL.out HRUN.out (by rw [HRX.out]; exact HST.out))⟩
        case first =>
          go_upto_region 8 with (first
            | (refine wpList_load_cml HCS.out HCX.out (.tmp 31) rfl rfl rfl ?_)
            | (refine wpList_alloc_cm rfl rfl Z HZ.out ?_)
            | (refine wpList_store_cm rfl (.tmp 12) (.tmp 32) rfl wr.heap.size X rfl rfl HCX.out 44 Z (heap_alloc_new _ _) HZS.out ?_))
          obtain ⟨w1, hw1⟩ : ∃ W, W = (wr.alloc (.cells Z 44)).setRow wr.heap.size X := ⟨_, rfl⟩
          obtain ⟨cb, hcb⟩ : ∃ cb, cb = wr.heap.size := ⟨_, rfl⟩
          rw [← hw1, ← hcb]
          have HB1 : Hid (Below wr.heap.size wr w1) := Lib.hid (by rw [hw1]; exact below_setRow ((Below.refl _ wr).alloc (Nat.le_refl _) _) (Nat.le_refl _) _)
          have HC1 : Hid (w1.heap[cb]? = some (.cells X 44 (0, 0))) := Lib.hid (by rw [hw1, hcb]; exact setRow_heap _ _ _ _ _ _ (heap_alloc_new _ _))
          have HM1 := Lib.hid (HM.out.far HB1.out)
          have HCB : Hid (w.heap.size + 5 ≤ cb) := Lib.hid (by rw [hcb]; exact HM.out.five)
          have HCV : Hid (∀ k, vc.ownBlock = some k → k < cb) := Lib.hid fun k hk => by rw [hcb]; exact (HM.out.cmds.lo k hk).2
          clear hw1 hcb
          have x31 : w1.cell? ⟨w.heap.size + 3, 1, none⟩ = some (.slice (some ⟨w.heap.size + 2, 0, none⟩) n n) := (cell_of_row w1 _ 1 _ _ (0, 0) HM1.out.p).trans rfl
          obtain ⟨tv, xt⟩ : ∃ tv, w1.cell? ⟨w.heap.size + 2, i, none⟩ = some tv := by
            rw [cell_of_row w1 _ i _ _ (0, 0) HM1.out.tob]
            exact ⟨_, Array.getElem?_eq_getElem (by rw [intCells_size, HM1.out.tl]; exact hin)⟩
          have fr : w1.frozen? ⟨w.heap.size + 2, i, none⟩ = false := by simp [World.frozen?, HM1.out.tob]
          go_upto_block 2 with fail
          obtain ⟨w2, hw2⟩ : ∃ W, W = w1.setCell ⟨w.heap.size + 2, i, none⟩ (.int .i64 (-1)) := ⟨_, rfl⟩
          rw [← hw2]
          have HM2 : Hid (RM w (some ⟨g, o, none⟩) n c q w2 m (l.take i) (st.put i (-1)) fs u10 vc vf S1) := Lib.hid (by rw [hw2]; exact HM1.out.put i (-1) ⟨by omega, by omega⟩)
          have HC : Hid (w2.heap[cb]? = some (.cells X 44 (0, 0))) := Lib.hid (by rw [hw2]; exact ((grown_setCell w1 _ i _).block cb (Array.getElem?_eq_some_iff.1 HC1.out).1 (by have := HCB.out; simp; omega)).trans HC1.out)
          clear hw2 x31 xt fr
          go_cut [] from 38 to 76 (fun wc => Hid (RM w (some ⟨g, o, none⟩) n c q wc m (l.take i) (st.put i (-1)) fs u10 vc vf S1) ∧ Hid (wc.heap[cb]? = some (.cells X 44 (0, 0))) ∧ Hid (Res.refuse i x.rc = 0))
          case first =>
            by_cases h40 : 4096 ≤ i
            · have h40' : (4096 : Int) ≤ (i : Int) := by omega
              have HERR : Hid (Res.resolve rl = .error (2, i)) := Lib.hid (Res.resolve_err HIRL.out (by rw [hRn.out]; exact HRUN.out) (by rw [HRX.out]; exact Res.step_refuse (Res.refuse_2 h40) (by decide)))
              go_wp2_with (first
                | (go_at_call 18; refine (HM2.out.call hl hS hn HIL.out 2).mono ?_; rintro _ w9 ⟨rfl, hb9⟩; have HB9 := Lib.hid hb9; clear hb9)
                | (refine wpList_store_nil rfl (.tmp 4) (.tmp 43) rfl (w.heap.size + 1) rfl rfl (HM2.out.fault HB9.out).2.1 ?_))
              rw [Exit.noGoto_ret]
              exact bodyPost_ret (prog_result _ _ (w.heap.size + 1) _ _ _ _ _ _ (HM2.out.fault HB9.out).2.2 rfl rfl rfl) rfl (ResAns.err (HM2.out.fault HB9.out).1 HIL.out (by rw [← HRL.out]; exact HERR.out) rfl)
            · have h40' : ¬ (4096 : Int) ≤ (i : Int) := by omega
              have HSM : Hid (i < 4096) := Lib.hid (by omega)
              clear h40
              obtain ⟨b, hb⟩ : ∃ b, b = Cmd.shaped x := ⟨_, rfl⟩
              have HCALL : Hid (Calls Tryd.prog 19 #[.agg X] w2 fun e w' => e = .returned (.bool b) ∧ Below w2.heap.size w2 w') := Lib.hid (by rw [hb]; exact shapedCm_any (Lib.hid (HENV.out _ HM2.out.b)))
              have HBS : Hid (x.rc.shaped = b) := Lib.hid hb.symm
              clear hb
              cases b
              · have HERR : Hid (Res.resolve rl = .error (72, i)) := Lib.hid (Res.resolve_err HIRL.out (by rw [hRn.out]; exact HRUN.out) (by rw [HRX.out]; exact Res.step_refuse (Res.refuse_72 HSM.out HBS.out) (by decide)))
                go_wp2_with (first
                  | (refine wpList_load_cm HC.out HCX.out (.tmp 12) rfl rfl rfl ?_)
                  | (go_at_call 19; refine HCALL.out.mono ?_; rintro _ w3 ⟨rfl, hb3⟩; have HB3 := Lib.hid hb3; clear hb3)
                  | (go_at_call 18; refine ((HM2.out.far HB3.out).call hl hS hn HIL.out 72).mono ?_; rintro _ w9 ⟨rfl, hb9⟩; have HB9 := Lib.hid hb9; clear hb9)
                  | (refine wpList_store_nil rfl (.tmp 4) (.tmp 53) rfl (w.heap.size + 1) rfl rfl ((HM2.out.far HB3.out).fault HB9.out).2.1 ?_))
                rw [Exit.noGoto_ret]
                exact bodyPost_ret (prog_result _ _ (w.heap.size + 1) _ _ _ _ _ _ ((HM2.out.far HB3.out).fault HB9.out).2.2 rfl rfl rfl) rfl (ResAns.err ((HM2.out.far HB3.out).fault HB9.out).1 HIL.out (by rw [← HRL.out]; exact HERR.out) rfl)
              · go_upto_region 13 with (first
                | (refine wpList_load_cm HC.out HCX.out (.tmp 12) rfl rfl rfl ?_)
                | (go_at_call 19; refine HCALL.out.mono ?_; rintro _ w3 ⟨rfl, hb3⟩; have HB3 := Lib.hid hb3; clear hb3))
                have HM3 := Lib.hid (HM2.out.far HB3.out)
                have HC3 : Hid (w3.heap[cb]? = some (.cells X 44 (0, 0))) := Lib.hid ((HB3.out.block cb (Array.getElem?_eq_some_iff.1 HC.out).1).trans HC.out)
                obtain ⟨bh, hbh⟩ : ∃ b, Res.tempB.isPrefixOf x.text = b := ⟨_, rfl⟩
                obtain ⟨bw, hbw⟩ : ∃ b, writesB x = b := ⟨_, rfl⟩
                obtain ⟨br, hbr⟩ : ∃ b, (x.name == 114) = b := ⟨_, rfl⟩
                obtain ⟨bt, hbt⟩ : ∃ b, b = ((br || bw) && bh) := ⟨_, rfl⟩
                have HBT : Hid (x.rc.temp = bt) := Lib.hid (by rw [hbt, ← hbr, ← hbw, ← hbh]; rfl)
                have HBTE := Lib.hid hbt
                have hb114 : ((x.name.toNat : Int) == 114) = br := (u8_eq x.name 114 (by omega)).trans hbr
                have HWR : Hid (∀ W, Calls Tryd.prog 20 #[.agg X] W fun e w' => e = .returned (.bool bw) ∧ Below W.heap.size W w') := Lib.hid fun W => by rw [← hbw]; exact writes_any HCX W
                have kc := fun (w : World) (C : Array Value) (n c : Nat) => Lib.run_convert_bytes_const (P := Tryd.prog) w 39 5 C n c Tryd.underlying39 Tryd.underlying5
                have HHP : Hid (∀ W, Below w3.heap.size w3 W → Calls Tryd.prog 21 #[.slice s.A3 x.text.length s.c3, .slice (some ⟨W.heap.size, 0, none⟩) 8 8] (W.alloc (.cells #[.int .u8 46, .int .u8 103, .int .u8 97, .int .u8 108, .int .u8 108, .int .u8 101, .int .u8 121, .int .u8 45] 5 (8, 9))) fun e w' => e = .returned (.bool bh) ∧ Below w3.heap.size w3 w') := Lib.hid fun W hW => by
                  have hW2 : Below w3.heap.size w3 (W.alloc (.cells #[.int .u8 46, .int .u8 103, .int .u8 97, .int .u8 108, .int .u8 108, .int .u8 101, .int .u8 121, .int .u8 45] 5 (8, 9))) := hW.alloc hW.size _
                  refine (hasPrefix_any s.A3 _ x.text.length s.c3 8 8 x.text Res.tempB _ bh (Lib.hid rfl) (Lib.hid rfl) hbh S _ (HENV.out _ (HM3.out.b.trans (hW2.mono HM3.out.b.size))).l.text (SliceAt.newBytes W 5 #[.int .u8 46, .int .u8 103, .int .u8 97, .int .u8 108, .int .u8 108, .int .u8 101, .int .u8 121, .int .u8 45] Res.tempB 8 (by decide) (by simp [maxLen]) rfl (8, 9))).mono ?_
                  rintro e w' ⟨rfl, rfl⟩
                  exact ⟨rfl, hW2⟩
                have x7 : w3.cell? ⟨cb, 7, none⟩ = some (.int .u8 x.name.toNat) := (cm_cell HC3.out HCX.out (by omega)).trans rfl
                have x9 : ∀ W, Below w3.heap.size w3 W → W.cell? ⟨cb, 9, none⟩ = some (.slice s.A3 x.text.length s.c3) := fun W hW => (cm_cell ((hW.block cb (Array.getElem?_eq_some_iff.1 HC3.out).1).trans HC3.out) HCX.out (by omega)).trans rfl
                have HX9 := Lib.hid x9
                clear hbh hbw hbr hbt x9
                go_cut [56] from 57 to 70 (fun v56 wc => v56 = .bool bt ∧ Hid (Below w3.heap.size w3 wc))
                case first =>
                  cases br
                  · cases bw
                    · go_wp2_with (first
                        | (refine wpList_load_cm HC3.out HCX.out (.tmp 12) rfl rfl rfl ?_)
                        | (go_at_call 20; refine (HWR.out _).mono ?_; rintro _ w4 ⟨rfl, hb4⟩; have HB4 := Lib.hid hb4; clear hb4))
                      go_meet
                      case rel => exact ⟨by rw [HBTE.out]; rfl, HB4⟩
                    · go_wp2_with (first
                        | (refine wpList_load_cm HC3.out HCX.out (.tmp 12) rfl rfl rfl ?_)
                        | (go_at_call 20; refine (HWR.out _).mono ?_; rintro _ w4 ⟨rfl, hb4⟩; have HB4 := Lib.hid hb4; have y9 := HX9.out _ hb4; clear hb4)
                        | (go_at_call 21; refine (HHP.out _ HB4.out).mono ?_; rintro _ w5 ⟨rfl, hb5⟩; have HB5 := Lib.hid hb5; clear hb5))
                      go_meet
                      case rel => exact ⟨by rw [HBTE.out]; rfl, HB5⟩
                  · have y9 := HX9.out _ (Below.refl _ _)
                    go_wp2_with (first
                      | (go_at_call 21; refine (HHP.out _ (Below.refl _ _)).mono ?_; rintro _ w5 ⟨rfl, hb5⟩; have HB5 := Lib.hid hb5; clear hb5))
                    go_meet
                    case rel => exact ⟨by rw [HBTE.out]; rfl, HB5⟩
                case rest =>
                  obtain ⟨rfl, HB5⟩ := hcut
                  have HM5 := Lib.hid (HM3.out.far HB5.out)
                  have HC5 : Hid (wc.heap[cb]? = some (.cells X 44 (0, 0))) := Lib.hid ((HB5.out.block cb (Array.getElem?_eq_some_iff.1 HC3.out).1).trans HC3.out)
                  clear x7 hb114 kc
                  cases bt
                  · go_wp2_with fail
                    go_meet
                    case rel => exact ⟨HM5, HC5, Lib.hid (Res.refuse_0 HSM.out HBS.out HBT.out)⟩
                  · have HERR : Hid (Res.resolve rl = .error (77, i)) := Lib.hid (Res.resolve_err HIRL.out (by rw [hRn.out]; exact HRUN.out) (by rw [HRX.out]; exact Res.step_refuse (Res.refuse_77 HSM.out HBS.out HBT.out) (by decide)))
                    go_wp2_with (first
                      | (go_at_call 18; refine (HM5.out.call hl hS hn HIL.out 77).mono ?_; rintro _ w9 ⟨rfl, hb9⟩; have HB9 := Lib.hid hb9; clear hb9)
                      | (refine wpList_store_nil rfl (.tmp 4) (.tmp 74) rfl (w.heap.size + 1) rfl rfl (HM5.out.fault HB9.out).2.1 ?_))
                    rw [Exit.noGoto_ret]
                    exact bodyPost_ret (prog_result _ _ (w.heap.size + 1) _ _ _ _ _ _ (HM5.out.fault HB9.out).2.2 rfl rfl rfl) rfl (ResAns.err (HM5.out.fault HB9.out).1 HIL.out (by rw [← HRL.out]; exact HERR.out) rfl)
          case rest =>
            obtain ⟨HM6, HC6, HREF⟩ := hcut
            obtain ⟨w6, rfl⟩ : ∃ W : World, W = wc := ⟨_, rfl⟩
            clear HM2 HC HM1 HC1 HB1 HCS
            obtain ⟨Ac, nc, cc, rfl, hnc, hncc, hccm⟩ := HM6.out.cmds.form
            have HNC := Lib.hid hnc
            have HVC : Hid (nc = i) := Lib.hid (hnc.out.trans HTL.out)
            clear hnc
            have HCL : Hid (∀ W, Below w6.heap.size w6 W → Calls Tryd.prog 22 #[.agg X] W fun e w' => ∃ X' s', e = .returned (.agg X') ∧ CmX X' x s' ∧ CmL w' (fun b => W.heap.size ≤ b ∧ b < w'.heap.size) x s' ∧ Below W.heap.size W w') := Lib.hid fun W hW => cloneCm_any HCX (Lib.hid (HENV.out _ (HM6.out.b.trans (hW.mono HM6.out.b.size))).l) (Lib.hid (HENV.out _ (HM6.out.b.trans (hW.mono HM6.out.b.size))).s) HROOM
            have HSW : Hid (∀ W, Below w6.heap.size w6 W → W.heap[cb]? = some (.cells X 44 (0, 0))) := Lib.hid fun W hW => (hW.block cb (Array.getElem?_eq_some_iff.1 HC6.out).1).trans HC6.out
            have HPC : Hid (∀ W, Below w6.heap.size w6 W → W.cell? ⟨w.heap.size + 3, 0, none⟩ = some (.slice Ac nc cc)) := Lib.hid fun W hW => (cell_of_row W _ 0 _ _ (0, 0) (HM6.out.far hW).p).trans rfl
            have c60 : w6.drew.cell? ⟨w.heap.size + 3, 0, none⟩ = some (.slice Ac nc cc) := HPC.out _ (below_d22 _ w6)
            have c6 : w6.cell? ⟨w.heap.size + 3, 0, none⟩ = some (.slice Ac nc cc) := c60
            go_upto_region 15 with fail
            go_cut [] from 77 to 83 (fun wc => ∃ (v' : Value) (S' : Blocks), Hid (RM w (some ⟨g, o, none⟩) n c q wc m (l.take (i + 1)) (st.put i (-1)) fs u10 v' vf S') ∧ Hid (wc.heap[cb]? = some (.cells X 44 (0, 0))))
            case first =>
              refine wp_region_noPanic ?_
              refine wp_region_held_drew (S := (fun W => W.heap[cb]? = some (.cells X 44 (0, 0)))) (by kernel_rfl) (HSW.out w6.drew (below_d22 _ w6)) (fun hHeld => ?_)
              refine wpAnyH_take (i := 0) (v := ?_) rfl (by kernel_rfl) (by kernel_rfl) (by kernel_rfl) (fun _ _ _ h => h) (Or.inl ⟨by rfl, ?_⟩) (by assumption) ?_
              rotate_left 1
              · (intro w hSw; (try dsimp only at hSw); go_simp <;> (try with_reducible rfl))
              try simp only [Act.put, List.getElem_toArray, List.getElem_cons_zero, List.setIfInBounds_toArray, List.set_cons_zero, List.set_cons_succ]
              refine wpAnyH_take (i := 2) (v := .agg X) rfl (by kernel_rfl) (by kernel_rfl) (by kernel_rfl) (fun _ _ _ h => h) (yieldsIf_load_cm rfl (.tmp 12) rfl rfl HCX.out (fun _ h => h)) (by assumption) ?_
              try simp only [Act.put, List.getElem_toArray, List.getElem_cons_succ, List.getElem_cons_zero, List.setIfInBounds_toArray, List.set_cons_zero, List.set_cons_succ]
              refine wpAnyH_ready (rs := [1, 3]) (by kernel_rfl) (by simp) ?_
              refine AllReadyH.cons rfl (fun K hK => ?_) (AllReadyH.cons rfl (fun K hK => ?_) AllReadyH.nil)
              · skip
                go_simp
                refine hK.out _ _ (by assumption) (fun hHeld => ?_)
                clear hK K
                try simp only [Act.put, List.getElem_toArray, List.getElem_cons_succ, List.getElem_cons_zero, List.setIfInBounds_toArray, List.set_cons_zero, List.set_cons_succ]
                refine wpAnyH_ready (rs := [3]) (by kernel_rfl) (by simp) ?_
                refine AllReadyH.cons rfl (fun K hK => ?_) AllReadyH.nil
                go_simp
                refine (HCL.out w6.drew (below_d22 _ w6)).mono ?_
                rintro e w7 ⟨X', s', rfl, hX', hL', hb7⟩
                have HX' := Lib.hid hX'
                have HL' := Lib.hid hL'
                have HB7 : Hid (Below w6.heap.size w6 w7) := Lib.hid ⟨hb7.os, hb7.tape, hb7.output, hb7.size, hb7.block⟩
                have HSZ : Hid (X'.size = 272) := Lib.hid hX'.size
                have c7 := HPC.out w7 HB7.out
                have c7a := fun ob => HPC.out (w7.alloc ob) (HB7.out.alloc HB7.out.size ob)
                have HS7 := HSW.out w7 HB7.out
                clear hX' hL' hb7
                go_wp2_with fail
                refine hK.out _ _ HS7 (fun hHeld => ?_)
                clear hK K
                try simp only [Act.put, List.getElem_toArray, List.getElem_cons_succ, List.getElem_cons_zero, List.setIfInBounds_toArray, List.set_cons_zero, List.set_cons_succ]
                refine wpAnyH_ready (rs := [4]) (by kernel_rfl) (by simp) ?_
                refine AllReadyH.cons rfl (fun K hK => ?_) AllReadyH.nil
                refine step_build_cm rfl (.tmp 80) rfl X' rfl HSZ.out ?_
                refine hK.out _ _ (HSW.out _ (HB7.out.alloc HB7.out.size _)) (fun hHeld => ?_)
                clear hK K
                try simp only [Act.put, List.getElem_toArray, List.getElem_cons_succ, List.getElem_cons_zero, List.setIfInBounds_toArray, List.set_cons_zero, List.set_cons_succ]
                refine wpAnyH_ready (rs := [5]) (by kernel_rfl) (by simp) ?_
                refine AllReadyH.cons rfl (fun K hK => ?_) AllReadyH.nil
                refine step_append_Own rfl (.tmp 78) (.tmp 81) 22 rfl Rep.cm (w.heap.size + 5) 44 440 stCms S1 (.slice Ac nc cc) (l.take i) (by simp [Act.eval]) ((HM6.out.cmds.far HB7.out).alloc _) _ (some ⟨w7.heap.size, 0, none⟩) 1 [x] (by simp [Act.eval]) (SliceAt.new1 Rep.cm w7 _ X' x (fun b => w6.heap.size ≤ b ∧ b < w7.heap.size) ⟨s', HX'.out.list, HX'.out.wf, HL'.out⟩ (fun b hb => hb.2)) (fun b => S1 b ∨ (w6.heap.size ≤ b ∧ b < w7.heap.size + 1)) (sep_new HM6.out.cmds HB7.out.size _) (fun _ h => .inl h) (flat_cm HB7.out.size S1) (by rw [HTL.out]; simp; omega) (by rw [HTL.out]; simp; omega) (by have := HM6.out.five; have := HB7.out.size; simp; omega) ?_
                intro v3 w8 hown3 hg3 _
                obtain ⟨hm8, hc8, hp8', hf8, hcw8⟩ := app_done HM6.out HB7.out HC6.out HCV.out hown3 hg3
                obtain ⟨A3, n3, c3, rfl, -, -, -⟩ := hown3.form
                obtain ⟨vp8, hp8⟩ := hp8'
                have HM8 := Lib.hid hm8
                have HC8 := Lib.hid hc8
                have HCW8 := Lib.hid hcw8
                clear hown3 hg3 hm8 hc8 hcw8
                refine hK.out _ _ HCW8.out (fun hHeld => ?_)
                clear hK K
                try simp only [Act.put, List.getElem_toArray, List.getElem_cons_succ, List.getElem_cons_zero, List.setIfInBounds_toArray, List.set_cons_zero, List.set_cons_succ]
                refine wpAnyH_take (i := 6) (v := ?_) rfl (by kernel_rfl) (by kernel_rfl) (by kernel_rfl) (fun _ _ _ h => h) (Or.inl ⟨by rfl, ?_⟩) (by assumption) ?_
                rotate_left 1
                · (intro w hSw; (try dsimp only at hSw); go_simp <;> (try with_reducible rfl))
                try simp only [Act.put, List.getElem_toArray, List.getElem_cons_succ, List.getElem_cons_zero, List.setIfInBounds_toArray, List.set_cons_zero, List.set_cons_succ]
                refine wpAnyH_ready (rs := [7]) (by kernel_rfl) (by simp) ?_
                refine AllReadyH.cons rfl (fun K hK => ?_) AllReadyH.nil
                go_simp
                refine hK.out _ _ HC8.out (fun hHeld => ?_)
                clear hK K
                try simp only [Act.put, List.getElem_toArray, List.getElem_cons_succ, List.getElem_cons_zero, List.setIfInBounds_toArray, List.set_cons_zero, List.set_cons_succ]
                refine wpAnyH_done (by kernel_rfl) ?_ _
                refine NoPanic.normal ?_
                go_wp2_with fail
                go_meet
                case rel => exact ⟨_, _, Lib.hid (by rw [HTK.out]; exact HM8.out), HC8⟩
              · skip
                go_simp
                refine (HCL.out w6.drew (below_d22 _ w6)).mono ?_
                rintro e w7 ⟨X', s', rfl, hX', hL', hb7⟩
                have HX' := Lib.hid hX'
                have HL' := Lib.hid hL'
                have HB7 : Hid (Below w6.heap.size w6 w7) := Lib.hid ⟨hb7.os, hb7.tape, hb7.output, hb7.size, hb7.block⟩
                have HSZ : Hid (X'.size = 272) := Lib.hid hX'.size
                have c7 := HPC.out w7 HB7.out
                have c7a := fun ob => HPC.out (w7.alloc ob) (HB7.out.alloc HB7.out.size ob)
                have HS7 := HSW.out w7 HB7.out
                clear hX' hL' hb7
                go_wp2_with fail
                refine hK.out _ _ HS7 (fun hHeld => ?_)
                clear hK K
                try simp only [Act.put, List.getElem_toArray, List.getElem_cons_succ, List.getElem_cons_zero, List.setIfInBounds_toArray, List.set_cons_zero, List.set_cons_succ]
                refine wpAnyH_ready (rs := [1, 4]) (by kernel_rfl) (by simp) ?_
                refine AllReadyH.cons rfl (fun K hK => ?_) (AllReadyH.cons rfl (fun K hK => ?_) AllReadyH.nil)
                · skip
                  go_simp
                  refine hK.out _ _ (by assumption) (fun hHeld => ?_)
                  clear hK K
                  try simp only [Act.put, List.getElem_toArray, List.getElem_cons_succ, List.getElem_cons_zero, List.setIfInBounds_toArray, List.set_cons_zero, List.set_cons_succ]
                  refine wpAnyH_ready (rs := [4]) (by kernel_rfl) (by simp) ?_
                  refine AllReadyH.cons rfl (fun K hK => ?_) AllReadyH.nil
                  refine step_build_cm rfl (.tmp 80) rfl X' rfl HSZ.out ?_
                  refine hK.out _ _ (HSW.out _ (HB7.out.alloc HB7.out.size _)) (fun hHeld => ?_)
                  clear hK K
                  try simp only [Act.put, List.getElem_toArray, List.getElem_cons_succ, List.getElem_cons_zero, List.setIfInBounds_toArray, List.set_cons_zero, List.set_cons_succ]
                  refine wpAnyH_ready (rs := [5]) (by kernel_rfl) (by simp) ?_
                  refine AllReadyH.cons rfl (fun K hK => ?_) AllReadyH.nil
                  refine step_append_Own rfl (.tmp 78) (.tmp 81) 22 rfl Rep.cm (w.heap.size + 5) 44 440 stCms S1 (.slice Ac nc cc) (l.take i) (by simp [Act.eval]) ((HM6.out.cmds.far HB7.out).alloc _) _ (some ⟨w7.heap.size, 0, none⟩) 1 [x] (by simp [Act.eval]) (SliceAt.new1 Rep.cm w7 _ X' x (fun b => w6.heap.size ≤ b ∧ b < w7.heap.size) ⟨s', HX'.out.list, HX'.out.wf, HL'.out⟩ (fun b hb => hb.2)) (fun b => S1 b ∨ (w6.heap.size ≤ b ∧ b < w7.heap.size + 1)) (sep_new HM6.out.cmds HB7.out.size _) (fun _ h => .inl h) (flat_cm HB7.out.size S1) (by rw [HTL.out]; simp; omega) (by rw [HTL.out]; simp; omega) (by have := HM6.out.five; have := HB7.out.size; simp; omega) ?_
                  intro v3 w8 hown3 hg3 _
                  obtain ⟨hm8, hc8, hp8', hf8, hcw8⟩ := app_done HM6.out HB7.out HC6.out HCV.out hown3 hg3
                  obtain ⟨A3, n3, c3, rfl, -, -, -⟩ := hown3.form
                  obtain ⟨vp8, hp8⟩ := hp8'
                  have HM8 := Lib.hid hm8
                  have HC8 := Lib.hid hc8
                  have HCW8 := Lib.hid hcw8
                  clear hown3 hg3 hm8 hc8 hcw8
                  refine hK.out _ _ HCW8.out (fun hHeld => ?_)
                  clear hK K
                  try simp only [Act.put, List.getElem_toArray, List.getElem_cons_succ, List.getElem_cons_zero, List.setIfInBounds_toArray, List.set_cons_zero, List.set_cons_succ]
                  refine wpAnyH_take (i := 6) (v := ?_) rfl (by kernel_rfl) (by kernel_rfl) (by kernel_rfl) (fun _ _ _ h => h) (Or.inl ⟨by rfl, ?_⟩) (by assumption) ?_
                  rotate_left 1
                  · (intro w hSw; (try dsimp only at hSw); go_simp <;> (try with_reducible rfl))
                  try simp only [Act.put, List.getElem_toArray, List.getElem_cons_succ, List.getElem_cons_zero, List.setIfInBounds_toArray, List.set_cons_zero, List.set_cons_succ]
                  refine wpAnyH_ready (rs := [7]) (by kernel_rfl) (by simp) ?_
                  refine AllReadyH.cons rfl (fun K hK => ?_) AllReadyH.nil
                  go_simp
                  refine hK.out _ _ HC8.out (fun hHeld => ?_)
                  clear hK K
                  try simp only [Act.put, List.getElem_toArray, List.getElem_cons_succ, List.getElem_cons_zero, List.setIfInBounds_toArray, List.set_cons_zero, List.set_cons_succ]
                  refine wpAnyH_done (by kernel_rfl) ?_ _
                  refine NoPanic.normal ?_
                  go_wp2_with fail
                  go_meet
                  case rel => exact ⟨_, _, Lib.hid (by rw [HTK.out]; exact HM8.out), HC8⟩
                · skip
                  refine step_build_cm rfl (.tmp 80) rfl X' rfl HSZ.out ?_
                  refine hK.out _ _ (HSW.out _ (HB7.out.alloc HB7.out.size _)) (fun hHeld => ?_)
                  clear hK K
                  try simp only [Act.put, List.getElem_toArray, List.getElem_cons_succ, List.getElem_cons_zero, List.setIfInBounds_toArray, List.set_cons_zero, List.set_cons_succ]
                  refine wpAnyH_ready (rs := [1]) (by kernel_rfl) (by simp) ?_
                  refine AllReadyH.cons rfl (fun K hK => ?_) AllReadyH.nil
                  go_simp
                  refine hK.out _ _ (by assumption) (fun hHeld => ?_)
                  clear hK K
                  try simp only [Act.put, List.getElem_toArray, List.getElem_cons_succ, List.getElem_cons_zero, List.setIfInBounds_toArray, List.set_cons_zero, List.set_cons_succ]
                  refine wpAnyH_ready (rs := [5]) (by kernel_rfl) (by simp) ?_
                  refine AllReadyH.cons rfl (fun K hK => ?_) AllReadyH.nil
                  refine step_append_Own rfl (.tmp 78) (.tmp 81) 22 rfl Rep.cm (w.heap.size + 5) 44 440 stCms S1 (.slice Ac nc cc) (l.take i) (by simp [Act.eval]) ((HM6.out.cmds.far HB7.out).alloc _) _ (some ⟨w7.heap.size, 0, none⟩) 1 [x] (by simp [Act.eval]) (SliceAt.new1 Rep.cm w7 _ X' x (fun b => w6.heap.size ≤ b ∧ b < w7.heap.size) ⟨s', HX'.out.list, HX'.out.wf, HL'.out⟩ (fun b hb => hb.2)) (fun b => S1 b ∨ (w6.heap.size ≤ b ∧ b < w7.heap.size + 1)) (sep_new HM6.out.cmds HB7.out.size _) (fun _ h => .inl h) (flat_cm HB7.out.size S1) (by rw [HTL.out]; simp; omega) (by rw [HTL.out]; simp; omega) (by have := HM6.out.five; have := HB7.out.size; simp; omega) ?_
                  intro v3 w8 hown3 hg3 _
                  obtain ⟨hm8, hc8, hp8', hf8, hcw8⟩ := app_done HM6.out HB7.out HC6.out HCV.out hown3 hg3
                  obtain ⟨A3, n3, c3, rfl, -, -, -⟩ := hown3.form
                  obtain ⟨vp8, hp8⟩ := hp8'
                  have HM8 := Lib.hid hm8
                  have HC8 := Lib.hid hc8
                  have HCW8 := Lib.hid hcw8
                  clear hown3 hg3 hm8 hc8 hcw8
                  refine hK.out _ _ HCW8.out (fun hHeld => ?_)
                  clear hK K
                  try simp only [Act.put, List.getElem_toArray, List.getElem_cons_succ, List.getElem_cons_zero, List.setIfInBounds_toArray, List.set_cons_zero, List.set_cons_succ]
                  refine wpAnyH_take (i := 6) (v := ?_) rfl (by kernel_rfl) (by kernel_rfl) (by kernel_rfl) (fun _ _ _ h => h) (Or.inl ⟨by rfl, ?_⟩) (by assumption) ?_
                  rotate_left 1
                  · (intro w hSw; (try dsimp only at hSw); go_simp <;> (try with_reducible rfl))
                  try simp only [Act.put, List.getElem_toArray, List.getElem_cons_succ, List.getElem_cons_zero, List.setIfInBounds_toArray, List.set_cons_zero, List.set_cons_succ]
                  refine wpAnyH_ready (rs := [7]) (by kernel_rfl) (by simp) ?_
                  refine AllReadyH.cons rfl (fun K hK => ?_) AllReadyH.nil
                  go_simp
                  refine hK.out _ _ HC8.out (fun hHeld => ?_)
                  clear hK K
                  try simp only [Act.put, List.getElem_toArray, List.getElem_cons_succ, List.getElem_cons_zero, List.setIfInBounds_toArray, List.set_cons_zero, List.set_cons_succ]
                  refine wpAnyH_done (by kernel_rfl) ?_ _
                  refine NoPanic.normal ?_
                  go_wp2_with fail
                  go_meet
                  case rel => exact ⟨_, _, Lib.hid (by rw [HTK.out]; exact HM8.out), HC8⟩
            case rest =>
              obtain ⟨vc9, S9, HM9, HC9⟩ := hcut
              obtain ⟨w9, rfl⟩ : ∃ W : World, W = wc := ⟨_, rfl⟩
              clear c60 c6 HM6 HC6 HCL HSW HPC HVC HNC hncc hccm
              have HINV : Hid (Res.Inv rl i st) := Lib.hid (Res.run_inv i (Nat.le_of_lt HIRL.out) st (by rw [hRn.out]; exact HRUN.out))
              obtain ⟨b1, hb1⟩ : ∃ b, (x.name == 123) = b := ⟨_, rfl⟩
              obtain ⟨b2, hb2⟩ : ∃ b, (x.name == 125) = b := ⟨_, rfl⟩
              obtain ⟨b3, hb3⟩ : ∃ b, (x.name == 58) = b := ⟨_, rfl⟩
              have e1 : ((x.name.toNat : Int) == 123) = b1 := (u8_eq x.name 123 (by omega)).trans hb1
              have e2 : ((x.name.toNat : Int) == 125) = b2 := (u8_eq x.name 125 (by omega)).trans hb2
              have e3 : ((x.name.toNat : Int) == 58) = b3 := (u8_eq x.name 58 (by omega)).trans hb3
              have HB_1 : Hid ((x.rc.name == 123) = b1) := Lib.hid hb1
              have HB_2 : Hid ((x.rc.name == 125) = b2) := Lib.hid hb2
              have HB_3 : Hid ((x.rc.name == 58) = b3) := Lib.hid hb3
              obtain ⟨tx, htx⟩ : ∃ tx : ByteArray, tx = ⟨x.text.toArray⟩ := ⟨_, rfl⟩
              have HTX : Hid (tx.data.toList = x.text) := Lib.hid (by rw [htx])
              have HTS : Hid (tx.size ≤ maxLen) := Lib.hid (by
                have h1 := (HENV.out w (Below.refl _ _)).l.text.len
                have h2 := (HENV.out w (Below.refl _ _)).l.text.2.1
                rw [htx]; show x.text.toArray.size ≤ _; rw [List.size_toArray]; omega)
              have HCVT : Hid (∀ W, Below w.heap.size w W → (convert 39 9 (.slice s.A3 x.text.length s.c3)).run Tryd.prog W = .ok (.string tx) W) := Lib.hid fun W hW => by
                rw [htx]
                exact run_bytes_string W 39 5 9 Tryd.underlying39 Tryd.underlying5 Tryd.underlying9 S s.A3 _ s.c3 x.text rfl (HENV.out W hW).l.text
              obtain ⟨Ao, no, co, rfl, hno, hnco, hcom⟩ := HM9.out.opn.form
              have HNO : Hid (no = st.opn.length) := Lib.hid (by rw [hno.out, List.length_map]; rfl)
              have hno64 : no ≤ 64 := by rw [HNO.out]; exact HINV.out.few
              clear hb1 hb2 hb3 htx hno
              have x7 : w9.cell? ⟨cb, 7, none⟩ = some (.int .u8 x.name.toNat) := (cm_cell HC9.out HCX.out (by omega)).trans rfl
              go_upto_block 3 with fail
              clear x7
              go_cut [10] from 86 to 150 (fun v10 wc => ∃ (s2 : Res.St) (m2 : Nat), m2 ≤ i + 1 ∧ Hid (RM w (some ⟨g, o, none⟩) n c q wc m2 (l.take (i + 1)) s2 fs v10 vc9 vf S9) ∧ Hid (wc.heap[cb]? = some (.cells X 44 (0, 0))) ∧ Hid ((st.put i (-1)).block i x.rc = .ok s2))
              case first =>
                cases b1
                · cases b2
                  · cases b3
                    · go_wp2_with fail
                      go_meet
                      case rel => exact ⟨_, m, by have := HMI.out; omega, HM9, HC9, Lib.hid (Res.block_o (by simpa using HB_1.out) (by simpa using HB_2.out) (by simpa using HB_3.out))⟩
                    · obtain ⟨bk, hbk⟩ : ∃ b, (Res.labOf st.labels x.text).isSome = b := ⟨_, rfl⟩
                      have HBK : Hid ((Res.labOf (st.put i (-1)).labels x.rc.text).isSome = bk) := Lib.hid hbk
                      have y9 : w9.cell? ⟨cb, 9, none⟩ = some (.slice s.A3 x.text.length s.c3) := (cm_cell HC9.out HCX.out (by omega)).trans rfl
                      have hcv := HCVT.out w9 HM9.out.b
                      have hlk := HM9.out.lab.look_ok (t := 55) (e := 3) Tryd.underlying9 Tryd.underlying55 (Tryd.zeroValue3 _) tx HTS.out
                      rw [show (st.put i (-1)).labels = st.labels from rfl, HTX.out, hbk, Res.labV] at hlk
                      clear hbk
                      cases bk
                      · have HLN : Hid (Res.labOf (st.put i (-1)).labels tx.data.toList = none) := Lib.hid (by rw [HTX.out]; exact Option.not_isSome_iff_eq_none.1 (by have := HBK.out; intro h; rw [show Res.labOf (st.put i (-1)).labels x.text = Res.labOf (st.put i (-1)).labels x.rc.text from rfl, this] at h; cases h))
                        obtain ⟨w10, hst, hl10, ht10⟩ := HM9.out.lab.store (t := 55) (e := 3) Tryd.underlying9 Tryd.underlying55 (by have := HMI.out; simp only [maxLen]; omega) tx HTS.out (i + 1) HLN.out
                        rw [show ((i + 1 : Nat) : Int) = (i : Int) + 1 from by omega] at hst
                        have HM10 := Lib.hid (HM9.out.label hl10 ht10)
                        have HC10 : Hid (w10.heap[cb]? = some (.cells X 44 (0, 0))) := Lib.hid ((ht10.grown.block cb (Array.getElem?_eq_some_iff.1 HC9.out).1 (by have := HCB.out; simp; omega)).trans HC9.out)
                        clear hl10 ht10
                        go_wp2_with fail
                        go_meet
                        case rel => exact ⟨_, m + 1, by have := HMI.out; omega, HM10, HC10, Lib.hid (by rw [HTX.out]; exact Res.block_c (by simpa using HB_3.out) (by rw [Res.known_labOf]; exact HBK.out))⟩
                      · have HERR : Hid (Res.resolve rl = .error (75, i)) := Lib.hid (Res.resolve_err HIRL.out (by rw [hRn.out]; exact HRUN.out) (by rw [HRX.out]; exact Res.step_err HREF.out (Res.block_c75 (by simpa using HB_3.out) (by rw [Res.known_labOf]; exact HBK.out))))
                        go_wp2_with (first
                          | (go_at_call 18; refine (HM9.out.call hl hS hn HIL.out 75).mono ?_; rintro _ w9 ⟨rfl, hb9⟩; have HB9 := Lib.hid hb9; clear hb9)
                          | (refine wpList_store_nil rfl (.tmp 4) (.tmp 142) rfl (w.heap.size + 1) rfl rfl (HM9.out.fault HB9.out).2.1 ?_))
                        rw [Exit.noGoto_ret]
                        exact bodyPost_ret (prog_result _ _ (w.heap.size + 1) _ _ _ _ _ _ (HM9.out.fault HB9.out).2.2 rfl rfl rfl) rfl (ResAns.err (HM9.out.fault HB9.out).1 HIL.out (by rw [← HRL.out]; exact HERR.out) rfl)
                  · rcases Nat.eq_zero_or_pos no with hn0 | hn0
                    · subst hn0
                      have HERR : Hid (Res.resolve rl = .error (76, i)) := Lib.hid (Res.resolve_err HIRL.out (by rw [hRn.out]; exact HRUN.out) (by rw [HRX.out]; exact Res.step_err HREF.out (Res.block_r76 (by simpa using HB_2.out) HNO.out.symm)))
                      go_wp2_with (first
                        | (go_at_call 18; refine (HM9.out.call hl hS hn HIL.out 76).mono ?_; rintro _ w9 ⟨rfl, hb9⟩; have HB9 := Lib.hid hb9; clear hb9)
                        | (refine wpList_store_nil rfl (.tmp 4) (.tmp 109) rfl (w.heap.size + 1) rfl rfl (HM9.out.fault HB9.out).2.1 ?_))
                      rw [Exit.noGoto_ret]
                      exact bodyPost_ret (prog_result _ _ (w.heap.size + 1) _ _ _ _ _ _ (HM9.out.fault HB9.out).2.2 rfl rfl rfl) rfl (ResAns.err (HM9.out.fault HB9.out).1 HIL.out (by rw [← HRL.out]; exact HERR.out) rfl)
                    · obtain ⟨np, rfl⟩ : ∃ np, no = np + 1 := ⟨no - 1, by omega⟩
                      have hop : np < st.opn.length := by rw [← HNO.out]; omega
                      obtain ⟨k, hk⟩ : ∃ k, k = st.opn[np] := ⟨_, rfl⟩
                      have HKL : Hid ((st.put i (-1)).opn.getLastD 0 = k) := Lib.hid (by
                        show st.opn.getLastD 0 = k
                        rw [hk, List.getLastD_eq_getLast?, List.getLast?_eq_getElem?, List.getElem?_eq_getElem (by omega)]
                        simp only [Option.getD_some]
                        congr 1
                        have := HNO.out; omega)
                      have hki : k < i := by rw [hk]; exact (HINV.out.opn np hop).1
                      have hkn : k < n := by omega
                      obtain ⟨A', c', he, hso⟩ := HM9.out.opn.slice
                      simp only [Value.slice.injEq] at he
                      obtain ⟨rfl, -, rfl⟩ := he
                      obtain ⟨go, oo, rfl, xo⟩ := num_at22 hso (Same.refl _ _) (i := np) (by rw [List.length_map]; exact hop)
                      rw [List.getElem_map] at xo
                      rw [show (st.put i (-1)).opn[np] = k from hk.symm] at xo
                      have x31 : w9.cell? ⟨w.heap.size + 3, 1, none⟩ = some (.slice (some ⟨w.heap.size + 2, 0, none⟩) n n) := (cell_of_row w9 _ 1 _ _ (0, 0) HM9.out.p).trans rfl
                      obtain ⟨tv, xt⟩ : ∃ tv, w9.cell? ⟨w.heap.size + 2, k, none⟩ = some tv := by
                        rw [cell_of_row w9 _ k _ _ (0, 0) HM9.out.tob]
                        exact ⟨_, Array.getElem?_eq_getElem (by rw [intCells_size, HM9.out.tl]; exact hkn)⟩
                      have fr : w9.frozen? ⟨w.heap.size + 2, k, none⟩ = false := by simp [World.frozen?, HM9.out.tob]
                      have HM11 := Lib.hid ((((HM9.out.far (below_d22 _ w9)).put k ((i : Int) + 1) ⟨by omega, by omega⟩)).cutOpn (by omega) (by show np + 1 = st.opn.length; exact HNO.out))
                      have HC11 : Hid ((w9.drew.setCell ⟨w.heap.size + 2, k, none⟩ (.int .i64 ((i : Int) + 1))).heap[cb]? = some (.cells X 44 (0, 0))) := Lib.hid (((grown_setCell w9.drew _ k _).block cb (Array.getElem?_eq_some_iff.1 HC9.out).1 (by have := HCB.out; simp; omega)).trans HC9.out)
                      clear hso hk hop
                      go_wp2_with fail
                      go_region
                      all_goals go_wp2_with fail
                      all_goals go_meet
                      case rel => exact ⟨_, m, by have := HMI.out; omega, HM11, HC11, Lib.hid (by rw [Res.block_r (by simpa using HB_2.out) (by show st.opn.length ≠ 0; rw [← HNO.out]; omega), HKL.out]; rfl)⟩
                · by_cases h64 : no = 64
                  · subst h64
                    have HERR : Hid (Res.resolve rl = .error (76, i)) := Lib.hid (Res.resolve_err HIRL.out (by rw [hRn.out]; exact HRUN.out) (by rw [HRX.out]; exact Res.step_err HREF.out (Res.block_l76 (by simpa using HB_1.out) HNO.out.symm)))
                    go_wp2_with (first
                      | (go_at_call 18; refine (HM9.out.call hl hS hn HIL.out 76).mono ?_; rintro _ w9 ⟨rfl, hb9⟩; have HB9 := Lib.hid hb9; clear hb9)
                      | (refine wpList_store_nil rfl (.tmp 4) (.tmp 94) rfl (w.heap.size + 1) rfl rfl (HM9.out.fault HB9.out).2.1 ?_))
                    rw [Exit.noGoto_ret]
                    exact bodyPost_ret (prog_result _ _ (w.heap.size + 1) _ _ _ _ _ _ (HM9.out.fault HB9.out).2.2 rfl rfl rfl) rfl (ResAns.err (HM9.out.fault HB9.out).1 HIL.out (by rw [← HRL.out]; exact HERR.out) rfl)
                  · have hne : ((no : Int) == 64) = false := by simp; omega
                    have HNEW : Hid (∀ W : World, SliceAt (Rep.int .i64) (W.alloc (.cells #[.int .i64 i] 3)) (fun b => b = W.heap.size ∨ nob b) (some ⟨W.heap.size, 0, none⟩) 1 [(i : Int)]) := Lib.hid fun W => SliceAt.new1 (Rep.int .i64) W _ _ (i : Int) nob ⟨rfl, by simp [Lit.wf, IntKind.min, IntKind.max, IntKind.signed, IntKind.bits]; omega⟩ (fun _ h => h.elim)
                    have HOW : Hid (Own (Rep.int .i64) 3 (w9.alloc (.cells #[.int .i64 i] 3)) (w.heap.size + 5) nob (.slice Ao no co) ((st.put i (-1)).opn.map fun x : Nat => (x : Int))) := Lib.hid (HM9.out.opn.alloc _)
                    have HOL : Hid (((st.put i (-1)).opn.map fun x : Nat => (x : Int)).length ≤ 64) := Lib.hid (by rw [List.length_map]; show st.opn.length ≤ 64; rw [← HNO.out]; exact hno64)
                    go_wp2_with (at_builtin; refine wpList_append_Own _ rfl (.tmp 97) (.tmp 99) 25 rfl (Rep.int .i64) (w.heap.size + 5) 3 8 stInts22 nob (.slice Ao no co) _ rfl HOW.out _ (some ⟨w9.heap.size, 0, none⟩) 1 [(i : Int)] rfl (HNEW.out w9) nob (fun _ h => h.elim) (fun _ h => h) (fun _ _ h => h) (by have := HOL.out; simp only [List.length_singleton]; omega) (by have := HOL.out; simp only [List.length_singleton]; omega) (by have := HM9.out.five; simp; omega) ?_; intro v4 w10 hown hg4 hat4; have HO := Lib.hid hown; have HG := Lib.hid hg4; have HA := Lib.hid hat4; clear hown hg4 hat4)
                    have HB10 : Hid (Below w9.heap.size w9 (w9.alloc (.cells #[.int .i64 i] 3))) := Lib.hid ((Below.refl _ _).alloc (Nat.le_refl _) _)
                    have HM10 := Lib.hid ((HM9.out.far HB10.out).grownOpn HO.out HG.out HA.out)
                    have HC10 : Hid (w10.heap[cb]? = some (.cells X 44 (0, 0))) := Lib.hid (by
                      have hlt := (Array.getElem?_eq_some_iff.1 HC9.out).1
                      have h1 : (w9.alloc (.cells #[.int .i64 i] 3)).heap[cb]? = some (.cells X 44 (0, 0)) := (HB10.out.block cb hlt).trans HC9.out
                      refine (HG.out.block cb (Nat.lt_of_lt_of_le hlt HB10.out.size) (fun e => ?_)).trans h1
                      exact own_not_cm HOW.out e.symm h1)
                    go_wp2_with fail
                    go_meet
                    case rel => exact ⟨_, m, by have := HMI.out; omega, HM10, HC10, Lib.hid (Res.block_l (by simpa using HB_1.out) (by show st.opn.length ≠ 64; rw [← HNO.out]; exact h64))⟩
              case rest =>
                obtain ⟨s2, m2, hm2, HM12, HC12, HBLK⟩ := hcut
                obtain ⟨w12, rfl⟩ : ∃ W : World, W = wc := ⟨_, rfl⟩
                have HM2' := Lib.hid hm2
                have HS2F : Hid (s2.files = st.files) := Lib.hid ((Res.block_files (s := st.put i (-1)) HBLK.out).trans rfl)
                have HFF : Hid (st.files.length ≤ i) := Lib.hid (Res.files_few (Nat.le_of_lt HIRL.out) HRUN.out)
                obtain ⟨Af, nf, cf, rfl, hnf, hnfc, hcfm⟩ := HM12.out.files.form
                have HNF := Lib.hid hnf.out
                have HFL : Hid (fs.length ≤ i) := Lib.hid (by have := congrArg List.length HM12.out.fl; rw [List.length_map, HS2F.out] at this; rw [this]; exact HFF.out)
                obtain ⟨bw, hbw⟩ : ∃ b, writesB x = b := ⟨_, rfl⟩
                have HBW : Hid (x.rc.writes = bw) := Lib.hid hbw
                have HWR2 : Hid (Calls Tryd.prog 20 #[.agg X] w12 fun e w' => e = .returned (.bool bw) ∧ Below w12.heap.size w12 w') := Lib.hid (by rw [← hbw]; exact writes_any HCX w12)
                clear hbw hm2 hnf hnco hcom hno64 e1 e2 e3
                cases bw
                · go_wp2_with (first
                    | (refine wpList_load_cm HC12.out HCX.out (.tmp 12) rfl rfl rfl ?_)
                    | (go_at_call 20; refine HWR2.out.mono ?_; rintro _ w13 ⟨rfl, hb13⟩; have HB13 := Lib.hid hb13; clear hb13))
                  go_meet
                  case rel => exact ⟨s2, fs, vc9, _, m2, S9, HM2'.out, Lib.hid (HM12.out.far HB13.out), Lib.hid (by rw [Res.step_ok HREF.out HBLK.out, Res.file_no HBW.out])⟩
                · go_upto_region 32 with (first
                    | (refine wpList_load_cm HC12.out HCX.out (.tmp 12) rfl rfl rfl ?_)
                    | (go_at_call 20; refine HWR2.out.mono ?_; rintro _ w13 ⟨rfl, hb13⟩; have HB13 := Lib.hid hb13; clear hb13))
                  have HM13 := Lib.hid (HM12.out.far HB13.out)
                  have HC13 : Hid (w13.heap[cb]? = some (.cells X 44 (0, 0))) := Lib.hid ((HB13.out.block cb (Array.getElem?_eq_some_iff.1 HC12.out).1).trans HC12.out)
                  have y9 : w13.cell? ⟨cb, 9, none⟩ = some (.slice s.A3 x.text.length s.c3) := (cm_cell HC13.out HCX.out (by omega)).trans rfl
                  have y2 : w13.cell? ⟨w.heap.size + 3, 2, none⟩ = some (.slice Af nf cf) := (cell_of_row w13 _ 2 _ _ (0, 0) HM13.out.p).trans rfl
                  have hcv := HCVT.out w13 HM13.out.b
                  have HCON : Hid (Calls Tryd.prog 23 #[.slice Af nf cf, .string tx] w13 fun e w' => (∃ q, e = .returned (.bool q) ∧ (q = true ↔ tx ∈ fs)) ∧ w13 = w') := Lib.hid (by
                    obtain ⟨A', n', c', he, hn', -, -, hsl⟩ := HM13.out.files.read
                    simp only [Value.slice.injEq] at he
                    obtain ⟨rfl, rfl, rfl⟩ := he
                    exact strContains_any _ _ _ fs tx w13 _ hn' (Lib.hid hsl))
                  by_cases hmem : tx ∈ fs
                  · have HMEM := Lib.hid hmem
                    clear hmem
                    go_wp2_with (go_at_call 23; refine HCON.out.mono ?_; rintro _ w14 ⟨⟨q1, rfl, hq1⟩, rfl⟩; obtain rfl := hq1.2 HMEM.out; clear hq1)
                    go_meet
                    case rel => exact ⟨s2, fs, vc9, _, m2, S9, HM2'.out, HM13, Lib.hid (by
                      rw [Res.step_ok HREF.out HBLK.out, Res.file_old]
                      rw [← HM13.out.fl, show x.rc.text = tx.data.toList from HTX.out.symm]
                      exact List.mem_map_of_mem HMEM.out)⟩
                  · have HMEM := Lib.hid hmem
                    have HNEW : Hid (∀ W : World, SliceAt Rep.str (W.alloc (.cells #[.string tx] 9)) (fun b => b = W.heap.size ∨ nob b) (some ⟨W.heap.size, 0, none⟩) 1 [tx]) := Lib.hid fun W => SliceAt.new1 Rep.str W _ _ tx nob ⟨rfl, HTS.out⟩ (fun _ h => h.elim)
                    have HOW : Hid (Own Rep.str 9 (w13.alloc (.cells #[.string tx] 9)) (w.heap.size + 5) nob (.slice Af nf cf) fs) := Lib.hid (HM13.out.files.alloc _)
                    have HB14 : Hid (Below w13.heap.size w13 (w13.alloc (.cells #[.string tx] 9))) := Lib.hid ((Below.refl _ _).alloc (Nat.le_refl _) _)
                    have HNOT : Hid (∀ q : Bool, (q = true ↔ tx ∈ fs) → q = false) := Lib.hid fun q hq => by cases q with | false => rfl | true => exact absurd (hq.1 rfl) HMEM.out
                    clear hmem
                    go_wp2_with (first
                      | (go_at_call 23; refine HCON.out.mono ?_; rintro _ w14 ⟨⟨q1, rfl, hq1⟩, rfl⟩; obtain rfl := HNOT.out q1 hq1; clear hq1)
                      | (at_builtin; refine wpList_append_Own _ rfl (.tmp 162) (.tmp 166) 26 rfl Rep.str (w.heap.size + 5) 9 16 stStrs22 nob (.slice Af nf cf) fs rfl HOW.out _ (some ⟨w13.heap.size, 0, none⟩) 1 [tx] rfl (HNEW.out w13) nob (fun _ h => h.elim) (fun _ h => h) (fun _ _ h => h) (by have := HFL.out; simp only [List.length_singleton]; omega) (by have := HFL.out; simp only [List.length_singleton]; omega) (by have := HM13.out.five; simp; omega) ?_; intro v4 w14 hown hg4 hat4; obtain ⟨A4, n4, c4, rfl, -, -, -⟩ := hown.form; obtain ⟨⟨vp, hp4⟩, hf4⟩ := (HM13.out.far HB14.out).filesCell hg4; have HO := Lib.hid hown; have HG := Lib.hid hg4; have HA := Lib.hid hat4; clear hown hg4 hat4))
                    go_meet
                    case rel => exact ⟨_, _, vc9, _, m2, S9, HM2'.out, Lib.hid ((HM13.out.far HB14.out).grownFiles HO.out HG.out HA.out), Lib.hid (by
                      rw [Res.step_ok HREF.out HBLK.out, Res.file_new HBW.out]
                      · rw [show x.rc.text = tx.data.toList from HTX.out.symm]
                      · rw [← HM13.out.fl, show x.rc.text = tx.data.toList from HTX.out.symm]
                        intro hm
                        obtain ⟨t, ht, he⟩ := List.mem_map.1 hm
                        exact HMEM.out (by rw [← ba_inj he]; exact ht))⟩
      · obtain rfl : i = n := by omega
        go_wp2_with fail
        go_meet
        case rel => exact ⟨st, fs, vc, vf, m, S1, Lib.hid (by have := HM.out; rwa [List.take_of_length_le (by rw [← hn.out]; exact Nat.le_refl _)] at this), Lib.hid (by have := HRUN.out; rwa [List.take_of_length_le (by rw [hRn.out]; exact Nat.le_refl _)] at this)⟩
  case rest =>
    obtain ⟨st, fs, vc, vf, m, S1, HM, HRUN⟩ := hcut
    obtain ⟨w4, rfl⟩ : ∃ W : World, W = wc := ⟨_, rfl⟩
    clear HM0 x0
    have HINV : Hid (Res.Inv rl n st) := Lib.hid (Res.run_inv n (by rw [hRn.out]; exact Nat.le_refl _) st (by rw [List.take_of_length_le (by rw [hRn.out]; exact Nat.le_refl _), hRn.out]; exact HRUN.out))
    have HRUN' : Hid (Res.run rl 0 (Res.start rl.length) = .ok st) := Lib.hid (by rw [hRn.out]; exact HRUN.out)
    obtain ⟨Ao, no, co, rfl, hno, hnco, hcom⟩ := HM.out.opn.form
    have HNO : Hid (no = st.opn.length) := Lib.hid (by rw [hno.out, List.length_map])
    have hno64 : no ≤ 64 := by rw [HNO.out]; exact HINV.out.few
    clear hno
    rcases Nat.eq_zero_or_pos no with hn0 | hn0
    · subst hn0
      have HO0 : Hid (st.opn.length = 0) := Lib.hid HNO.out.symm
      clear hnco hcom hno64
      have x0 : w4.cell? ⟨w.heap.size, 0, none⟩ = some (.slice A n c) := (cell_of_row w4 _ 0 _ _ (0, 0) HM.out.lbox).trans rfl
      go_wp2_with fail
      go_loopg [183] n (fun k v183 wr => ∃ (i : Nat) (to' : List Int), i ≤ n ∧ v183 = .int .i64 i ∧ k = n - i ∧ Hid (RM w A n c q wr m l { st with «to» := to' } fs (.slice Ao 0 co) vc vf S1) ∧ Hid (Res.link n st (rl.take i) 0 st.«to» = .ok to'))
      case atStart => exact ⟨0, st.«to», Nat.zero_le _, rfl, rfl, HM, Lib.hid rfl⟩
      case round =>
        obtain ⟨i, to', hi, rfl, hk, HMr, HLK⟩ := hrel
        have HK := Lib.hid hk
        clear hk x0
        by_cases hin : i < n
        · have hil : i < l.length := by rw [← hn.out]; exact hin
          have hirl : i < rl.length := by rw [hRn.out]; exact hin
          obtain ⟨x, hx⟩ : ∃ x, x = l[i] := ⟨_, rfl⟩
          have HX := Lib.hid hx
          have HRX : Hid (rl[i] = x.rc) := Lib.hid (by rw [hAt.out i hil hirl, hx])
          obtain ⟨g, o, s, rfl, hg, hcs, hwf, hcl⟩ := cm_at hl.out (Same.refl S w) hil
          rw [← hx] at hcs hwf hcl
          obtain ⟨X, hXX⟩ : ∃ X, X = (ccells x s).toArray := ⟨_, rfl⟩
          have HCX : Hid (CmX X x s) := Lib.hid ⟨by rw [hXX], hwf⟩
          have HCS : Hid (CellsAt wr g (o + i * 272) (ccells x s)) := Lib.hid (hcs.keep hg (Same.of_below HMr.out.b hS.out))
          have HENV : Hid (∀ W, Below w.heap.size w W → CmL W S x s) := Lib.hid fun W hW => hcl.keep (fun _ h => h) (Same.of_below hW hS.out)
          have HIL := Lib.hid hil
          have HIRL := Lib.hid hirl
          clear hXX hcs hwf hcl hg hx
          go_upto_block 5 with fail
          go_cut [] from 185 to 224 (fun wc => ∃ (to2 : List Int), Hid (RM w (some ⟨g, o, none⟩) n c q wc m l { st with «to» := to2 } fs (.slice Ao 0 co) vc vf S1) ∧ Hid (Res.link n st (rl.take (i + 1)) 0 st.«to» = .ok to2))
          case rest =>
            obtain ⟨to2, HM2, HL2⟩ := hcut
            go_wp2_with fail
            go_roundg (n - (i + 1))
            case measure => have := HK.out; omega
            case rel => exact ⟨i + 1, to2, by omega, by go_num, rfl, HM2, HL2⟩
          case first =>
            go_upto_region 40 with (first
              | (refine wpList_load_cml HCS.out HCX.out (.tmp 186) rfl rfl rfl ?_)
              | (refine wpList_alloc_cm rfl rfl Z HZ.out ?_)
              | (refine wpList_store_cm rfl (.tmp 16) (.tmp 187) rfl wr.heap.size X rfl rfl HCX.out 44 Z (heap_alloc_new _ _) HZS.out ?_))
            obtain ⟨w1, hw1⟩ : ∃ W, W = (wr.alloc (.cells Z 44)).setRow wr.heap.size X := ⟨_, rfl⟩
            obtain ⟨cb, hcb⟩ : ∃ cb, cb = wr.heap.size := ⟨_, rfl⟩
            rw [← hw1, ← hcb]
            have HB1 : Hid (Below wr.heap.size wr w1) := Lib.hid (by rw [hw1]; exact below_setRow ((Below.refl _ wr).alloc (Nat.le_refl _) _) (Nat.le_refl _) _)
            have HC1 : Hid (w1.heap[cb]? = some (.cells X 44 (0, 0))) := Lib.hid (by rw [hw1, hcb]; exact setRow_heap _ _ _ _ _ _ (heap_alloc_new _ _))
            have HM1 := Lib.hid (HMr.out.far HB1.out)
            clear hw1 hcb
            obtain ⟨b1, hb1⟩ : ∃ b, (x.name == 98) = b := ⟨_, rfl⟩
            obtain ⟨b2, hb2⟩ : ∃ b, (x.name == 116) = b := ⟨_, rfl⟩
            have e1 : ((x.name.toNat : Int) != 98) = !b1 := by rw [bne]; exact congrArg (!·) ((u8_eq x.name 98 (by omega)).trans hb1)
            have e2 : ((x.name.toNat : Int) != 116) = !b2 := by rw [bne]; exact congrArg (!·) ((u8_eq x.name 116 (by omega)).trans hb2)
            have HLP : Hid (x.rc.leaps = (b1 || b2)) := Lib.hid (by rw [← hb1, ← hb2]; rfl)
            have y7 : w1.cell? ⟨cb, 7, none⟩ = some (.int .u8 x.name.toNat) := (cm_cell HC1.out HCX.out (by omega)).trans rfl
            clear hb1 hb2
            try simp only [Act.put]
            go_cut [195] from 188 to 195 (fun v195 wc => v195 = .bool (!(b1 || b2)) ∧ Hid (wc = w1))
            case first =>
              cases b1
              all_goals cases b2
              all_goals go_wp2_with fail
              all_goals go_meet
              all_goals exact ⟨rfl, Lib.hid rfl⟩
            case rest =>
              obtain ⟨rfl, HW1⟩ := hcut
              have hw1 := HW1.out.symm
              subst hw1
              clear e1 e2 y7
              obtain ⟨lp, hlp⟩ : ∃ b, b = (b1 || b2) := ⟨_, rfl⟩
              rw [← hlp] at HLP ⊢
              clear hlp
              cases lp
              · go_wp2_with fail
                go_meet
                case rel => exact ⟨to', HM1, Lib.hid (by rw [Res.link_take HIRL.out HLK.out, HRX.out, if_neg (by rw [HLP.out]; exact Bool.false_ne_true)])⟩
              · obtain ⟨tx, htx⟩ : ∃ tx : ByteArray, tx = ⟨x.text.toArray⟩ := ⟨_, rfl⟩
                have HTX : Hid (tx.data.toList = x.text) := Lib.hid (by rw [htx])
                have HTS : Hid (tx.size ≤ maxLen) := Lib.hid (by
                  have h1 := (HENV.out w (Below.refl _ _)).text.len
                  have h2 := (HENV.out w (Below.refl _ _)).text.2.1
                  rw [htx]; show x.text.toArray.size ≤ _; rw [List.size_toArray]; omega)
                have hcv : (convert 39 9 (.slice s.A3 x.text.length s.c3)).run Tryd.prog w1 = .ok (.string tx) w1 := by
                  rw [htx]
                  exact run_bytes_string w1 39 5 9 Tryd.underlying39 Tryd.underlying5 Tryd.underlying9 S s.A3 _ s.c3 x.text rfl (HENV.out w1 HM1.out.b).text
                clear htx
                have y9 : w1.cell? ⟨cb, 9, none⟩ = some (.slice s.A3 x.text.length s.c3) := (cm_cell HC1.out HCX.out (by omega)).trans rfl
                have hlk := HM1.out.lab.look_ok (t := 55) (e := 3) Tryd.underlying9 Tryd.underlying55 (Tryd.zeroValue3 _) tx HTS.out
                rw [show ({ st with «to» := to' } : Res.St).labels = st.labels from rfl, HTX.out, Res.labV] at hlk
                have x31 : w1.cell? ⟨w.heap.size + 3, 1, none⟩ = some (.slice (some ⟨w.heap.size + 2, 0, none⟩) n n) := (cell_of_row w1 _ 1 _ _ (0, 0) HM1.out.p).trans rfl
                obtain ⟨tv, xt⟩ : ∃ tv, w1.cell? ⟨w.heap.size + 2, i, none⟩ = some tv := by
                  rw [cell_of_row w1 _ i _ _ (0, 0) HM1.out.tob]
                  exact ⟨_, Array.getElem?_eq_getElem (by rw [intCells_size, HM1.out.tl]; exact hin)⟩
                have fr : w1.frozen? ⟨w.heap.size + 2, i, none⟩ = false := by simp [World.frozen?, HM1.out.tob]
                have x01 : w1.cell? ⟨w.heap.size, 0, none⟩ = some (.slice (some ⟨g, o, none⟩) n c) := (cell_of_row w1 _ 0 _ _ (0, 0) HM1.out.lbox).trans rfl
                obtain ⟨tl, htl⟩ : ∃ tl, tl = x.text.length := ⟨_, rfl⟩
                have HTL := Lib.hid htl
                rw [← htl] at y9 hcv
                clear htl
                rcases Nat.eq_zero_or_pos tl with ht0 | ht0
                · subst ht0
                  have HM3 := Lib.hid (HM1.out.put i (n : Int) ⟨by omega, by omega⟩)
                  go_wp2_with fail
                  go_meet
                  case rel => exact ⟨_, HM3, Lib.hid (by
                    rw [Res.link_take HIRL.out HLK.out, HRX.out, if_pos HLP.out, if_pos (by show x.text.isEmpty = true; rw [List.isEmpty_iff]; exact List.eq_nil_of_length_eq_zero HTL.out.symm)])⟩
                · have hne : ((tl : Int) == 0) = false := by simp; omega
                  have HTE : Hid (x.rc.text.isEmpty = false) := Lib.hid (by
                    show x.text.isEmpty = false
                    cases hq : x.text.isEmpty with
                    | false => rfl
                    | true => rw [List.isEmpty_iff] at hq; have := HTL.out; rw [hq] at this; simp at this; omega)
                  clear ht0
                  obtain ⟨lo, hlo⟩ : ∃ lo, lo = Res.labOf st.labels x.text := ⟨_, rfl⟩
                  have HLO := Lib.hid hlo
                  rw [← hlo] at hlk
                  clear hlo
                  cases lo with
                  | none =>
                    have HERR : Hid (Res.resolve rl = .error (75, i)) := Lib.hid (Res.resolve_link_err HRUN'.out HO0.out (by rw [hRn.out]; exact Res.link_err' HIRL.out HLK.out (by rw [HRX.out]; exact HLP.out) (by rw [HRX.out]; exact HTE.out) (by rw [HRX.out]; exact HLO.out.symm)))
                    simp only [Option.isSome_none, Option.getD_none] at hlk
                    go_wp2_with (first
                      | (go_at_call 18; refine (HM1.out.call hl hS hn HIL.out 75).mono ?_; rintro _ w9 ⟨rfl, hb9⟩; have HB9 := Lib.hid hb9; clear hb9)
                      | (refine wpList_store_nil rfl (.tmp 4) (.tmp 217) rfl (w.heap.size + 1) rfl rfl (HM1.out.fault HB9.out).2.1 ?_))
                    rw [Exit.noGoto_ret]
                    exact bodyPost_ret (prog_result _ _ (w.heap.size + 1) _ _ _ _ _ _ (HM1.out.fault HB9.out).2.2 rfl rfl rfl) rfl (ResAns.err (HM1.out.fault HB9.out).1 HIL.out (by rw [← HRL.out]; exact HERR.out) rfl)
                  | some k =>
                    have hkn : k ≤ n := by
                      obtain ⟨j, hj, -, -, e⟩ := Res.find_lab HINV.out (show st.find x.text = some k from HLO.out.symm)
                      have := hRn.out; omega
                    have HM3 := Lib.hid (HM1.out.put i (k : Int) ⟨by omega, by omega⟩)
                    simp only [Option.isSome_some, Option.getD_some] at hlk
                    go_wp2_with fail
                    go_meet
                    case rel => exact ⟨_, HM3, Lib.hid (by
                      rw [Res.link_take HIRL.out HLK.out, HRX.out, if_pos HLP.out, if_neg (by rw [HTE.out]; exact Bool.false_ne_true), show st.find x.rc.text = some k from HLO.out.symm])⟩
        · obtain rfl : i = n := by omega
          obtain ⟨A1, n1, c1, rfl, -, -, -⟩ := HMr.out.cmds.form
          obtain ⟨A3, n3, c3, rfl, -, -, -⟩ := HMr.out.files.form
          have z0 : wr.cell? ⟨w.heap.size + 3, 0, none⟩ = some (.slice A1 n1 c1) := (cell_of_row wr _ 0 _ _ (0, 0) HMr.out.p).trans rfl
          have z1 : wr.cell? ⟨w.heap.size + 3, 1, none⟩ = some (.slice (some ⟨w.heap.size + 2, 0, none⟩) i i) := (cell_of_row wr _ 1 _ _ (0, 0) HMr.out.p).trans rfl
          have z2 : wr.cell? ⟨w.heap.size + 3, 2, none⟩ = some (.slice A3 n3 c3) := (cell_of_row wr _ 2 _ _ (0, 0) HMr.out.p).trans rfl
          have z3 : wr.cell? ⟨w.heap.size + 3, 3, none⟩ = some (.bool q) := (cell_of_row wr _ 3 _ _ (0, 0) HMr.out.p).trans rfl
          have HRES : Hid (Res.resolve rl = .ok (to', st.files)) := Lib.hid (Res.resolve_link HRUN'.out HO0.out (by
            have := HLK.out
            rw [List.take_of_length_le (by rw [hRn.out]; exact Nat.le_refl _)] at this
            rw [hRn.out]; exact this))
          go_wp2_with (first
            | (refine wpList_store_prog rfl (.tmp 4) (.tmp 226) rfl (w.heap.size + 1) #[.slice A1 n1 c1, .slice (some ⟨w.heap.size + 2, 0, none⟩) i i, .slice A3 n3 c3, .bool q] rfl rfl 28 nilProg HMr.out.res rfl rfl (by simp [Value.oneCell']) ?_))
          rw [Exit.noGoto_ret]
          obtain ⟨q1, q2, q3, q4, q5⟩ := HMr.out.done #[.slice A1 n1 c1, .slice (some ⟨w.heap.size + 2, 0, none⟩) i i, .slice A3 n3 c3, .bool q]
          have hil := hn.out
          refine bodyPost_ret (prog_result _ _ (w.heap.size + 1) _ _ _ _ _ _ q2 rfl rfl rfl) rfl ?_
          subst q3 q4
          exact ResAns.good q1 (by rw [← HRL.out]; exact HRES.out) (by rw [← hil]) (q5 hil)
    · obtain ⟨k, hk⟩ : ∃ k, k = st.opn[0]'(by rw [← HNO.out]; exact hn0) := ⟨_, rfl⟩
      have hkn : k < l.length := by
        have := (HINV.out.opn 0 (by rw [← HNO.out]; exact hn0)).1
        rw [← hk, hn.out] at this; exact this
      obtain ⟨A', c', he, hso⟩ := HM.out.opn.slice
      simp only [Value.slice.injEq] at he
      obtain ⟨rfl, -, rfl⟩ := he
      obtain ⟨go, oo, rfl, xo⟩ := num_at22 hso (Same.refl _ _) (i := 0) (by rw [List.length_map, ← HNO.out]; exact hn0)
      rw [List.getElem_map, ← hk, Nat.add_zero] at xo
      have HKN := Lib.hid hkn
      have HERR : Hid (Res.resolve rl = .error (76, k)) := Lib.hid (by
        rw [Res.resolve_open HRUN'.out (by rw [← HNO.out]; omega)]
        rw [hk, List.getD_eq_getElem?_getD, List.getElem?_eq_getElem (by rw [← HNO.out]; exact hn0)]
        rfl)
      clear hk hso
      go_wp2_with (first
        | (go_at_call 18; refine (HM.out.call hl hS hn HKN.out 76).mono ?_; rintro _ w9 ⟨rfl, hb9⟩; have HB9 := Lib.hid hb9; clear hb9)
        | (refine wpList_store_nil rfl (.tmp 4) (.tmp 178) rfl (w.heap.size + 1) rfl rfl (HM.out.fault HB9.out).2.1 ?_))
      rw [Exit.noGoto_ret]
      exact bodyPost_ret (prog_result _ _ (w.heap.size + 1) _ _ _ _ _ _ (HM.out.fault HB9.out).2.2 rfl rfl rfl) rfl (ResAns.err (HM.out.fault HB9.out).1 HKN.out (by rw [← HRL.out]; exact HERR.out) rfl)
end Go.Proofs.YtnpideapdjomgaaDoor
