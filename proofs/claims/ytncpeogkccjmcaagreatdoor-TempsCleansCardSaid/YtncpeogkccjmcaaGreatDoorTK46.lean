/- Texts that lead to the claim, one behind the other: A list of bytes of one's own: the walk of galleyref00.CopyBytes. Condition: at most 2^47 bytes. | Copies of the test's: files, faults, numbers: the walks of galleyref00.CopyFile, CopyFiles, CopyFaults, CopyInts. Condition: the reach. -/
import Derived.Test.YtncpeogkccjmcaaGreatDoorProg
import Derived.Test.YtncpeogkccjmcaaGreatDoorTK6
import Derived.WalkKit
import Derived.WalkSpells
import Derived.Lib.Hide
import Derived.Test.YtncpeogkccjmcaaGreatDoorTK16
import Derived.Test.YtncpeogkccjmcaaGreatDoorTK17
import Derived.Test.YtncpeogkccjmcaaGreatDoorTK15
import Derived.Deep.MidRow
import Derived.Test.YtncpeogkccjmcaaGreatDoorTK20
namespace Go.Proofs.YtncpeogkccjmcaaGreatDoor
open Go.RowKit

set_option maxHeartbeats 400000 in
theorem copyBytes (A : Option Addr) (n c : Nat) (l : List UInt8) (w : World) (S : Blocks) (hn : n = l.length) (hl : SliceAt Rep.byte w S A c l) (hb : n ≤ 140737488355328) :
    Calls Tryz.prog 37 #[.slice A n c] w fun e w' => ∃ v, e = .returned v ∧ Own Rep.byte 5 w' w.heap.size nob v l ∧ Below w.heap.size w w' := by
  have HN := Lib.hid hn
  have HL := Lib.hid hl
  clear hn hl
  go_enter Tryz.func37, Tryz.ntmps37
  go_wp2_with (at_builtin; refine wpList_append_bytes _ rfl (.tmp 4) (.tmp 5) 67 rfl w.heap.size 5 stBytes _ [] rfl (Own.nil _ _ _ _) _ _ _ _ _ rfl HL.out HN.out.symm (by simp; omega) (Nat.le_refl _) ?_; intro v1 w1 hown1 hg1 hat1)
  go_ret
  exact ⟨_, rfl, by simpa using hown1, below_own (Below.refl _ _) (Own.nil Rep.byte 5 _ _) hg1 (Nat.le_refl _)⟩
end Go.Proofs.YtncpeogkccjmcaaGreatDoor
namespace Go.Proofs.YtncpeogkccjmcaaGreatDoor
open Go.RowKit Go.ChangeShapes Go.WideShapes Go.Deep

theorem copyB29 (A : Option Addr) (n c : Nat) (l : List UInt8) (w : World) (S : Blocks) (hn : n = l.length) (hl : SliceAt Rep.byte w S A c l) (hb : n ≤ 140737488355328) :
    Calls Tryz.prog 37 #[.slice A n c] w fun e w' => ∃ A' c', e = .returned (.slice A' n c') ∧ n ≤ c' ∧ c' ≤ 9223372036854775807 ∧ Hid (Own Rep.byte 5 w' w.heap.size nob (.slice A' n c') l) ∧ Hid (Below w.heap.size w w') := by
  refine (copyBytes A n c l w S hn hl hb).mono ?_
  rintro e w' ⟨v, rfl, ho, hbw⟩
  obtain ⟨A', n', c', rfl, h1, h2, h3⟩ := ho.form
  obtain rfl : n' = n := by rw [h1.out, hn]
  exact ⟨A', c', rfl, h2, h3, Lib.hid ho, Lib.hid hbw⟩
/-- A file as it is handed in; the value of its bytes beside it. -/
abbrev TNc := Disk.Fin_ × Value
def Rep.finV : Rep TNc where
  n := 4
  is := fun _ _ cs x => cs = [sv x.1.name, x.2, .int .i64 x.1.syn, .bool x.1.bad] ∧ x.1.name.length ≤ maxLen ∧ (Lit.int .i64 x.1.syn).wf = true ∧ x.2.oneCell' = true
  size := by rintro _ _ _ _ ⟨rfl, _⟩; rfl
  keep := by rintro _ _ _ _ _ _ ⟨rfl, h⟩ _ _; exact ⟨rfl, h⟩
  one := by rintro _ _ _ x ⟨rfl, _, _, h⟩; simp [Value.oneCell', sv]; exact h
structure RowsF (w : World) (base : Nat) (l : List TNc) : Prop where
  own : ∀ x ∈ l, Own Rep.byte 5 w base nob x.2 x.1.bytes
theorem RowsF.far {w w' : World} {base : Nat} {l : List TNc} (h : RowsF w base l) (hb : Below w.heap.size w w') : RowsF w' base l := ⟨fun x hx => (h.own x hx).far hb⟩
theorem RowsF.grown {w w' : World} {base : Nat} {l : List TNc} (h : RowsF w base l) {row : Option Nat} (hg : w.grownBy w' row) (hr : ∀ b, row = some b → ∀ cs f, w.heap[b]? ≠ some (.cells cs 5 f)) : RowsF w' base l :=
  ⟨fun x hx => (h.own x hx).mono hg (by
    cases e : x.2.ownBlock with
    | none => exact .inl rfl
    | some b =>
      right
      intro e2
      obtain ⟨cur, hc⟩ := (h.own x hx).content e
      exact hr b e2.symm _ _ hc) fun _ h => h.elim⟩
theorem RowsF.snoc {w : World} {base B2 : Nat} {l : List TNc} {x : TNc} (h : RowsF w base l) (hx : Own Rep.byte 5 w B2 nob x.2 x.1.bytes) (hB : base ≤ B2) : RowsF w base (l ++ [x]) := by
  refine ⟨fun y hy => ?_⟩
  rcases List.mem_append.1 hy with hy | hy
  · exact h.own y hy
  · rw [List.mem_singleton.1 hy]; exact hx.low hB
/-- Files in memory of the call's own. -/
def FinsOwn (w : World) (base : Nat) (v : Value) (l : List Disk.Fin_) : Prop := ∃ vs, vs.map (·.1) = l ∧ Own Rep.finV 78 w base nob v vs ∧ RowsF w base vs
theorem FinsOwn.slice {w : World} {base : Nat} {A : Option Addr} {n c : Nat} {l : List Disk.Fin_} (h : FinsOwn w base (.slice A n c) l) : n = l.length ∧ SliceAt Rep.fin w (btw base w.heap.size) A c l := by
  obtain ⟨vs, rfl, hown, hrows⟩ := h
  obtain ⟨A', c', he, hs⟩ := hown.slice
  simp only [Value.slice.injEq] at he
  obtain ⟨rfl, rfl, rfl⟩ := he
  refine ⟨by simp, by simpa using hs.1, hs.2.1, hs.2.2.1, fun i hi => ?_⟩
  have hil : i < vs.length := by simpa using hi
  obtain ⟨g, o, cs, e, hg, hc, rfl, h1, h2, h3⟩ := hs.at_ hil
  have hx : vs[i] ∈ vs := List.getElem_mem hil
  have ho := hrows.own _ hx
  obtain ⟨B, cb, hB, hsb⟩ := ho.slice
  have hli : (vs.map (·.1))[i] = (vs[i]).1 := by simp
  refine ⟨g, o, _, e, ?_, hc, ?_⟩
  · rcases hg with ⟨a, b, -⟩ | h
    · exact ⟨a, b⟩
    · exact h.elim
  · rw [hli]
    refine ⟨B, cb, by rw [hB], hsb.up fun b hb => ?_, h1, h2⟩
    rcases hb with ⟨a, b, -⟩ | h
    · exact ⟨a, b⟩
    · exact h.elim
theorem info_file : (Tryz.prog.info? 78).map (·.size) = some 4 := by kernel_rfl
/-- A file stored whole. -/
theorem wpList_store_file {ops : Array Oper} {rest : List Oper} {op : Oper} {a : Act} {Q : Exit → Act → World → Prop} (hgd : op.guard = none) (x y : Operand) (ho : op.op = .store 78 x y)
    {wr : World} (G : Nat) (u0 u1 u2 u3 v0 v1 v2 v3 : Value) (h : wr.heap[G]? = some (.cells #[u0, u1, u2, u3] 78 (0, 0))) (hx : a.eval x = .pointer (some ⟨G, 0, none⟩))
    (hy : a.eval y = .agg #[v0, v1, v2, v3]) (h1 : (#[v0, v1, v2, v3] : Array Value).all (·.oneCell') = true)
    (hK : ∀ w', Hid (w'.heap[G]? = some (.cells #[v0, v1, v2, v3] 78 (0, 0))) → Hid (wr.grownBy w' (some G)) → wpList Tryz.prog ops Q rest (a.put op.dst undef) w') : wpList Tryz.prog ops Q (op :: rest) a wr := by
  refine wpList_store_mid hgd 78 x y ho G 0 _ hx hy (fun j hj => ⟨?_, by simp [World.frozen?, h]⟩) info_file h1 (hK _ (Lib.hid ?_) (Lib.hid (setCells_grown G _ wr _)))
  · have hj4 : j < 4 := hj
    rw [Nat.zero_add, cell_of_row wr G j _ _ (0, 0) h, Array.getElem?_eq_getElem (by simp; omega)]
    rfl
  · simp [World.setCells, World.setCell, Array.getElem?_modify, h]
theorem wpList_load_file {ops : Array Oper} {rest : List Oper} {op : Oper} {a : Act} {Q : Exit → Act → World → Prop} (hgd : op.guard = none) (x : Operand) (ho : op.op = .load 78 x) {wr : World}
    (b o : Nat) (v0 v1 v2 v3 : Value) (hx : a.eval x = .pointer (some ⟨b, o, none⟩)) (hc : CellsAt wr b o [v0, v1, v2, v3]) (h : wpList Tryz.prog ops Q rest (a.put op.dst (.agg #[v0, v1, v2, v3])) wr) : wpList Tryz.prog ops Q (op :: rest) a wr :=
  wpList_load_mid hgd 78 x ho b o hx [v0, v1, v2, v3] _ hc Tryz.underlying78 rfl (by kernel_rfl) h
theorem cells_of_row {wr : World} {b : Nat} {v0 v1 v2 v3 : Value} {t : TypeId} (h : wr.heap[b]? = some (.cells #[v0, v1, v2, v3] t (0, 0))) : CellsAt wr b 0 [v0, v1, v2, v3] := fun j u hj => by
  rw [Nat.zero_add, cell_of_row wr b j _ _ (0, 0) h]
  simpa using hj
section
variable {w : World}
theorem file_result {fn : Func} {p : Tmp} {tmps : Array Value} (h : fn.results = #[.cell p 78]) (g : Nat) (u : World) (cs : Array Value) (fr : Nat × Nat) (hp : tmps.getD p undef = .pointer (some ⟨g, 0, none⟩)) (hg : u.heap[g]? = some (.cells cs 78 fr)) (hs : cs.size = 4) :
    (results fn tmps).run Tryz.prog u = .ok (.agg cs) u :=
  results_cell_row h tmps u g 78 cs fr _ hp hg Tryz.underlying78 rfl (by rw [hs]; kernel_rfl)
set_option maxRecDepth 100000 in
set_option maxHeartbeats 4000000 in
theorem copyFile_any (f : Disk.Fin_) (P : Option Addr) (n pc : Nat) (S : Blocks) (nm : ByteArray) (hn : Hid (n = f.bytes.length)) (hl : Hid (SliceAt Rep.byte w S P pc f.bytes)) (hS : Hid (∀ b, S b → b < w.heap.size)) (hb : n ≤ 140737488355328) :
    Calls Tryz.prog 23 #[.agg #[.string nm, .slice P n pc, .int .i64 f.syn, .bool f.bad]] w fun e w' => ∃ A' c', e = .returned (.agg #[.string nm, .slice A' n c', .int .i64 f.syn, .bool f.bad]) ∧ n ≤ c' ∧ c' ≤ 9223372036854775807 ∧ Own Rep.byte 5 w' w.heap.size nob (.slice A' n c') f.bytes ∧ Below w.heap.size w w' := by
  obtain ⟨x, hx⟩ : ∃ x, x = f.syn := ⟨_, rfl⟩
  obtain ⟨bd, hbd⟩ : ∃ x, x = f.bad := ⟨_, rfl⟩
  rw [← hx, ← hbd]
  clear hbd
  have HX : Hid (x = f.syn) := Lib.hid hx
  clear hx
  have hnc : n ≤ pc := by rw [hn.out]; exact hl.out.len
  have hcm := hl.out.max
  obtain ⟨W, hW⟩ : ∃ W, W = (w.alloc (.cells #[.string nm, .slice P n pc, .int .i64 x, .bool bd] 78)).alloc (.cells #[.string ⟨#[]⟩, .slice none 0 0, .int .i64 0, .bool false] 78) := ⟨_, rfl⟩
  have hbW : Below w.heap.size w W := by rw [hW]; exact Below.alloc (Below.alloc (Below.refl _ _) (Nat.le_refl _) _) (by simp) _
  have h0 : W.heap[w.heap.size]? = some (.cells #[.string nm, .slice P n pc, .int .i64 x, .bool bd] 78 (0, 0)) := by rw [hW]; exact (Below.heap_alloc _ _ _ (by simp)).trans (heap_alloc_new _ _)
  have h1 : W.heap[w.heap.size + 1]? = some (.cells #[.string ⟨#[]⟩, .slice none 0 0, .int .i64 0, .bool false] 78 (0, 0)) := by
    rw [hW]
    have := heap_alloc_new (w.alloc (.cells #[.string nm, .slice P n pc, .int .i64 x, .bool bd] 78)) (.cells #[.string ⟨#[]⟩, .slice none 0 0, .int .i64 0, .bool false] 78)
    rwa [World.size_alloc] at this
  have hsz : W.heap.size = w.heap.size + 2 := by rw [hW]; simp
  have HCB : Hid (Calls Tryz.prog 37 #[.slice P n pc] W fun e w' => ∃ A' c', e = .returned (.slice A' n c') ∧ n ≤ c' ∧ c' ≤ 9223372036854775807 ∧ Hid (Own Rep.byte 5 w' W.heap.size nob (.slice A' n c') f.bytes) ∧ Hid (Below W.heap.size W w')) := Lib.hid (copyB29 P n pc f.bytes W _ hn.out (hl.out.keep (fun _ h => h) (Same.of_below hbW hS.out)) hb)
  go_enter Tryz.func23, Tryz.ntmps23
  go_wp2_with fail
  rw [← hW]
  have H0 := Lib.hid h0
  have H1 := Lib.hid h1
  have HSZ := Lib.hid hsz
  have HBW := Lib.hid hbW
  have hk1 : W.cell? ⟨w.heap.size, 1, none⟩ = some (.slice P n pc) := (cell_of_row _ _ 1 _ _ (0, 0) h0).trans rfl
  clear hW h0 h1 hsz hbW
  go_wp2_with fail
  refine HCB.out.mono ?_
  rintro e w2 ⟨A', c', rfl, hc1, hc2, HO, HB⟩
  have h02 : w2.heap[w.heap.size]? = some (.cells #[.string nm, .slice P n pc, .int .i64 x, .bool bd] 78 (0, 0)) := (HB.out.block _ (by rw [HSZ.out]; omega)).trans H0.out
  have h12 : w2.heap[w.heap.size + 1]? = some (.cells #[.string ⟨#[]⟩, .slice none 0 0, .int .i64 0, .bool false] 78 (0, 0)) := (HB.out.block _ (by rw [HSZ.out]; omega)).trans H1.out
  have hk2 : w2.cell? ⟨w.heap.size, 1, none⟩ = some (.slice P n pc) := (cell_of_row _ _ 1 _ _ (0, 0) h02).trans rfl
  have hf2 : w2.frozen? ⟨w.heap.size, 1, none⟩ = false := by simp [World.frozen?, h02]
  have H03 : Hid ((w2.setCell ⟨w.heap.size, 1, none⟩ (.slice A' n c')).heap[w.heap.size]? = some (.cells #[.string nm, .slice A' n c', .int .i64 x, .bool bd] 78 (0, 0))) := Lib.hid (by simp [World.setCell, Array.getElem?_modify, h02])
  have H13 : Hid ((w2.setCell ⟨w.heap.size, 1, none⟩ (.slice A' n c')).heap[w.heap.size + 1]? = some (.cells #[.string ⟨#[]⟩, .slice none 0 0, .int .i64 0, .bool false] 78 (0, 0))) := Lib.hid ((Below.heap_setCell _ _ _ _ (by simp)).trans h12)
  have hgr : w2.grownBy (w2.setCell ⟨w.heap.size, 1, none⟩ (.slice A' n c')) (some w.heap.size) := setCells_grown w.heap.size [.slice A' n c'] w2 1
  have HO3 : Hid (Own Rep.byte 5 (w2.setCell ⟨w.heap.size, 1, none⟩ (.slice A' n c')) W.heap.size nob (.slice A' n c') f.bytes) := Lib.hid (HO.out.mono hgr (by
    cases e : (Value.slice A' n c').ownBlock with
    | none => exact .inl rfl
    | some b => right; have := (HO.out.block_lt e).1; rw [HSZ.out] at this; simp; omega) fun _ h => h.elim)
  have HB3 : Hid (Below w.heap.size w (w2.setCell ⟨w.heap.size, 1, none⟩ (.slice A' n c'))) := Lib.hid ((HBW.out.trans (HB.out.mono (by rw [HSZ.out]; omega))).setCell (p := ⟨w.heap.size, 1, none⟩) (Nat.le_refl _) _)
  have hsz3 : (w2.setCell ⟨w.heap.size, 1, none⟩ (.slice A' n c')).heap.size = w2.heap.size := by simp [World.setCell]
  have HSZ3 : Hid (w.heap.size + 2 ≤ w2.heap.size) := Lib.hid (by rw [← HSZ.out]; exact HB.out.size)
  have HS3 := Lib.hid hsz3
  clear h02 h12 hsz3 hgr hk1
  go_wp2_with (first
    | (refine wpList_load_file rfl (.tmp 1) rfl w.heap.size 0 (.string nm) (.slice A' n c') (.int .i64 x) (.bool bd) rfl (cells_of_row H03.out) ?_)
    | (refine wpList_store_file rfl (.tmp 2) (.tmp 7) rfl (w.heap.size + 1) _ _ _ _ (.string nm) (.slice A' n c') (.int .i64 x) (.bool bd) H13.out rfl rfl (by simp [Value.oneCell']) ?_; intro w5 HF5 HG5))
  refine bodyPost_ret (file_result rfl (w.heap.size + 1) w5 _ (0, 0) rfl HF5.out rfl) rfl ?_
  refine ⟨A', c', rfl, hc1, hc2, ?_, HB3.out.grown HG5.out (by rw [HS3.out]; have := HSZ3.out; omega) fun k hk => by cases hk; omega⟩
  refine (HO3.out.mono HG5.out (by
    cases e : (Value.slice A' n c').ownBlock with
    | none => exact .inl rfl
    | some b => right; have := (HO.out.block_lt e).1; rw [HSZ.out] at this; simp; omega) fun _ h => h.elim).low (by rw [HSZ.out]; omega)
set_option maxRecDepth 100000 in
set_option maxHeartbeats 2000000 in
theorem copyFaults_any (A : Option Addr) (n c : Nat) (l : List (Int × Int)) (S : Blocks) (hn : Hid (n = l.length)) (hl : Hid (SliceAt Rep.fault w S A c l)) (hb : n ≤ 8796093022208) :
    Calls Tryz.prog 41 #[.slice A n c] w fun e w' => ∃ A' c', e = .returned (.slice A' n c') ∧ n ≤ c' ∧ c' ≤ 9223372036854775807 ∧ SliceAt Rep.fault w' (btw w.heap.size w'.heap.size) A' c' l ∧ Below w.heap.size w w' := by
  have hnc : n ≤ c := by rw [hn.out]; exact hl.out.len
  have hcm := hl.out.max
  go_enter Tryz.func41, Tryz.ntmps41
  go_wp2_with (at_builtin; refine wpList_append_Own _ rfl (.tmp 4) (.tmp 5) 38 rfl Rep.fault w.heap.size 123 16 stFault nob (.slice none 0 0) [] rfl (Own.nil _ _ _ _) S A c l (by rw [← hn.out]; rfl) hl.out nob (fun _ h => h.elim) (fun _ h => h) (fun _ _ h => h) (by have := hn.out; simp; omega) (by have := hn.out; simp; omega) (Nat.le_refl _) ?_; intro v1 w1 hown1 hg1 hat1)
  go_ret
  obtain ⟨A', n', c', rfl, hn', hnc', hcm'⟩ := hown1.form
  obtain ⟨A2, c2, he, hs⟩ := hown1.slice
  simp only [Value.slice.injEq] at he
  obtain ⟨rfl, -, rfl⟩ := he
  have hnn : n' = n := by rw [hn'.out, hn.out]; simp
  subst hnn
  exact ⟨A', c', rfl, hnc', hcm', hs.up fun b hb => by
    rcases hb with ⟨h1, h2, -⟩ | h
    · exact ⟨h1, h2⟩
    · exact h.elim, below_own (Below.refl _ _) (Own.nil Rep.fault 123 _ _) hg1 (Nat.le_refl _)⟩
theorem stInt29 : SliceType Tryz.prog 68 3 1 8 := SliceType.mk' (z := .int .i64 0) Tryz.underlying68 (by kernel_rfl) rfl (by omega)
set_option maxRecDepth 100000 in
set_option maxHeartbeats 2000000 in
theorem copyInts_any (A : Option Addr) (n c : Nat) (l : List Int) (S : Blocks) (hn : Hid (n = l.length)) (hl : Hid (SliceAt (Rep.int .i64) w S A c l)) (hb : n ≤ 8796093022208) :
    Calls Tryz.prog 44 #[.slice A n c] w fun e w' => ∃ A' c', e = .returned (.slice A' n c') ∧ n ≤ c' ∧ c' ≤ 9223372036854775807 ∧ SliceAt (Rep.int .i64) w' (btw w.heap.size w'.heap.size) A' c' l ∧ Below w.heap.size w w' := by
  have hnc : n ≤ c := by rw [hn.out]; exact hl.out.len
  have hcm := hl.out.max
  go_enter Tryz.func44, Tryz.ntmps44
  go_wp2_with (at_builtin; refine wpList_append_Own _ rfl (.tmp 4) (.tmp 5) 68 rfl (Rep.int .i64) w.heap.size 3 8 stInt29 nob (.slice none 0 0) [] rfl (Own.nil _ _ _ _) S A c l (by rw [← hn.out]; rfl) hl.out nob (fun _ h => h.elim) (fun _ h => h) (fun _ _ h => h) (by have := hn.out; simp; omega) (by have := hn.out; simp; omega) (Nat.le_refl _) ?_; intro v1 w1 hown1 hg1 hat1)
  go_ret
  obtain ⟨A', n', c', rfl, hn', hnc', hcm'⟩ := hown1.form
  obtain ⟨A2, c2, he, hs⟩ := hown1.slice
  simp only [Value.slice.injEq] at he
  obtain ⟨rfl, -, rfl⟩ := he
  have hnn : n' = n := by rw [hn'.out, hn.out]; simp
  subst hnn
  exact ⟨A', c', rfl, hnc', hcm', hs.up fun b hb => by
    rcases hb with ⟨h1, h2, -⟩ | h
    · exact ⟨h1, h2⟩
    · exact h.elim, below_own (Below.refl _ _) (Own.nil (Rep.int .i64) 3 _ _) hg1 (Nat.le_refl _)⟩
/-- A file copied onto what has been copied. -/
theorem fins_step {w1 wr w10 w3 : World} {f : Disk.Fin_} {vs : List TNc} {A3 A' : Option Addr} {n3 c3 m c' : Nat} {v3 : Value} (hv : Own Rep.finV 78 wr w1.heap.size nob (.slice A3 n3 c3) vs) (hrb : RowsF wr w1.heap.size vs) (hb : Below w1.heap.size w1 wr)
    (hown : Own Rep.byte 5 w10 wr.heap.size nob (.slice A' m c') f.bytes) (hb10 : Below wr.heap.size wr w10) (ob : Obj) (hg3 : (w10.alloc ob).grownBy w3 (Value.slice A3 n3 c3).ownBlock) (hown3 : Own Rep.finV 78 w3 w1.heap.size nob v3 (vs ++ [(f, .slice A' m c')])) :
    ∃ A5 n5 c5 vv, v3 = .slice A5 n5 c5 ∧ n5 ≤ c5 ∧ c5 ≤ 9223372036854775807 ∧ Hid (n5 = (vs ++ [(f, vv)]).length) ∧ Hid (Own Rep.finV 78 w3 w1.heap.size nob (.slice A5 n5 c5) (vs ++ [(f, vv)])) ∧ Hid (RowsF w3 w1.heap.size (vs ++ [(f, vv)])) ∧ Hid (Below w1.heap.size w1 w3) := by
  obtain ⟨A5, n5, c5, rfl, hn5, hnc5, hcm5⟩ := hown3.form
  have hs1 := hb.size
  have hs2 := hb10.size
  refine ⟨A5, n5, c5, .slice A' m c', rfl, hnc5, hcm5, hn5, Lib.hid hown3, Lib.hid ?_, Lib.hid ?_⟩
  · have h1 := (hrb.far hb10).snoc (x := (f, .slice A' m c')) hown hs1
    refine (h1.far (Below.alloc (Below.refl _ w10) (Nat.le_refl _) ob)).grown hg3 fun b hb cs f hc => ?_
    obtain ⟨cur, hcur⟩ := ((hv.far hb10).alloc ob).content hb
    rw [hcur] at hc
    injection hc with hc
    injection hc with _ e
    exact absurd e (by decide)
  · exact below_own ((hb.trans (hb10.mono hs1)).alloc (Nat.le_trans hs1 hs2) _) ((hv.far hb10).alloc ob) hg3 (by simp; omega)
set_option maxRecDepth 100000 in
set_option maxHeartbeats 4000000 in
theorem copyFiles_any (A : Option Addr) (n c : Nat) (fs : List Disk.Fin_) (S : Blocks) (hn : Hid (n = fs.length)) (hl : Hid (SliceAt Rep.fin w S A c fs)) (hS : Hid (∀ b, S b → b < w.heap.size)) (hbs : Hid (∀ f ∈ fs, f.bytes.length ≤ 140737488355328)) (hb : n ≤ 1099511627776) :
    Calls Tryz.prog 6 #[.slice A n c] w fun e w' => ∃ A' c', e = .returned (.slice A' n c') ∧ n ≤ c' ∧ c' ≤ 9223372036854775807 ∧ SliceAt Rep.fin w' (btw w.heap.size w'.heap.size) A' c' fs ∧ Below w.heap.size w w' := by
  have hnc : n ≤ c := by rw [hn.out]; exact hl.out.len
  have hcm := hl.out.max
  go_enter Tryz.func6, Tryz.ntmps6
  go_wp2_with fail
  go_loopg [3, 4] n (fun q v i wr => ∃ (j : Nat) (A3 : Option Addr) (n3 c3 : Nat) (vs : List TNc), q = n - j ∧ j ≤ n ∧ i = .int .i64 j ∧ v = .slice A3 n3 c3 ∧ n3 ≤ c3 ∧ c3 ≤ 9223372036854775807 ∧ Hid (n3 = vs.length) ∧ Hid (vs.map (·.1) = fs.take j) ∧ Hid (Own Rep.finV 78 wr w.heap.size nob (.slice A3 n3 c3) vs) ∧ Hid (RowsF wr w.heap.size vs) ∧ Hid (Below w.heap.size w wr))
  case atStart => exact ⟨0, none, 0, 0, [], by omega, by omega, rfl, rfl, Nat.le_refl _, by omega, Lib.hid rfl, Lib.hid rfl, Lib.hid (Own.nil _ _ _ _), Lib.hid ⟨by simp⟩, Lib.hid (Below.refl _ _)⟩
  case round =>
    obtain ⟨j, A3, n3, c3, vs, rfl, hj, rfl, rfl, hnc3, hcm3, HN3, HVS, HV, HRB, HB⟩ := hrel
    have hvl : Hid (vs.length = j) := Lib.hid (by
      have := congrArg List.length HVS.out
      rw [List.length_map, List.length_take, ← hn.out] at this
      omega)
    by_cases hjn : j < n
    · have hjl : j < fs.length := by rw [← hn.out]; exact hjn
      obtain ⟨f, hfe⟩ : ∃ f, f = fs[j] := ⟨_, rfl⟩
      have hbf := hbs.out _ (List.getElem_mem hjl)
      obtain ⟨g, o, cs, rfl, hg, hcs, P, pc, rfl, hP, hN1, hN2⟩ := (hl.out.keep (fun _ h => h) (Same.of_below HB.out hS.out)).at_ (i := j) hjl
      rw [← hfe] at hcs hP hN1 hN2 hbf
      obtain ⟨m, hm⟩ : ∃ m, m = f.bytes.length := ⟨_, rfl⟩
      obtain ⟨nm, hnm⟩ : ∃ x : ByteArray, x = ⟨f.name.toArray⟩ := ⟨_, rfl⟩
      rw [show sv f.name = .string nm from congrArg Value.string hnm.symm, ← hm, show Rep.fin.n = 4 from rfl] at hcs
      have HCF := Lib.hid (copyFile_any (w := wr) f P m pc _ nm (Lib.hid hm) (Lib.hid hP) (Lib.hid fun b hb => Nat.lt_of_lt_of_le (hS.out b hb) HB.out.size) (by omega))
      have HCS := Lib.hid hcs
      have HNM := Lib.hid hnm
      have HFE := Lib.hid hfe
      have HN1 := Lib.hid hN1
      have HN2 := Lib.hid hN2
      clear hcs hP hN1 hN2 hm hnm hfe hbf hg
      go_wp2_with (first
        | (refine wpList_load_file rfl (.tmp 14) rfl g (o + j * 4) _ _ _ _ rfl HCS.out ?_)
        | (go_at_call 23; refine HCF.out.mono ?_; rintro e w10 ⟨A', c', rfl, hc1, hc2, hown, hb10⟩; have HOWN := Lib.hid hown; have HB10 := Lib.hid hb10; clear hown hb10)
        | (at_builtin; refine wpList_append_Own _ rfl (.tmp 11) (.tmp 17) 22 rfl Rep.finV w.heap.size 78 56 stFile nob (.slice A3 n3 c3) vs rfl ((HV.out.far HB10.out).alloc _) _ (some ⟨_, 0, none⟩) 1 [(f, .slice A' m c')] rfl (SliceAt.new1 Rep.finV _ _ _ (f, .slice A' m c') nob ⟨by rw [HNM.out]; rfl, HN1.out, HN2.out, rfl⟩ (fun _ h => h.elim)) nob (fun _ h => h.elim) (fun _ h => h) (fun _ _ h => h) (by have := hvl.out; simp <;> omega) (by have := hvl.out; simp <;> omega) (by have := HB.out.size; have := HB10.out.size; simp <;> omega) ?_; intro v3 w3 hown3 hg3 hat3; have HOWN3 := Lib.hid hown3; have HG3 := Lib.hid hg3; clear hown3 hg3 hat3))
      obtain ⟨A5, n5, c5, vv, rfl, hnc5, hcm5, HN5, HOWN5, HRB5, HB5⟩ := fins_step HV.out HRB.out HB.out HOWN.out HB10.out _ HG3.out HOWN3.out
      go_wp2_with fail
      go_roundg (n - (j + 1))
      case measure => omega
      case rel => exact ⟨j + 1, A5, n5, c5, vs ++ [(f, vv)], by omega, by omega, by go_num, rfl, hnc5, hcm5, HN5, Lib.hid (by rw [List.map_append, HVS.out, List.take_succ_eq_append_getElem hjl, HFE.out]; rfl), HOWN5, HRB5, HB5⟩
    · obtain rfl : j = n := by omega
      go_wp2_with fail
      go_ret
      have hfo : FinsOwn wr w.heap.size (.slice A3 n3 c3) fs := ⟨vs, by rw [HVS.out, List.take_of_length_le (by rw [← hn.out]; exact Nat.le_refl _)], HV.out, HRB.out⟩
      have hs := hfo.slice
      have hn3 : n3 = j := by rw [HN3.out, hvl.out]
      subst hn3
      exact ⟨A3, c3, rfl, hnc3, hcm3, hs.2, HB.out⟩
end
end Go.Proofs.YtncpeogkccjmcaaGreatDoor
