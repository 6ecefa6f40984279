/- Texts that lead to the claim, one behind the other: Commands: what they are in memory (272 cells each, the last 256 the table). No conditions. -/
import Derived.Test.YtnpideapdjomgaaDoorRA4
import Derived.Test.YtnpideapdjomgaaDoorRA5
import Derived.Test.YtnpideapdjomgaaDoorRA6
import Derived.Deep.MidRow
namespace Go.Proofs.YtnpideapdjomgaaDoor
open Go.RowKit Go.ChangeShapes Go.WideShapes Go.Deep

structure Ad where
  kind : Int
  n : Int
  re : List Nd
structure Cm where
  a : Ad
  b : Ad
  not : Bool
  name : UInt8
  pos : Int
  text : List UInt8
  re : List Nd
  fill : List Piece
  count : Int
  all : Bool
  print : Bool
  write : Bool
  table : List UInt8

/-- What a command's cells hold, but for its lists' addresses. -/
structure CmS where
  A1 : Option Addr
  c1 : Nat
  A2 : Option Addr
  c2 : Nat
  A3 : Option Addr
  c3 : Nat
  A4 : Option Addr
  c4 : Nat
  A5 : Option Addr
  c5 : Nat
def hcells (c : Cm) (s : CmS) : List Value := [.int .i8 c.a.kind, .int .i64 c.a.n, .slice s.A1 c.a.re.length s.c1, .int .i8 c.b.kind, .int .i64 c.b.n, .slice s.A2 c.b.re.length s.c2, .bool c.not, .int .u8 c.name.toNat, .int .i64 c.pos,
  .slice s.A3 c.text.length s.c3, .slice s.A4 c.re.length s.c4, .slice s.A5 c.fill.length s.c5, .int .i64 c.count, .bool c.all, .bool c.print, .bool c.write]
structure Cm.wf (c : Cm) : Prop where
  ak : (Lit.int .i8 c.a.kind).wf = true
  an : (Lit.int .i64 c.a.n).wf = true
  bk : (Lit.int .i8 c.b.kind).wf = true
  bn : (Lit.int .i64 c.b.n).wf = true
  pos : (Lit.int .i64 c.pos).wf = true
  count : (Lit.int .i64 c.count).wf = true
  table : c.table.length = 256
/-- The lists of a command. -/
structure CmL (w : World) (S : Blocks) (c : Cm) (s : CmS) : Prop where
  a : SliceAt Rep.nd w S s.A1 s.c1 c.a.re
  b : SliceAt Rep.nd w S s.A2 s.c2 c.b.re
  text : SliceAt Rep.byte w S s.A3 s.c3 c.text
  re : SliceAt Rep.nd w S s.A4 s.c4 c.re
  fill : SliceAt Rep.piece w S s.A5 s.c5 c.fill
theorem CmL.keep {w w' : World} {S S' : Blocks} {c : Cm} {s : CmS} (h : CmL w S c s) (hS : ∀ b, S b → S' b) (hk : Same S w w') : CmL w' S' c s :=
  ⟨h.a.keep hS hk, h.b.keep hS hk, h.text.keep hS hk, h.re.keep hS hk, h.fill.keep hS hk⟩
def ccells (c : Cm) (s : CmS) : List Value := hcells c s ++ bcells c.table
theorem ccells_len {c : Cm} (s : CmS) (h : c.wf) : (ccells c s).length = 272 := by unfold ccells; rw [List.length_append, bcells_len, h.table]; rfl
theorem ccells_one (c : Cm) (s : CmS) : ∀ u ∈ ccells c s, u.oneCell' = true := by
  intro u hu
  unfold ccells at hu
  rcases List.mem_append.1 hu with h | h
  · unfold hcells at h
    simp only [List.mem_cons, List.mem_nil_iff, or_false] at h
    rcases h with rfl | rfl | rfl | rfl | rfl | rfl | rfl | rfl | rfl | rfl | rfl | rfl | rfl | rfl | rfl | rfl <;> simp [Value.oneCell']
  · exact bcells_one _ u h
def Rep.cm : Rep Cm where
  n := 272
  is := fun w S cs c => ∃ s, cs = ccells c s ∧ c.wf ∧ CmL w S c s
  size := by rintro _ _ _ _ ⟨s, rfl, h, _⟩; exact ccells_len s h
  keep := by rintro _ _ _ _ _ _ ⟨s, rfl, h, h2⟩ hS hk; exact ⟨s, rfl, h, h2.keep hS hk⟩
  one := by rintro _ _ _ _ ⟨s, rfl, _⟩; exact ccells_one _ s

/-- A command's cells, as an array that the walk does not look into. -/
structure CmX (X : Array Value) (c : Cm) (s : CmS) : Prop where
  list : X.toList = ccells c s
  wf : c.wf
theorem CmX.size {X : Array Value} {c : Cm} {s : CmS} (h : CmX X c s) : X.size = 272 := by rw [← Array.length_toList, h.list]; exact ccells_len s h.wf
theorem CmX.arr {X : Array Value} {c : Cm} {s : CmS} (h : CmX X c s) : X = (ccells c s).toArray := by rw [← h.list]
theorem CmX.get {X : Array Value} {c : Cm} {s : CmS} (h : CmX X c s) {k : Nat} (hk : k < 16) : X[k]? = (hcells c s)[k]? := by
  rw [← Array.getElem?_toList, h.list]
  unfold ccells
  rw [List.getElem?_append_left]
  exact hk
theorem CmX.tab {X : Array Value} {c : Cm} {s : CmS} (h : CmX X c s) : X.toList.drop 16 = bcells c.table := by
  rw [h.list]; rfl
/-- A command in a block of its own. -/
theorem cm_cell {w : World} {b : Nat} {X : Array Value} {c : Cm} {s : CmS} {t : TypeId} (hb : w.heap[b]? = some (.cells X t (0, 0))) (h : CmX X c s) {k : Nat} (hk : k < 16) : w.cell? ⟨b, k, none⟩ = (hcells c s)[k]? := by
  rw [cell_of_row w b k X t (0, 0) hb]
  exact h.get hk
theorem cm_range {w : World} {b : Nat} {X : Array Value} {t : TypeId} (hb : w.heap[b]? = some (.cells X t (0, 0))) : w.rangeAt b 0 X.toList := by
  intro j u hj
  rw [cell_of_row w b _ X t (0, 0) hb, Nat.zero_add, ← Array.getElem?_toList]
  exact hj
/-- A command of nothing. -/
def zcells : List Value := [.int .i8 0, .int .i64 0, .slice none 0 0, .int .i8 0, .int .i64 0, .slice none 0 0, .bool false, .int .u8 0, .int .i64 0, .slice none 0 0, .slice none 0 0, .slice none 0 0, .int .i64 0, .bool false, .bool false, .bool false] ++ List.replicate 256 (.int .u8 0)
theorem zcells_len : zcells.length = 272 := by unfold zcells; rw [List.length_append, List.length_replicate]; rfl
theorem cm_info : (Tryd.prog.info? 44).map (fun i => (i.zero, i.size, i.bytes)) = some (some (.agg zcells.toArray), 272, 440) := by kernel_rfl
theorem stCms : SliceType Tryd.prog 22 44 272 440 :=
  SliceType.mk' (z := .agg zcells.toArray) Tryd.underlying22 cm_info (by show zcells.toArray.size = 272; rw [List.size_toArray]; exact zcells_len) (by omega)
theorem cm_zero (w : World) : (zeroValue 44).run Tryd.prog w = .ok (.agg zcells.toArray) w := by
  have h : (Tryd.prog.info? 44).map (·.zero) = some (some (.agg zcells.toArray)) := by
    have := cm_info
    cases hx : Tryd.prog.info? 44 with
    | none => rw [hx] at this; cases this
    | some i => rw [hx] at this; simp only [Option.map_some, Option.some.injEq, Prod.mk.injEq] at this ⊢; exact this.1
  cases hx : Tryd.prog.info? 44 with
  | none => rw [hx] at h; cases h
  | some i =>
    rw [hx] at h
    simp only [Option.map_some, Option.some.injEq] at h
    simp [zeroValue, typeInfo, hx, h]
end Go.Proofs.YtnpideapdjomgaaDoor
