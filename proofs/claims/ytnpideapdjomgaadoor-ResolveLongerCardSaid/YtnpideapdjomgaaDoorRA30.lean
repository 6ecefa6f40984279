/- Texts that lead to the claim, one behind the other: utf8.DecodeRune at a slice: the kit's contract, laid at this program; what files' names are looked at with. No conditions. Printed by gen/lays7.py. -/
import Derived.Test.YtnpideapdjomgaaDoorRA28
import Derived.Test.YtnpideapdjomgaaDoorRA29
import Derived.Shelf.Spec.DecodeRune
import Derived.Lib.IndexEntry
namespace Go.Proofs.YtnpideapdjomgaaDoor
open Go.RowKit Go.Shelf Go.Deep Go.ChangeShapes Go.WideShapes

def decRen : Ren := ⟨fun | 32 => 73 | 49 => 81 | n => n,
  fun | 0 => 0 | 3 => 3 | 4 => 4 | 5 => 5 | 21 => 21 | 25 => 119 | 30 => 39 | 33 => 112 | 66 => 41 | 68 => 123 | 69 => 124 | n => n,
  fun | 2 => 1 | 3 => 2 | n => n⟩
theorem decLays : Go.Proofs.Lays7.n32 Tryd.prog decRen := {
  mixed := by kernel_rfl
  f32 := Tryd.func73.trans (congrArg some (by kernel_rfl))
  f49 := Tryd.func81.trans (congrArg some (by kernel_rfl))
  t0 := Tryd.underlying0
  a0 := Tryd.isAgg0
  z0 := Tryd.sizeOf0
  v0 := Tryd.zeroValue0
  i0 := by kernel_rfl
  t3 := Tryd.underlying3
  a3 := Tryd.isAgg3
  z3 := Tryd.sizeOf3
  v3 := Tryd.zeroValue3
  i3 := by kernel_rfl
  t4 := Tryd.underlying4
  a4 := Tryd.isAgg4
  z4 := Tryd.sizeOf4
  v4 := Tryd.zeroValue4
  i4 := by kernel_rfl
  t5 := Tryd.underlying5
  a5 := Tryd.isAgg5
  z5 := Tryd.sizeOf5
  v5 := Tryd.zeroValue5
  i5 := by kernel_rfl
  t21 := Tryd.underlying21
  a21 := Tryd.isAgg21
  z21 := Tryd.sizeOf21
  v21 := Tryd.zeroValue21
  i21 := by kernel_rfl
  t25 := Tryd.underlying119
  a25 := Tryd.isAgg119
  z25 := Tryd.sizeOf119
  v25 := Tryd.zeroValue119
  i25 := by kernel_rfl
  t30 := Tryd.underlying39
  a30 := Tryd.isAgg39
  z30 := Tryd.sizeOf39
  v30 := Tryd.zeroValue39
  i30 := by kernel_rfl
  t33 := Tryd.underlying112
  a33 := Tryd.isAgg112
  z33 := Tryd.sizeOf112
  v33 := Tryd.zeroValue112
  i33 := by kernel_rfl
  t66 := Tryd.underlying41
  a66 := Tryd.isAgg41
  z66 := Tryd.sizeOf41
  t68 := Tryd.underlying123
  a68 := Tryd.isAgg123
  z68 := Tryd.sizeOf123
  v68 := Tryd.zeroValue123
  i68 := by kernel_rfl
  t69 := Tryd.underlying124
  a69 := Tryd.isAgg124
  z69 := Tryd.sizeOf124
  v69 := Tryd.zeroValue124
  i69 := by kernel_rfl
  g2 := by kernel_rfl
  g3 := by kernel_rfl }

/-- What the library's variables hold. -/
structure Env22 (w : World) : Prop where
  tabs : Lib.Utf8Tabs 1 2 w
  most : ∃ m : Int, w.cell? ⟨0, 0, none⟩ = some (.int .i64 m)
theorem Env22.below {w w' : World} (h : Env22 w) (hb : Below w.heap.size w w') : Env22 w' :=
  ⟨Utf8Tabs_below h.tabs hb, let ⟨m, hm⟩ := h.most; ⟨m, (hb.cell (World.block_lt_of_cell? w _ hm)).trans hm⟩⟩
theorem decode_any {b off cap : Nat} {s : ByteArray} {w : World} (hT : Hid (Env22 w)) (hp : Hid (∀ j, j < s.size → w.cell? ⟨b, off + j, none⟩ = some (.int .u8 (s.get! j).toNat))) :
    Calls Tryd.prog 73 #[.slice (some ⟨b, off, none⟩) s.size cap] w fun e w' => e = .returned (.tuple #[.int .i32 (Lib.decodeGo s).1, .int .i64 (Lib.decodeGo s).2]) ∧ Below w.heap.size w w' :=
  Any7.utf8_DecodeRune decLays s b off cap w hT.out.tabs hp.out
end Go.Proofs.YtnpideapdjomgaaDoor
