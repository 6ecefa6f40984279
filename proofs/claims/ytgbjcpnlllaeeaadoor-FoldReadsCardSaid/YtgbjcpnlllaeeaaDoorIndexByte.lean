/- Go's own bytes.IndexByte: its walk, in the reading of a slice as a list. No conditions. -/
import Derived.Test.YtgbjcpnlllaeeaaDoorProg
import Derived.Test.YtgbjcpnlllaeeaaDoorMem
import Derived.WalkKit
import Derived.WalkSpells
import Derived.Lib.BytesEntry
import Derived.Lib.Hide
namespace Go.Proofs.YtgbjcpnlllaeeaaDoor
open Go.RowKit

theorem bytesOf_back (l : List UInt8) : Lib.bytesOf (l.map fun b => (b.toNat : Int)) = l := by
  unfold Lib.bytesOf
  rw [List.map_map]
  conv => rhs; rw [← List.map_id l]
  exact List.map_congr_left fun b _ => by simp
set_option maxHeartbeats 1000000 in
set_option maxRecDepth 100000 in
theorem indexByte_any (g o n c : Nat) (l : List UInt8) (x : UInt8) (w : World) (hn : l.length = n) (hc : ∀ i (h : i < l.length), w.cell? ⟨g, o + i, none⟩ = some (.int .u8 l[i].toNat)) :
    Calls Tryd.prog 48 #[.slice (some ⟨g, o, none⟩) n c, .int .u8 x.toNat] w fun e w' => e = .returned (.int .i64 (Lib.indexByte l x)) ∧ w' = w := by
  have hrun := Lib.run_indexByteSlice (P := Tryd.prog) w g o n c (l.map fun b => (b.toNat : Int)) (by simpa using hn) (fun i hi => by
    rw [hc i (by omega), List.getD_eq_getElem?_getD, List.getElem?_map, List.getElem?_eq_getElem (by omega)]
    rfl) (x.toNat : Int)
  rw [bytesOf_back] at hrun
  have hx : ((x.toNat : Int)).toNat.toUInt8 = x := by simp
  rw [hx] at hrun
  clear hc hx
  go_enter Tryd.func48, Tryd.ntmps48
  go_wp2
  rw [run_callFunc_extern Tryd.func53 (by kernel_rfl) (by kernel_rfl) (by kernel_rfl) (e := Extern.BytealgIndexByte.indexByte) (by kernel_rfl), hrun]
  simp only [Result.andThen]
  rw [Oper.upon_value]
  go_wp2
  go_ret
  exact ⟨rfl, rfl⟩
end Go.Proofs.YtgbjcpnlllaeeaaDoor
