/- Texts that lead to the claim, one behind the other: How much a disk has done: the walk of (disk.Disk).Done. No conditions. | What Files tells, read as files that are handed in. No conditions. | Files compared, where they are the same: the walks of galleyref00.EqFile, EqFiles. No conditions. -/
import Derived.Test.YtncpeogkccjmcaaGreatDoorTK14
import Derived.Test.YtncpeogkccjmcaaGreatDoorTK17
import Derived.Test.YtncpeogkccjmcaaGreatDoorTK16
import Derived.Test.YtncpeogkccjmcaaGreatDoorTK39
import Derived.StillTailTactics
namespace Go.Proofs.YtncpeogkccjmcaaGreatDoor
open Go.RowKit Go.ChangeShapes Go.WideShapes Go.Deep

section
variable {w w' : World} {F G : Blocks} {d : Nat} {s : Disk.St} {loc : Nat → Nat} {blk : Nat → Option Nat} {bn bo : Nat} {rowv : Value} {pA : Option Addr} {pC : Nat}
set_option maxRecDepth 100000 in
theorem done_any (HA : Hid (DiskAt w F d s)) : Calls Tryz.prog 34 #[.pointer (some ⟨d, 0, none⟩)] w fun e w' => e = .returned (.int .i64 s.done) ∧ w = w' := by
  obtain ⟨loc, blk, bn, bo, rowv, pA, pC, hB⟩ := HA.out
  have c3 := hB.cell 3 _ rfl
  have c8 := hB.cell 8 _ rfl
  clear hB
  go_enter Tryz.func34, Tryz.ntmps34
  go_wp2_with (go_at_call 84; refine (ours_d c3).mono ?_; rintro e w1 ⟨rfl, rfl⟩)
  go_ret
  exact ⟨rfl, rfl⟩
end
end Go.Proofs.YtncpeogkccjmcaaGreatDoor
namespace Go.Proofs.YtncpeogkccjmcaaGreatDoor
open Go.RowKit Go.ChangeShapes Go.WideShapes Go.Deep

/-- A told file as one that is handed in. -/
def Disk.toFin (x : Disk.Nm × Disk.Nd) : Disk.Fin_ := ⟨x.1, x.2.bytes, x.2.syn, x.2.bad⟩
theorem FilesOwn.slice {w : World} {base : Nat} {A : Option Addr} {n c : Nat} {l : List (Disk.Nm × Disk.Nd)} (h : FilesOwn w base (.slice A n c) l) : n = l.length ∧ SliceAt Rep.fin w (btw base w.heap.size) A c (l.map Disk.toFin) := by
  obtain ⟨vs, hvs, hown, hrows⟩ := h
  obtain ⟨A', c', he, hs⟩ := hown.slice
  simp only [Value.slice.injEq] at he
  obtain ⟨rfl, rfl, rfl⟩ := he
  have hlen : vs.length = l.length := by rw [← hvs]; simp
  refine ⟨hlen, by simpa [← hlen] using hs.1, hs.2.1, hs.2.2.1, fun i hi => ?_⟩
  have hil : i < vs.length := by rw [hlen]; simpa using hi
  obtain ⟨g, o, cs, e, hg, hc, rfl, h1, h2, h3⟩ := hs.at_ hil
  have hx : vs[i] ∈ vs := List.getElem_mem hil
  have ho := hrows.own _ hx
  obtain ⟨B, cb, hB, hsb⟩ := ho.slice
  have hli : (l.map Disk.toFin)[i] = Disk.toFin (vs[i]).1 := by
    subst hvs
    simp
  refine ⟨g, o, _, e, ?_, hc, ?_⟩
  · rcases hg with ⟨a, b, -⟩ | h
    · exact ⟨a, b⟩
    · exact h.elim
  · rw [hli]
    refine ⟨B, cb, by rw [hB]; rfl, hsb.up fun b hb => ?_, h1, ?_⟩
    · rcases hb with ⟨a, b, -⟩ | h
      · exact ⟨a, b⟩
      · exact h.elim
    · have : (0 : Int) ≤ (Disk.toFin (vs[i]).1).syn := by simp [Disk.toFin]
      have h9 : (Disk.toFin (vs[i]).1).syn ≤ 9223372036854775807 := by simp only [Disk.toFin]; omega
      simp [Lit.wf, IntKind.min, IntKind.max, IntKind.signed, IntKind.bits]; omega
end Go.Proofs.YtncpeogkccjmcaaGreatDoor
namespace Go.Proofs.YtncpeogkccjmcaaGreatDoor
open Go.RowKit Go.ChangeShapes Go.WideShapes Go.Deep

def fObj (nm : ByteArray) (v : Value) (x : Int) (b : Bool) : Obj := .cells #[.string nm, v, .int .i64 x, .bool b] 78
theorem four_of {wr : World} {b : Nat} {v0 v1 v2 v3 : Value} {t : TypeId} (h : wr.heap[b]? = some (.cells #[v0, v1, v2, v3] t (0, 0))) :
    wr.cell? ⟨b, 0, none⟩ = some v0 ∧ wr.cell? ⟨b, 1, none⟩ = some v1 ∧ wr.cell? ⟨b, 2, none⟩ = some v2 ∧ wr.cell? ⟨b, 3, none⟩ = some v3 :=
  ⟨(cell_of_row _ _ 0 _ _ (0, 0) h).trans rfl, (cell_of_row _ _ 1 _ _ (0, 0) h).trans rfl, (cell_of_row _ _ 2 _ _ (0, 0) h).trans rfl, (cell_of_row _ _ 3 _ _ (0, 0) h).trans rfl⟩
section
variable {w : World}
set_option maxRecDepth 100000 in
theorem eqFile_yes (nm : ByteArray) (bs : List UInt8) (x : Int) (b : Bool) (A B : Option Addr) (m ca cb : Nat) (S S' : Blocks) (hm : Hid (m = bs.length)) (h1 : Hid (SliceAt Rep.byte w S A ca bs)) (h2 : Hid (SliceAt Rep.byte w S' B cb bs)) (s1 : Hid (∀ b, S b → b < w.heap.size)) (s2 : Hid (∀ b, S' b → b < w.heap.size)) :
    Calls Tryz.prog 99 #[.agg #[.string nm, .slice A m ca, .int .i64 x, .bool b], .agg #[.string nm, .slice B m cb, .int .i64 x, .bool b]] w fun e w' => e = .returned (.bool true) ∧ Below w.heap.size w w' := by
  obtain ⟨W, hW⟩ : ∃ W, W = (w.alloc (.cells #[.string nm, .slice A m ca, .int .i64 x, .bool b] 78)).alloc (.cells #[.string nm, .slice B m cb, .int .i64 x, .bool b] 78) := ⟨_, rfl⟩
  have hb : Below w.heap.size w W := by rw [hW]; exact ((Below.refl w.heap.size w).alloc (Nat.le_refl _) _).alloc (by simp) _
  have x1 : W.heap[w.heap.size]? = some (.cells #[.string nm, .slice A m ca, .int .i64 x, .bool b] 78 (0, 0)) := by
    rw [hW]
    exact (((Below.refl _ (w.alloc _)).alloc (Nat.le_refl _) _).block _ (by simp)).trans (heap_alloc_new _ _)
  have x2 : W.heap[w.heap.size + 1]? = some (.cells #[.string nm, .slice B m cb, .int .i64 x, .bool b] 78 (0, 0)) := by
    rw [hW]
    have := heap_alloc_new (w.alloc (.cells #[.string nm, .slice A m ca, .int .i64 x, .bool b] 78)) (.cells #[.string nm, .slice B m cb, .int .i64 x, .bool b] 78)
    simpa using this
  have HE : Hid (Calls Tryz.prog 102 #[.slice A m ca, .slice B m cb] W fun e w' => e = .returned (.bool true) ∧ ∃ n, w' = W.drewN n) := Lib.hid (by
    have k := eqBytes A B ca cb bs bs W S S' (h1.out.keep (fun _ h => h) (Same.of_below hb s1.out)) (h2.out.keep (fun _ h => h) (Same.of_below hb s2.out))
    rw [← hm.out] at k
    refine k.mono ?_
    rintro e w' ⟨rfl, q⟩
    exact ⟨by simp, q⟩)
  obtain ⟨a0, a1, a2, a3⟩ := four_of x1
  obtain ⟨b0, b1, b2, b3⟩ := four_of x2
  have HB := Lib.hid hb
  clear h1 h2 s1 s2 hb x1 x2
  go_enter Tryz.func99, Tryz.ntmps99
  go_wp2_with fail
  rw [← hW]
  clear hW
  refine HE.out.mono ?_
  rintro e w' ⟨rfl, n, rfl⟩
  go_wp2_with fail
  go_ret
  exact ⟨rfl, HB.out.trans ((below_dr _ _).mono HB.out.size)⟩
set_option maxRecDepth 100000 in
theorem eqFiles_yes (l : List Disk.Fin_) (A B : Option Addr) (n ca cb : Nat) (S S' : Blocks) (hn : Hid (n = l.length)) (h1 : Hid (SliceAt Rep.fin w S A ca l)) (h2 : Hid (SliceAt Rep.fin w S' B cb l)) (s1 : Hid (∀ b, S b → b < w.heap.size)) (s2 : Hid (∀ b, S' b → b < w.heap.size)) :
    Calls Tryz.prog 58 #[.slice A n ca, .slice B n cb] w fun e w' => e = .returned (.bool true) ∧ Below w.heap.size w w' := by
  have hc1 : n ≤ ca := by rw [hn.out]; exact h1.out.len
  have hm1 := h1.out.max
  have hc2 : n ≤ cb := by rw [hn.out]; exact h2.out.len
  have hm2 := h2.out.max
  go_enter Tryz.func58, Tryz.ntmps58
  go_wp2_with fail
  go_loopg [5] n (fun q i wr => ∃ j : Nat, q = n - j ∧ j ≤ n ∧ i = .int .i64 j ∧ Hid (Below w.heap.size w wr))
  case atStart => exact ⟨0, rfl, by omega, rfl, Lib.hid (Below.refl _ _)⟩
  case round =>
    obtain ⟨j, rfl, hj, rfl, HB⟩ := hrel
    by_cases hjn : j < n
    · have hjl : j < l.length := by rw [← hn.out]; exact hjn
      obtain ⟨g, o, cs, rfl, hg, hcs, P, pc, rfl, hP, hN, -⟩ := h1.out.at_ (i := j) hjl
      obtain ⟨g', o', cs, rfl, hg', hcs', Q, qc, rfl, hQ, -, -⟩ := h2.out.at_ (i := j) hjl
      obtain ⟨nm, hnm⟩ : ∃ nm : ByteArray, nm = ⟨(l[j]).name.toArray⟩ := ⟨_, rfl⟩
      obtain ⟨m, hm⟩ : ∃ m, m = (l[j]).bytes.length := ⟨_, rfl⟩
      obtain ⟨x, hx⟩ : ∃ x, x = (l[j]).syn := ⟨_, rfl⟩
      obtain ⟨b, hb⟩ : ∃ b, b = (l[j]).bad := ⟨_, rfl⟩
      rw [show sv (l[j]).name = .string nm from congrArg Value.string hnm.symm, ← hm, ← hx, ← hb] at hcs hcs'
      obtain ⟨a0, a1, a2, a3⟩ := (hcs.below HB.out (s1.out g hg)).four
      obtain ⟨b0, b1, b2, b3⟩ := (hcs'.below HB.out (s2.out g' hg')).four
      rw [show Rep.fin.n = 4 from rfl] at a0 a1 a2 a3 b0 b1 b2 b3
      have HE : Hid (Calls Tryz.prog 99 #[.agg #[.string nm, .slice P m pc, .int .i64 x, .bool b], .agg #[.string nm, .slice Q m qc, .int .i64 x, .bool b]] wr.drew fun e w' => e = .returned (.bool true) ∧ Below wr.heap.size wr w') := Lib.hid (by
        refine (eqFile_yes (w := wr.drew) nm (l[j]).bytes x b P Q m pc qc S S' (Lib.hid hm) (Lib.hid (hP.keep (fun _ h => h) (Same.of_below HB.out s1.out))) (Lib.hid (hQ.keep (fun _ h => h) (Same.of_below HB.out s2.out))) (Lib.hid fun b hb => Nat.lt_of_lt_of_le (s1.out b hb) HB.out.size) (Lib.hid fun b hb => Nat.lt_of_lt_of_le (s2.out b hb) HB.out.size)).mono ?_
        rintro e w' ⟨rfl, h⟩
        exact ⟨rfl, ⟨h.os, h.tape, h.output, h.size, h.block⟩⟩)
      clear hcs hcs' hP hQ hN hnm hm hx hb hg hg'
      go_wp2_with fail
      go_still_tail 8, (by kernel_rfl)
      go_wp2_with fail
      refine HE.out.mono ?_
      rintro e w2 ⟨rfl, hb2⟩
      have HB2 := Lib.hid (HB.out.trans (hb2.mono HB.out.size))
      clear hb2 a0 a1 a2 a3 b0 b1 b2 b3
      go_wp2_with fail
      go_roundg (n - (j + 1))
      case measure => omega
      case rel => exact ⟨j + 1, rfl, by omega, by go_num, HB2⟩
    · obtain rfl : j = n := by omega
      go_wp2_with fail
      go_ret
      exact ⟨rfl, HB.out⟩
end
end Go.Proofs.YtncpeogkccjmcaaGreatDoor
