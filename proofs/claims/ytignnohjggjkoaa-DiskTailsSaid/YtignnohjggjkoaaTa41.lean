/- Texts that lead to the claim, one behind the other: The bound on what is handed in: the walk of galleylaw03.beyond. Condition: no part weighs more than the reach. -/
import Derived.Test.YtignnohjggjkoaaTa38
import Derived.Test.YtignnohjggjkoaaTa39
import Derived.BigQuiet
namespace Go.Proofs.Ytignnohjggjkoaa
open Go.RowKit Go.ChangeShapes Go.WideShapes Go.Deep

def wF (f : Disk.Fin_) : Nat := f.bytes.length + f.name.length
def wO (o : OpV) : Nat := o.b.length + o.name.length + o.dst.length + o.faults.length + o.keep.length
/-- As much as DOC.md's bound takes. -/
def Within (fs : List Disk.Fin_) (ops : List OpV) : Prop := fs.length + ops.length + (fs.map wF).sum + (ops.map wO).sum ≤ 2147483647
theorem sum_take {α : Type} (f : α → Nat) (l : List α) {j : Nat} (hj : j < l.length) : ((l.take (j + 1)).map f).sum = ((l.take j).map f).sum + f l[j] := by
  rw [List.take_succ_eq_append_getElem hj, List.map_append, List.sum_append]
  simp
theorem sum_mem {α : Type} (f : α → Nat) {l : List α} {x : α} (h : x ∈ l) : f x ≤ (l.map f).sum := by
  obtain ⟨a, b, rfl⟩ := List.append_of_mem h
  simp; omega
theorem Within.file {fs : List Disk.Fin_} {ops : List OpV} (h : Within fs ops) {f : Disk.Fin_} (hf : f ∈ fs) : f.bytes.length ≤ 2147483647 ∧ f.name.length ≤ 2147483647 := by
  have := sum_mem wF hf
  unfold Within at h
  unfold wF at this
  unfold wF at h
  omega
theorem Within.op {fs : List Disk.Fin_} {ops : List OpV} (h : Within fs ops) {o : OpV} (ho : o ∈ ops) : o.b.length ≤ 2147483647 ∧ o.name.length ≤ 2147483647 ∧ o.dst.length ≤ 2147483647 ∧ o.faults.length ≤ 2147483647 ∧ o.keep.length ≤ 2147483647 := by
  have := sum_mem wO ho
  unfold Within at h
  unfold wO at this
  unfold wO at h
  omega
theorem Within.len {fs : List Disk.Fin_} {ops : List OpV} (h : Within fs ops) : fs.length ≤ 2147483647 ∧ ops.length ≤ 2147483647 := by
  unfold Within at h
  omega
/-- No part weighs more than the reach. -/
def opReach (o : OpV) : Prop := o.b.length ≤ 281474976710656 ∧ o.name.length ≤ 281474976710656 ∧ o.dst.length ≤ 281474976710656 ∧ o.faults.length ≤ 281474976710656 ∧ o.keep.length ≤ 281474976710656
def finReach (f : Disk.Fin_) : Prop := f.name.length ≤ 281474976710656 ∧ f.bytes.length ≤ 281474976710656
section
variable {w : World}
theorem CellsAt.eight {w : World} {g o : Nat} {v0 v1 v2 v3 v4 v5 v6 v7 : Value} (h : CellsAt w g o [v0, v1, v2, v3, v4, v5, v6, v7]) : w.cell? ⟨g, o, none⟩ = some v0 ∧ w.cell? ⟨g, o + 1, none⟩ = some v1 ∧ w.cell? ⟨g, o + 2, none⟩ = some v2 ∧ w.cell? ⟨g, o + 3, none⟩ = some v3 ∧ w.cell? ⟨g, o + 4, none⟩ = some v4 ∧ w.cell? ⟨g, o + 5, none⟩ = some v5 ∧ w.cell? ⟨g, o + 6, none⟩ = some v6 ∧ w.cell? ⟨g, o + 7, none⟩ = some v7 :=
  ⟨h 0 _ rfl, h 1 _ rfl, h 2 _ rfl, h 3 _ rfl, h 4 _ rfl, h 5 _ rfl, h 6 _ rfl, h 7 _ rfl⟩
set_option maxRecDepth 100000 in
set_option maxHeartbeats 2000000 in
theorem beyond_any (fs : List Disk.Fin_) (ops : List OpV) (A B : Option Addr) (n c m d : Nat) (S : Blocks) (hn : Hid (n = fs.length)) (hm : Hid (m = ops.length)) (h1 : Hid (SliceAt Rep.fin w S A c fs)) (h2 : Hid (SliceAt Rep.op w S B d ops)) (hS : Hid (∀ b, S b → b < w.heap.size))
    (hf : Hid (∀ f ∈ fs, finReach f)) (ho : Hid (∀ o ∈ ops, opReach o)) (hnb : n ≤ 281474976710656) (hmb : m ≤ 281474976710656) :
    Calls Try.prog 18 #[.slice A n c, .slice B m d] w fun e w' => ∃ b, e = .returned (.bool b) ∧ (b = false → Within fs ops) ∧ Below w.heap.size w w' := by
  have hnc : n ≤ c := by rw [hn.out]; exact h1.out.len
  have hcm := h1.out.max
  have hmd : m ≤ d := by rw [hm.out]; exact h2.out.len
  have hdm := h2.out.max
  go_enter Try.func18, Try.ntmps18
  go_wp2_with fail
  go_loopg [5, 6] n (fun q v i wr => ∃ (j T : Nat), q = n - j ∧ j ≤ n ∧ i = .int .i64 j ∧ v = .int .i64 T ∧ Hid (T = n + m + ((fs.take j).map wF).sum) ∧ T ≤ 1125899906842624 ∧ Hid (Below w.heap.size w wr))
  case atStart => exact ⟨0, n + m, rfl, by omega, rfl, by go_num, Lib.hid (by simp), by omega, Lib.hid (Below.refl _ _)⟩
  case round =>
    obtain ⟨j, T, rfl, hj, rfl, rfl, HT, hTb, HB⟩ := hrel
    by_cases hgo : j < n ∧ T ≤ 2147483647
    · obtain ⟨hjn, hT⟩ := hgo
      have hjl : j < fs.length := by rw [← hn.out]; exact hjn
      obtain ⟨g, o, cs, rfl, hg, hcs, P, pc, rfl, hP, hN, -⟩ := h1.out.at_ (i := j) hjl
      obtain ⟨r1, r2⟩ := hf.out _ (List.getElem_mem hjl)
      obtain ⟨nm, hnm⟩ : ∃ nm : ByteArray, nm = ⟨(fs[j]).name.toArray⟩ := ⟨_, rfl⟩
      have hsz : nm.size = (fs[j]).name.length := by rw [hnm]; simp [ByteArray.size]
      obtain ⟨k, hk⟩ : ∃ k, k = (fs[j]).bytes.length := ⟨_, rfl⟩
      rw [show sv (fs[j]).name = .string nm from congrArg Value.string hnm.symm, ← hk] at hcs
      obtain ⟨a0, a1, a2, a3⟩ := (hcs.below HB.out (hS.out g hg)).four
      rw [show Rep.fin.n = 4 from rfl] at a0 a1 a2 a3
      have HTN : Hid (T + k + nm.size = n + m + ((fs.take (j + 1)).map wF).sum) := Lib.hid (by rw [sum_take wF fs hjl, HT.out, hsz, hk]; unfold wF; omega)
      rw [← hk] at r2
      rw [← hsz] at r1
      clear hcs hP hN hnm hk hsz hg a2 a3
      go_wp2_with fail
      go_region
      go_wp2_with fail
      go_roundg (n - (j + 1))
      case measure => omega
      case rel => exact ⟨j + 1, T + k + nm.size, rfl, by omega, by go_num, by go_num, HTN, by omega, Lib.hid HB.out.drew⟩
    · have hstop : (j < n ∧ 2147483647 < T) ∨ j = n := by omega
      clear hgo
      have HJ : Hid (T ≤ 2147483647 → T = fs.length + m + (fs.map wF).sum) := Lib.hid fun h => by
        have h1 := HT.out
        have hj : j = fs.length := by have := hn.out; omega
        rw [hj, List.take_length] at h1
        have := hn.out
        omega
      have HBR := Lib.hid HB.out
      rcases hstop with ⟨hjn, hT⟩ | rfl
      all_goals
        go_wp2_with fail
        go_loopg [5, 7] m (fun q v i wx => ∃ (k T2 : Nat), q = m - k ∧ k ≤ m ∧ i = .int .i64 k ∧ v = .int .i64 T2 ∧ Hid (T2 = T + ((ops.take k).map wO).sum) ∧ T2 ≤ 2251799813685248 ∧ Hid (Below w.heap.size w wx))
        case atStart => exact ⟨0, T, rfl, by omega, rfl, rfl, Lib.hid (by simp), by omega, HBR⟩
        case round =>
          obtain ⟨k, T2, rfl, hk, rfl, rfl, HT2, hTb2, HB2⟩ := hrel
          by_cases hgo : k < m ∧ T2 ≤ 2147483647
          · obtain ⟨hkm, hT2⟩ := hgo
            have hkl : k < ops.length := by rw [← hm.out]; exact hkm
            obtain ⟨g, o, cs, rfl, hg, hcs, P, pc, Q, qc, R, rc, rfl, -, -, -, -, -⟩ := h2.out.at_ (i := k) hkl
            obtain ⟨r1, r2, r3, r4, r5⟩ := ho.out _ (List.getElem_mem hkl)
            obtain ⟨nm, hnm⟩ : ∃ nm : ByteArray, nm = ⟨(ops[k]).name.toArray⟩ := ⟨_, rfl⟩
            have hsz : nm.size = (ops[k]).name.length := by rw [hnm]; simp [ByteArray.size]
            obtain ⟨nt, hnt⟩ : ∃ nm : ByteArray, nm = ⟨(ops[k]).dst.toArray⟩ := ⟨_, rfl⟩
            have hst : nt.size = (ops[k]).dst.length := by rw [hnt]; simp [ByteArray.size]
            obtain ⟨kb, hkb⟩ : ∃ k', k' = (ops[k]).b.length := ⟨_, rfl⟩
            obtain ⟨kf, hkf⟩ : ∃ k', k' = (ops[k]).faults.length := ⟨_, rfl⟩
            obtain ⟨kk, hkk⟩ : ∃ k', k' = (ops[k]).keep.length := ⟨_, rfl⟩
            rw [show sv (ops[k]).name = .string nm from congrArg Value.string hnm.symm, show sv (ops[k]).dst = .string nt from congrArg Value.string hnt.symm, ← hkb, ← hkf, ← hkk] at hcs
            obtain ⟨a0, a1, a2, a3, a4, a5, a6, a7⟩ := (hcs.below HB2.out (hS.out g hg)).eight
            rw [show Rep.op.n = 8 from rfl] at a0 a1 a2 a3 a4 a5 a6 a7
            have HTN : Hid (T2 + kb + nm.size + nt.size + kf + kk = T + ((ops.take (k + 1)).map wO).sum) := Lib.hid (by rw [sum_take wO ops hkl, HT2.out, hsz, hst, hkb, hkf, hkk]; unfold wO; omega)
            rw [← hkb] at r1
            rw [← hsz] at r2
            rw [← hst] at r3
            rw [← hkf] at r4
            rw [← hkk] at r5
            clear hcs hnm hnt hkb hkf hkk hsz hst hg a0 a4 a6
            go_wp2_with fail
            go_region
            go_wp2_with fail
            go_roundg (m - (k + 1))
            case measure => omega
            case rel => exact ⟨k + 1, T2 + kb + nm.size + nt.size + kf + kk, rfl, by omega, by go_num, by go_num, HTN, by omega, Lib.hid HB2.out.drew⟩
          · have hstop2 : (k < m ∧ 2147483647 < T2) ∨ k = m := by omega
            clear hgo
            have HEND : Hid (T2 ≤ 2147483647 → Within fs ops) := Lib.hid fun h => by
              obtain rfl : k = m := by omega
              have hj := HJ.out (by have := HT2.out; omega)
              have h2 := HT2.out
              rw [hm.out, List.take_length] at h2
              unfold Within
              have e2 := hm.out
              omega
            rcases hstop2 with ⟨hkm, hT2⟩ | rfl
            all_goals
              go_wp2_with fail
              go_ret
              exact ⟨_, rfl, fun hb => HEND.out (by first | (exact absurd hb (by decide)) | (have := of_decide_eq_false hb; omega)), HB2.out⟩
end
end Go.Proofs.Ytignnohjggjkoaa
