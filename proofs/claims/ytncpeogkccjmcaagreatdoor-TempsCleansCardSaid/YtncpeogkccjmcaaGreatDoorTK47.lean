/- Texts that lead to the claim, one behind the other: galleylaw29.works: the walk. No conditions. | galleylaw29.long at files and a script: the walk. Condition: no part weighs more than the reach. -/
import Derived.Test.YtncpeogkccjmcaaGreatDoorTK44
import Derived.Test.YtncpeogkccjmcaaGreatDoorTK30
import Derived.Test.YtncpeogkccjmcaaGreatDoorTK17
import Derived.Test.YtncpeogkccjmcaaGreatDoorTK40
import Derived.Test.YtncpeogkccjmcaaGreatDoorTK12
import Derived.Test.YtncpeogkccjmcaaGreatDoorTK31
import Derived.Test.YtncpeogkccjmcaaGreatDoorTK46
import Derived.BigQuiet
namespace Go.Proofs.YtncpeogkccjmcaaGreatDoor
open Go.RowKit Go.ChangeShapes Go.WideShapes Go.Deep

namespace Disk
def fsW : List Fin_ := [⟨[46, 103, 97, 108, 108, 101, 121, 45, 120], [1], 1, false⟩, ⟨[121], [], 0, false⟩]
def tw0 : St := fromSt 9 fsW
def tw1 : St := tw0.clean.1
theorem tw_facts : fromErr 9 fsW = 0 ∧ tw0.stale.length = 1 ∧ tw0.clean.2 = 0 ∧ tw1.stale = [] ∧ tw1.names = [[121]] ∧ tw1.done = 2 := by
  refine ⟨by decide, by decide, by decide, by decide, by decide, by decide⟩
theorem tw_fine : Fine tw0 := fine_from (by decide)
theorem tw_small : Small 0 tw0 := small_from _ _
def nA : ByteArray := ⟨#[97]⟩
def nTA : ByteArray := ⟨#[46, 103, 97, 108, 108, 101, 121, 45, 97]⟩
end Disk
def fRow (g : Nat) : Array Value := #[.string ⟨#[46, 103, 97, 108, 108, 101, 121, 45, 120]⟩, .slice (some ⟨g, 0, none⟩) 1 1, .int .i64 1, .bool false, .string ⟨#[121]⟩, .slice none 0 0, .int .i64 0, .bool false]
theorem lit_files (w : World) : SliceAt Rep.fin ((w.alloc (.cells #[.int .u8 1] 5)).alloc (.cells (fRow w.heap.size) 78)) (fun b => b < w.heap.size + 2) (some ⟨w.heap.size + 1, 0, none⟩) 2 Disk.fsW := by
  have h := SliceAt.newRow Rep.fin (w.alloc (.cells #[.int .u8 1] 5)) 78 (fRow w.heap.size) Disk.fsW (fun b => b = w.heap.size) 2 2 rfl (Nat.le_refl _) (by decide) (fun i hi => ?_) fun b hb => by subst hb; simp
  · rw [World.size_alloc] at h
    exact h.up fun b hb => by rcases hb with rfl | rfl <;> omega
  · match i, hi with
    | 0, _ =>
      refine ⟨some ⟨w.heap.size, 0, none⟩, 1, rfl, ?_, by simp [Disk.fsW, maxLen], by simp [Disk.fsW]; decide⟩
      have := SliceAt.newRow Rep.byte w 5 #[.int .u8 1] [1] nob 1 1 rfl (Nat.le_refl _) (by decide) (fun i hi => by
        match i, hi with
        | 0, _ => rfl) fun _ h => h.elim
      exact this.up fun b hb => hb.elim id fun h => h.elim
    | 1, _ => exact ⟨none, 0, rfl, SliceAt.nil _ _ _, by simp [Disk.fsW, maxLen], by simp [Disk.fsW]; decide⟩
section
variable {w : World}
theorem name_a (w : World) : Calls Tryz.prog 31 #[.string ⟨#[97]⟩] w fun e w' => e = .returned (.tuple #[.string ⟨#[46, 103, 97, 108, 108, 101, 121, 45, 97]⟩, .bool true]) ∧ Below w.heap.size w w' :=
  (tname_any ⟨#[97]⟩ w).mono fun _ _ h => ⟨h.1, h.2⟩
theorem is_ta (w : World) : Calls Tryz.prog 32 #[.string ⟨#[46, 103, 97, 108, 108, 101, 121, 45, 97]⟩] w fun e w' => e = .returned (.bool true) ∧ w = w' := is_any ⟨#[46, 103, 97, 108, 108, 101, 121, 45, 97]⟩ w
theorem is_a (w : World) : Calls Tryz.prog 32 #[.string ⟨#[97]⟩] w fun e w' => e = .returned (.bool false) ∧ w = w' := is_any ⟨#[97]⟩ w
set_option maxRecDepth 100000 in
set_option maxHeartbeats 4000000 in
theorem tworks_any : Calls Tryz.prog 10 #[] w fun e w' => e = .returned (.bool true) ∧ Below w.heap.size w w' := by
  obtain ⟨f0, f1, f2, f3, f4, f5⟩ := Disk.tw_facts
  have F0 := Lib.hid f0; have F1 := Lib.hid f1; have F2 := Lib.hid f2; have F3 := Lib.hid f3; have F4 := Lib.hid f4; have F5 := Lib.hid f5
  clear f0 f1 f2 f3 f4 f5
  have HFN := Lib.hid Disk.tw_fine
  have HSM := Lib.hid Disk.tw_small
  go_enter Tryz.func10, Tryz.ntmps10
  go_wp2_with fail
  refine (name_a w).mono ?_
  rintro e w1 ⟨rfl, hb1⟩
  have HB1 := Lib.hid hb1
  clear hb1
  go_wp2_with fail
  have HFR := Lib.hid (from_any (w := (w1.alloc (.cells #[.int .u8 1] 5)).alloc (.cells (fRow w1.heap.size) 78)) 9 (some ⟨w1.heap.size + 1, 0, none⟩) 2 2 Disk.fsW _ (Lib.hid rfl) (Lib.hid (lit_files w1)) (Lib.hid fun b hb => by simpa using hb) (Lib.hid (by decide)))
  refine HFR.out.mono ?_
  rintro e w2 (⟨h1, -⟩ | ⟨-, d, rfl, hd, hb2⟩)
  · exact absurd F0.out h1
  have K0 : Hid (Kd w w2 (btw ((w1.alloc (.cells #[.int .u8 1] 5)).alloc (.cells (fRow w1.heap.size) 78)).heap.size w2.heap.size) d Disk.tw0) := Lib.hid ⟨hd, (HB1.out.trans ((Below.alloc (Below.alloc (Below.refl _ w1) (Nat.le_refl _) _) (by simp) _).mono HB1.out.size)).trans (hb2.mono (by have := HB1.out.size; simp; omega)), fun b hb => by have := hb.1; have := HB1.out.size; simp at *; omega⟩
  obtain ⟨F, hF⟩ : ∃ F, F = btw ((w1.alloc (.cells #[.int .u8 1] 5)).alloc (.cells (fRow w1.heap.size) 78)).heap.size w2.heap.size := ⟨_, rfl⟩
  rw [← hF] at K0
  clear hd hb2 HFR hF
  go_wp2_with fail
  refine (is_ta w2).mono ?_
  rintro e w' ⟨rfl, rfl⟩
  go_wp2_with fail
  refine (is_a w2).mono ?_
  rintro e w' ⟨rfl, rfl⟩
  go_wp2_with fail
  refine (stale_any (Lib.hid K0.out.at_) HFN (by rw [F1.out]; decide)).mono ?_
  rintro e w3 ⟨A, n, c, rfl, hn, hnc, hcm, -, hb3⟩
  obtain rfl : n = 1 := hn.out.trans F1.out
  have K3 := Lib.hid (K0.out.far hb3)
  clear hb3 hn
  go_wp2_with fail
  refine (clean_any (Lib.hid K3.out.at_) HFN HSM (by decide)).mono ?_
  rintro e w4 hc
  obtain ⟨he, hk⟩ := K3.out.call hc
  rw [F2.out] at he
  subst he
  have K4 : Hid (Kd w w4 (grow F w3 w4) d Disk.tw1) := Lib.hid hk
  clear hc hk
  go_wp2_with fail
  have HFN1 : Hid (Disk.Fine Disk.tw1) := Lib.hid (Disk.fine_clean HFN.out)
  refine (stale_any (Lib.hid K4.out.at_) HFN1 (by rw [F3.out]; decide)).mono ?_
  rintro e w5 ⟨A5, n5, c5, rfl, hn5, hnc5, hcm5, -, hb5⟩
  obtain rfl : n5 = 0 := hn5.out.trans (by rw [F3.out]; rfl)
  have K5 := Lib.hid (K4.out.far hb5)
  clear hb5 hn5
  go_wp2_with fail
  refine (diskNames_any (Lib.hid K5.out.at_) HFN1).mono ?_
  rintro e w6 ⟨A6, n6, c6, rfl, hn6, hnc6, hcm6, ho6, hb6⟩
  rw [F4.out] at hn6 ho6
  obtain rfl : n6 = 1 := hn6.out
  obtain ⟨A7, c7, he7, hs7⟩ := ho6.slice
  simp only [Value.slice.injEq] at he7
  obtain ⟨rfl, -, rfl⟩ := he7
  have K6 := Lib.hid (K5.out.far hb6)
  have HS6 := Lib.hid hs7
  clear hb6 hn6 ho6 hs7
  go_wp2_with fail
  have HEQ : Hid (Calls Tryz.prog 14 #[.slice A6 1 c6, .slice (some ⟨w6.heap.size, 0, none⟩) 1 1] (w6.alloc (.cells #[.string ⟨#[121]⟩] 9)) fun e w' => e = .returned (.bool true) ∧ ∃ n, w' = (w6.alloc (.cells #[.string ⟨#[121]⟩] 9)).drewN n) := Lib.hid (by
    have h1 : SliceAt Rep.str (w6.alloc (.cells #[.string ⟨#[121]⟩] 9)) (fun b => b < w6.heap.size) A6 c6 [ba [121]] := HS6.out.keep (fun b hb => by
      rcases hb with ⟨-, h, -⟩ | h
      · exact h
      · exact h.elim) fun b hb => Below.heap_alloc w6 _ b (by
      rcases hb with ⟨-, h, -⟩ | h
      · exact h
      · exact h.elim)
    have h2 := str_one w6 (ba [121]) 9 (by decide)
    exact eqTexts A6 _ c6 1 [ba [121]] [ba [121]] _ _ _ h1 h2)
  refine HEQ.out.mono ?_
  rintro e w7 ⟨rfl, nq, rfl⟩
  have K7 : Hid (Kd w ((w6.alloc (.cells #[.string ⟨#[121]⟩] 9)).drewN nq) (grow F w3 w4) d Disk.tw1) := Lib.hid (K6.out.far ((Below.alloc (Below.refl _ _) (Nat.le_refl _) _).trans (below_dr _ _)))
  generalize (w6.alloc (.cells #[.string ⟨#[121]⟩] 9)).drewN nq = w8 at K7 ⊢
  have HD : Hid (Calls Tryz.prog 34 #[.pointer (some ⟨d, 0, none⟩)] w8 fun e w' => e = .returned (.int .i64 2) ∧ w8 = w') := Lib.hid ((done_any (Lib.hid K7.out.at_)).mono fun e w' h => ⟨by rw [h.1, F5.out], h.2⟩)
  go_wp2_with fail
  refine HD.out.mono ?_
  rintro e w9 ⟨rfl, rfl⟩
  go_wp2_with fail
  go_ret
  exact ⟨rfl, K7.out.below⟩
/-- TempsNames. -/
theorem long_str (n : Nat) (w : World) : Calls Tryz.prog 18 #[.int .i64 n] w fun e w' => e = .returned (.bool (decide (2147483647 < n))) ∧ w = w' := by
  by_cases h : 2147483647 < n
  · rw [decide_eq_true h]
    go_enter Tryz.func18, Tryz.ntmps18
    go_wp2_with fail
    go_ret
    exact ⟨retBo (decide_eq_true (by omega)), rfl⟩
  · rw [decide_eq_false h]
    go_enter Tryz.func18, Tryz.ntmps18
    go_wp2_with fail
    go_ret
    exact ⟨retBo (decide_eq_false (by omega)), rfl⟩
end
end Go.Proofs.YtncpeogkccjmcaaGreatDoor
namespace Go.Proofs.YtncpeogkccjmcaaGreatDoor
open Go.RowKit Go.ChangeShapes Go.WideShapes Go.Deep

def wFs (f : Disk.Fin_) : Nat := f.bytes.length + f.name.length
def wOp (o : Op29V) : Nat := o.b.length + o.faults.length + o.keep.length
theorem sumS_take {α : Type} (f : α → Nat) (l : List α) {j : Nat} (hj : j < l.length) : ((l.take (j + 1)).map f).sum = ((l.take j).map f).sum + f l[j] := by
  rw [List.take_succ_eq_append_getElem hj, List.map_append, List.sum_append]
  simp
theorem sumS_mem {α : Type} (f : α → Nat) {l : List α} {x : α} (h : x ∈ l) : f x ≤ (l.map f).sum := by
  obtain ⟨a, b, rfl⟩ := List.append_of_mem h
  simp; omega
/-- As much as DOC.md's bound takes. -/
def WithinS (fs : List Disk.Fin_) (ops : List Op29V) : Prop := fs.length + ops.length + (fs.map wFs).sum + (ops.map wOp).sum ≤ 2147483647
theorem WithinS.file {fs : List Disk.Fin_} {ops : List Op29V} (h : WithinS fs ops) {f : Disk.Fin_} (hf : f ∈ fs) : f.bytes.length ≤ 2147483647 ∧ f.name.length ≤ 2147483647 := by
  have := sumS_mem wFs hf
  unfold WithinS at h
  unfold wFs at this
  unfold wFs at h
  omega
theorem WithinS.op {fs : List Disk.Fin_} {ops : List Op29V} (h : WithinS fs ops) {o : Op29V} (ho : o ∈ ops) : o.b.length ≤ 2147483647 ∧ o.faults.length ≤ 2147483647 ∧ o.keep.length ≤ 2147483647 := by
  have := sumS_mem wOp ho
  unfold WithinS at h
  unfold wOp at this
  unfold wOp at h
  omega
/-- No part weighs more than the reach. -/
def finReachS (f : Disk.Fin_) : Prop := f.name.length ≤ 281474976710656 ∧ f.bytes.length ≤ 281474976710656
def opReachS (o : Op29V) : Prop := o.b.length ≤ 281474976710656 ∧ o.faults.length ≤ 281474976710656 ∧ o.keep.length ≤ 281474976710656
section
variable {w : World}
theorem CellsAt.fourS {w : World} {g o : Nat} {v0 v1 v2 v3 : Value} (h : CellsAt w g o [v0, v1, v2, v3]) : w.cell? ⟨g, o, none⟩ = some v0 ∧ w.cell? ⟨g, o + 1, none⟩ = some v1 ∧ w.cell? ⟨g, o + 2, none⟩ = some v2 ∧ w.cell? ⟨g, o + 3, none⟩ = some v3 :=
  ⟨h 0 _ rfl, h 1 _ rfl, h 2 _ rfl, h 3 _ rfl⟩
theorem CellsAt.sevenS {w : World} {g o : Nat} {v0 v1 v2 v3 v4 v5 v6 : Value} (h : CellsAt w g o [v0, v1, v2, v3, v4, v5, v6]) : w.cell? ⟨g, o + 3, none⟩ = some v3 ∧ w.cell? ⟨g, o + 4, none⟩ = some v4 ∧ w.cell? ⟨g, o + 6, none⟩ = some v6 :=
  ⟨h 3 _ rfl, h 4 _ rfl, h 6 _ rfl⟩
set_option linter.unusedSimpArgs false in
set_option maxRecDepth 100000 in
set_option maxHeartbeats 4000000 in
theorem longS_any (fs : List Disk.Fin_) (ops : List Op29V) (A B : Option Addr) (n c m mc : Nat) (S : Blocks) (hn : Hid (n = fs.length)) (hm : Hid (m = ops.length)) (h1 : Hid (SliceAt Rep.fin w S A c fs)) (h2 : Hid (SliceAt Rep.op29 w S B mc ops)) (hS : Hid (∀ b, S b → b < w.heap.size))
    (hf : Hid (∀ f ∈ fs, finReachS f)) (hop : Hid (∀ o ∈ ops, opReachS o)) (hnb : n ≤ 281474976710656) (hmb : m ≤ 281474976710656) :
    Calls Tryz.prog 4 #[.slice A n c, .slice B m mc] w fun e w' => ∃ b, e = .returned (.bool b) ∧ (b = false → WithinS fs ops) ∧ Below w.heap.size w w' := by
  have hnc : n ≤ c := by rw [hn.out]; exact h1.out.len
  have hcm := h1.out.max
  have hmd : m ≤ mc := by rw [hm.out]; exact h2.out.len
  have hdm := h2.out.max
  obtain ⟨WS, hWS⟩ : ∃ x, x = WithinS fs ops := ⟨_, rfl⟩
  rw [← hWS]
  obtain ⟨SF, hSF⟩ : ∃ x, x = (fs.map wFs).sum := ⟨_, rfl⟩
  have HWS : Hid (WS = (n + m + SF + (ops.map wOp).sum ≤ 2147483647)) := Lib.hid (by rw [hWS, hn.out, hm.out, hSF]; rfl)
  have HSF := Lib.hid hSF
  clear hWS hSF
  have HLG : Hid (∀ (T : Nat) (W : World), Calls Tryz.prog 18 #[.int .i64 T] W fun e w' => e = .returned (.bool (decide (2147483647 < T))) ∧ W = w') := Lib.hid fun T W => long_str T W
  go_enter Tryz.func4, Tryz.ntmps4
  go_wp2_with fail
  go_loopg [5, 6] n (fun q v i wr => ∃ (j T : Nat), q = n - j ∧ j ≤ n ∧ i = .int .i64 j ∧ v = .int .i64 T ∧ Hid (T = n + m + ((fs.take j).map wFs).sum) ∧ T ≤ 1125899906842624 ∧ Hid (Below w.heap.size w wr))
  case atStart => exact ⟨0, n + m, rfl, by omega, rfl, by go_num, Lib.hid (by simp), by omega, Lib.hid (Below.refl _ _)⟩
  case round =>
    obtain ⟨j, T, rfl, hj, rfl, rfl, HT, hTb, HB⟩ := hrel
    by_cases hgo : j < n ∧ T ≤ 2147483647
    · obtain ⟨hjn, hT⟩ := hgo
      have hjl : j < fs.length := by rw [← hn.out]; exact hjn
      obtain ⟨g, o, cs, rfl, hg, hcs, P, pc, rfl, hP, hN, -⟩ := h1.out.at_ (i := j) hjl
      obtain ⟨r1, r2⟩ := hf.out _ (List.getElem_mem hjl)
      obtain ⟨nm, hnm⟩ : ∃ nm : ByteArray, nm = ⟨(fs[j]).name.toArray⟩ := ⟨_, rfl⟩
      have hsz : nm.size = (fs[j]).name.length := by rw [hnm]; simp [ByteArray.size]
      obtain ⟨k, hk⟩ : ∃ k, k = (fs[j]).bytes.length := ⟨_, rfl⟩
      rw [show sv (fs[j]).name = .string nm from congrArg Value.string hnm.symm, ← hk] at hcs
      obtain ⟨a0, a1, a2, a3⟩ := (hcs.below HB.out (hS.out g hg)).fourS
      rw [show Rep.fin.n = 4 from rfl] at a0 a1 a2 a3
      have HTN : Hid (T + k + nm.size = n + m + ((fs.take (j + 1)).map wFs).sum) := Lib.hid (by rw [sumS_take wFs fs hjl, HT.out, hsz, hk]; unfold wFs; omega)
      rw [← hk] at r2
      rw [← hsz] at r1
      clear hcs hP hN hnm hk hsz hg a2 a3
      have hd : decide ((T : Int) < 2147483648) = true := decide_eq_true (by omega)
      go_wp2_with fail
      go_region
      go_wp2_with fail
      go_roundg (n - (j + 1))
      case measure => omega
      case rel => exact ⟨j + 1, T + k + nm.size, rfl, by omega, by go_num, by go_num, HTN, by omega, Lib.hid HB.out.drew⟩
    · have hstop : (j < n ∧ 2147483647 < T) ∨ n = j := by omega
      clear hgo
      have HJ : Hid (T ≤ 2147483647 → T = n + m + SF) := Lib.hid fun h => by
        have h1 := HT.out
        have hj : j = fs.length := by have := hn.out; omega
        rw [hj, List.take_length, ← HSF.out] at h1
        exact h1
      have HBR := Lib.hid HB.out
      clear HT HB
      rcases hstop with ⟨hjn, hT⟩ | rfl
      all_goals
        have hd : (decide ((T : Int) < 2147483648) = true) ∨ (decide ((T : Int) < 2147483648) = false) := by
          by_cases h : (T : Int) < 2147483648
          · exact .inl (decide_eq_true h)
          · exact .inr (decide_eq_false h)
        rcases hd with hd | hd
        all_goals try (exfalso; have := of_decide_eq_true hd; omega)
        all_goals
          go_wp2_with fail
          go_loopg [5, 7] m (fun q v i wx => ∃ (k T2 : Nat), q = m - k ∧ k ≤ m ∧ i = .int .i64 k ∧ v = .int .i64 T2 ∧ Hid (T2 ≤ 2147483647 → T2 = n + m + SF + ((ops.take k).map wOp).sum) ∧ T2 ≤ 1125899906842624 ∧ Hid (Below w.heap.size w wx))
          case atStart => exact ⟨0, T, rfl, by omega, rfl, by first | rfl | go_num, Lib.hid (by simpa using HJ.out), by omega, HBR⟩
          case round =>
            clear hd
            obtain ⟨k, T2, rfl, hk, rfl, rfl, HT2, hTb2, HB2⟩ := hrel
            by_cases hgo : k < m ∧ T2 ≤ 2147483647
            · obtain ⟨hkm, hT2⟩ := hgo
              have hkl : k < ops.length := by rw [← hm.out]; exact hkm
              obtain ⟨g, o, cs, rfl, hg, hcs, P, pc, Q, qc, R, rc, rfl, hP, hQ, hR, -, -⟩ := h2.out.at_ (i := k) hkl
              obtain ⟨r1, r2, r3⟩ := hop.out _ (List.getElem_mem hkl)
              have hpc := hP.len
              have hpm := hP.max
              have hqc := hQ.len
              have hqm := hQ.max
              have hrc := hR.len
              have hrm := hR.max
              obtain ⟨x1, hx1⟩ : ∃ k', k' = (ops[k]).b.length := ⟨_, rfl⟩
              obtain ⟨x2, hx2⟩ : ∃ k', k' = (ops[k]).faults.length := ⟨_, rfl⟩
              obtain ⟨x3, hx3⟩ : ∃ k', k' = (ops[k]).keep.length := ⟨_, rfl⟩
              rw [← hx1, ← hx2, ← hx3] at hcs
              obtain ⟨a3, a4, a6⟩ := (hcs.below HB2.out (hS.out g hg)).sevenS
              rw [show Rep.op29.n = 7 from rfl] at a3 a4 a6
              have HTN : Hid (T2 + x1 + x2 + x3 = n + m + SF + ((ops.take (k + 1)).map wOp).sum) := Lib.hid (by rw [sumS_take wOp ops hkl, HT2.out hT2, hx1, hx2, hx3]; unfold wOp; omega)
              rw [← hx1] at r1 hpc
              rw [← hx2] at r2 hqc
              rw [← hx3] at r3 hrc
              clear hcs hP hQ hR hx1 hx2 hx3 hg HT2
              have hd : decide ((T2 : Int) < 2147483648) = true := decide_eq_true (by omega)
              go_wp2_with fail
              go_region
              go_wp2_with fail
              go_roundg (m - (k + 1))
              case measure => omega
              case rel => exact ⟨k + 1, T2 + x1 + x2 + x3, rfl, by omega, by go_num, by go_num, Lib.hid fun _ => HTN.out, by omega, Lib.hid HB2.out.drew⟩
            · have hend : (k < m ∧ 2147483647 < T2) ∨ m = k := by omega
              clear hgo
              have HE : Hid (decide (2147483647 < T2) = false → WS) := Lib.hid fun h => by
                have h2 : T2 ≤ 2147483647 := Nat.le_of_not_lt (of_decide_eq_false h)
                have hk2 : k = ops.length := by have := hm.out; omega
                have h3 := HT2.out h2
                rw [hk2, List.take_length] at h3
                rw [HWS.out]
                omega
              clear HT2
              rcases hend with ⟨hkm, hT2⟩ | rfl
              all_goals
                have hd : (decide ((T2 : Int) < 2147483648) = true) ∨ (decide ((T2 : Int) < 2147483648) = false) := by
                  by_cases h : (T2 : Int) < 2147483648
                  · exact .inl (decide_eq_true h)
                  · exact .inr (decide_eq_false h)
                rcases hd with hd | hd
                all_goals try (exfalso; have := of_decide_eq_true hd; omega)
                all_goals
                  go_wp2_with fail
                  refine (HLG.out _ _).mono ?_
                  rintro e w' ⟨rfl, rfl⟩
                  go_wp2_with fail
                  go_ret
                  exact ⟨_, rfl, fun h => by first | exact HE.out h | cases h | (have := of_decide_eq_true hd; exact HE.out (decide_eq_false (by omega))), HB2.out⟩
end
end Go.Proofs.YtncpeogkccjmcaaGreatDoor
