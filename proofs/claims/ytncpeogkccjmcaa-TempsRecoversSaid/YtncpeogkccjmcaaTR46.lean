/- Texts that lead to the claim, one behind the other: galleylaw29.long at no script, galleylaw29.within: the walks. Condition: no part weighs more than the reach. -/
import Derived.Test.YtncpeogkccjmcaaTR45
import Derived.Test.YtncpeogkccjmcaaTR41
import Derived.BigQuiet
namespace Go.Proofs.Ytncpeogkccjmcaa
open Go.RowKit Go.ChangeShapes Go.WideShapes Go.Deep

def wF (f : Disk.Fin_) : Nat := f.bytes.length + f.name.length
theorem sum_take {α : Type} (f : α → Nat) (l : List α) {j : Nat} (hj : j < l.length) : ((l.take (j + 1)).map f).sum = ((l.take j).map f).sum + f l[j] := by
  rw [List.take_succ_eq_append_getElem hj, List.map_append, List.sum_append]
  simp
theorem sum_mem {α : Type} (f : α → Nat) {l : List α} {x : α} (h : x ∈ l) : f x ≤ (l.map f).sum := by
  obtain ⟨a, b, rfl⟩ := List.append_of_mem h
  simp; omega
/-- As much as DOC.md's bound takes. -/
def WithinF (fs : List Disk.Fin_) : Prop := fs.length + (fs.map wF).sum ≤ 2147483647
theorem WithinF.file {fs : List Disk.Fin_} (h : WithinF fs) {f : Disk.Fin_} (hf : f ∈ fs) : f.bytes.length ≤ 2147483647 ∧ f.name.length ≤ 2147483647 := by
  have := sum_mem wF hf
  unfold WithinF at h
  unfold wF at this
  unfold wF at h
  omega
/-- No part weighs more than the reach. -/
def finReach (f : Disk.Fin_) : Prop := f.name.length ≤ 281474976710656 ∧ f.bytes.length ≤ 281474976710656
section
variable {w : World}
theorem CellsAt.four' {w : World} {g o : Nat} {v0 v1 v2 v3 : Value} (h : CellsAt w g o [v0, v1, v2, v3]) : w.cell? ⟨g, o, none⟩ = some v0 ∧ w.cell? ⟨g, o + 1, none⟩ = some v1 ∧ w.cell? ⟨g, o + 2, none⟩ = some v2 ∧ w.cell? ⟨g, o + 3, none⟩ = some v3 :=
  ⟨h 0 _ rfl, h 1 _ rfl, h 2 _ rfl, h 3 _ rfl⟩
set_option maxRecDepth 100000 in
set_option maxHeartbeats 2000000 in
theorem long29_any (fs : List Disk.Fin_) (A : Option Addr) (n c : Nat) (S : Blocks) (hn : Hid (n = fs.length)) (h1 : Hid (SliceAt Rep.fin w S A c fs)) (hS : Hid (∀ b, S b → b < w.heap.size))
    (hf : Hid (∀ f ∈ fs, finReach f)) (hnb : n ≤ 281474976710656) :
    Calls Try.prog 14 #[.slice A n c, .slice none 0 0] w fun e w' => ∃ b, e = .returned (.bool b) ∧ (b = false → WithinF fs) ∧ Below w.heap.size w w' := by
  have hnc : n ≤ c := by rw [hn.out]; exact h1.out.len
  have hcm := h1.out.max
  go_enter Try.func14, Try.ntmps14
  go_wp2_with fail
  go_loopg [5, 6] n (fun q v i wr => ∃ (j T : Nat), q = n - j ∧ j ≤ n ∧ i = .int .i64 j ∧ v = .int .i64 T ∧ Hid (T = n + ((fs.take j).map wF).sum) ∧ T ≤ 1125899906842624 ∧ Hid (Below w.heap.size w wr))
  case atStart => exact ⟨0, n, rfl, by omega, rfl, by go_num, Lib.hid (by simp), by omega, Lib.hid (Below.refl _ _)⟩
  case round =>
    obtain ⟨j, T, rfl, hj, rfl, rfl, HT, hTb, HB⟩ := hrel
    by_cases hgo : j < n ∧ T ≤ 2147483647
    · obtain ⟨hjn, hT⟩ := hgo
      have hjl : j < fs.length := by rw [← hn.out]; exact hjn
      obtain ⟨g, o, cs, rfl, hg, hcs, P, pc, rfl, hP, hN, -⟩ := h1.out.at_ (i := j) hjl
      obtain ⟨r1, r2⟩ := hf.out _ (List.getElem_mem hjl)
      obtain ⟨nm, hnm⟩ : ∃ nm : ByteArray, nm = ⟨(fs[j]).name.toArray⟩ := ⟨_, rfl⟩
      have hsz : nm.size = (fs[j]).name.length := by rw [hnm]; simp [ByteArray.size]
      obtain ⟨k, hk⟩ : ∃ k, k = (fs[j]).bytes.length := ⟨_, rfl⟩
      rw [show sv (fs[j]).name = .string nm from congrArg Value.string hnm.symm, ← hk] at hcs
      obtain ⟨a0, a1, a2, a3⟩ := (hcs.below HB.out (hS.out g hg)).four'
      rw [show Rep.fin.n = 4 from rfl] at a0 a1 a2 a3
      have HTN : Hid (T + k + nm.size = n + ((fs.take (j + 1)).map wF).sum) := Lib.hid (by rw [sum_take wF fs hjl, HT.out, hsz, hk]; unfold wF; omega)
      rw [← hk] at r2
      rw [← hsz] at r1
      clear hcs hP hN hnm hk hsz hg a2 a3
      have hd : decide ((T : Int) < 2147483648) = true := decide_eq_true (by omega)
      go_wp2_with fail
      go_region
      go_wp2_with fail
      go_roundg (n - (j + 1))
      case measure => omega
      case rel => exact ⟨j + 1, T + k + nm.size, rfl, by omega, by go_num, by go_num, HTN, by omega, Lib.hid HB.out.drew⟩
    · have hstop : (j < n ∧ 2147483647 < T) ∨ j = n := by omega
      clear hgo
      have HJ : Hid (T ≤ 2147483647 → T = fs.length + (fs.map wF).sum) := Lib.hid fun h => by
        have h1 := HT.out
        have hj : j = fs.length := by have := hn.out; omega
        rw [hj, List.take_length] at h1
        have := hn.out
        omega
      have HBR := Lib.hid HB.out
      have HLG : Hid (∀ W, Calls Try.prog 6 #[.int .i64 T] W fun e w' => e = .returned (.bool (decide (2147483647 < T))) ∧ W = w') := Lib.hid fun W => long_str T W
      rcases hstop with ⟨hjn, hT⟩ | rfl
      · have hd : decide ((T : Int) < 2147483648) = false := decide_eq_false (by omega)
        go_wp2_with fail
        go_loopg [5, 7] 0 (fun q v i wx => i = .int .i64 0 ∧ v = .int .i64 T ∧ Hid (Below w.heap.size w wx))
        case atStart => exact ⟨rfl, rfl, HBR⟩
        case round =>
          obtain ⟨rfl, rfl, HB2⟩ := hrel
          go_wp2_with fail
          refine (HLG.out _).mono ?_
          rintro e w' ⟨rfl, rfl⟩
          go_wp2_with fail
          go_ret
          exact ⟨_, rfl, fun h => by
            have h2 : T ≤ 2147483647 := by cases h
            have := HJ.out h2
            unfold WithinF
            omega, HB2.out⟩
      · by_cases hT : T ≤ 2147483647
        · have hd : decide ((T : Int) < 2147483648) = true := decide_eq_true (by omega)
          go_wp2_with fail
          go_loopg [5, 7] 0 (fun q v i wx => i = .int .i64 0 ∧ v = .int .i64 T ∧ Hid (Below w.heap.size w wx))
          case atStart => exact ⟨rfl, rfl, HBR⟩
          case round =>
            obtain ⟨rfl, rfl, HB2⟩ := hrel
            go_wp2_with fail
            refine (HLG.out _).mono ?_
            rintro e w' ⟨rfl, rfl⟩
            go_wp2_with fail
            go_ret
            exact ⟨_, rfl, fun h => by
              have h2 : T ≤ 2147483647 := hT
              have := HJ.out h2
              unfold WithinF
              omega, HB2.out⟩
        · have hd : decide ((T : Int) < 2147483648) = false := decide_eq_false (by omega)
          go_wp2_with fail
          go_loopg [5, 7] 0 (fun q v i wx => i = .int .i64 0 ∧ v = .int .i64 T ∧ Hid (Below w.heap.size w wx))
          case atStart => exact ⟨rfl, rfl, HBR⟩
          case round =>
            obtain ⟨rfl, rfl, HB2⟩ := hrel
            go_wp2_with fail
            refine (HLG.out _).mono ?_
            rintro e w' ⟨rfl, rfl⟩
            go_wp2_with fail
            go_ret
            exact ⟨_, rfl, fun h => by
              have h2 : T ≤ 2147483647 := Nat.le_of_not_lt (of_decide_eq_false h)
              have := HJ.out h2
              unfold WithinF
              omega, HB2.out⟩
set_option maxRecDepth 100000 in
set_option maxHeartbeats 2000000 in
/-- A beginning of a row, of so many bytes at least. -/
theorem within_any (B A : Option Addr) (bn bc an ac n : Nat) (b a : List UInt8) (S S' : Blocks) (hb : Hid (bn = b.length)) (ha : Hid (an = a.length)) (h1 : Hid (SliceAt Rep.byte w S B bc b)) (h2 : Hid (SliceAt Rep.byte w S' A ac a)) (hp : Hid (b <+: a)) (hn : n ≤ bn) :
    Calls Try.prog 26 #[.slice B bn bc, .slice A an ac, .int .i64 n] w fun e w' => e = .returned (.bool true) ∧ ∃ q, w' = w.drewN q := by
  have hbc : bn ≤ bc := by rw [hb.out]; exact h1.out.len
  have hac : an ≤ ac := by rw [ha.out]; exact h2.out.len
  have hm1 := h1.out.max
  have hm2 := h2.out.max
  have hba : bn ≤ an := by rw [hb.out, ha.out]; exact hp.out.length_le
  have hcut := h2.out.cutTo (j := bn) (by rw [← ha.out]; exact hba)
  have htk : a.take bn = b := by rw [hb.out]; exact (List.prefix_iff_eq_take.1 hp.out).symm
  rw [htk] at hcut
  have HEQ : Hid (Calls Try.prog 48 #[.slice B bn bc, .slice A bn ac] w fun e w' => e = .returned (.bool true) ∧ ∃ q, w' = w.drewN q) := Lib.hid (by
    have h := eqBytes B A bc ac b b w _ _ h1.out hcut
    rw [← hb.out] at h
    exact h.mono fun e w' h => ⟨by rw [h.1]; simp, h.2⟩)
  clear hcut htk
  go_enter Try.func26, Try.ntmps26
  go_wp2_with fail
  refine HEQ.out.mono ?_
  rintro e w' ⟨rfl, q, rfl⟩
  go_wp2_with fail
  go_ret
  exact ⟨rfl, q, rfl⟩
end
end Go.Proofs.Ytncpeogkccjmcaa
