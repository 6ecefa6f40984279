/- Texts that lead to the claim, one behind the other: Chapter 30's cases in memory, and the walks of (galleylaw30.Case).other, program. No conditions. -/
import Derived.Test.YtfommpbblpnljaaWH34
namespace Go.Proofs.Ytfommpbblpnljaa
open Go.RowKit Go.ChangeShapes Go.WideShapes Go.Deep

/-- What a run does, in memory. -/
def Rep.actv : Rep Disk.ActV where
  n := 4
  is := fun w S cs a => ∃ A c, cs = [.int .i64 a.kind, .slice A a.parts.length c, sv a.name, .int .i64 a.err] ∧ SliceAt Rep.byte.slice w S A c a.parts ∧ a.name.length ≤ maxLen ∧ (Lit.int .i64 a.kind).wf = true ∧ (Lit.int .i64 a.err).wf = true
  size := by rintro _ _ _ _ ⟨_, _, rfl, _⟩; rfl
  keep := by rintro _ _ _ _ _ _ ⟨A, c, rfl, h, h2⟩ hS hk; exact ⟨A, c, rfl, h.keep hS hk, h2⟩
  one := by rintro _ _ _ _ ⟨_, _, rfl, _⟩; simp [Value.oneCell', sv]
/-- A case as a value: its numbers, its slices' parts. -/
structure CaseP where
  room : Int
  fA : Option Addr
  fn : Nat
  fc : Nat
  lA : Option Addr
  ln : Nat
  lc : Nat
  name : ByteArray
  aA : Option Addr
  an : Nat
  ac : Nat
  dir : Int
  kA : Option Addr
  kn : Nat
  kc : Nat
def CaseP.cells (c : CaseP) : Array Value := #[.int .i64 c.room, .slice c.fA c.fn c.fc, .slice c.lA c.ln c.lc, .string c.name, .slice c.aA c.an c.ac, .int .i64 c.dir, .slice c.kA c.kn c.kc]
def CaseP.val (c : CaseP) : Value := .agg c.cells
section
variable {w : World}
theorem ba_data (x : ByteArray) : ba x.data.toList = x := by cases x; simp [ba]
theorem ba_inj {x y : ByteArray} (h : x.data.toList = y.data.toList) : x = y := by rw [← ba_data x, ← ba_data y, h]
theorem other_yes {c n : Disk.Nm} (h : 1 < n.length ∨ n = c ∨ n = []) : Disk.other c n = if c = [119] then [118] else [119] := by
  unfold Disk.other
  rw [if_pos h]
  by_cases e : c = [119]
  · rw [if_pos e.symm, if_pos e]
  · rw [if_neg (Ne.symm e), if_neg e]
theorem other_no {c n : Disk.Nm} (h : ¬ (1 < n.length ∨ n = c ∨ n = [])) : Disk.other c n = n := by
  unfold Disk.other
  rw [if_neg h, if_neg (fun e => h (.inr (.inl e)))]
set_option maxRecDepth 100000 in
set_option maxHeartbeats 1000000 in
theorem other_any (C : CaseP) (n : ByteArray) : Calls Try.prog 56 #[C.val, .string n] w fun e w' => e = .returned (.string (ba (Disk.other C.name.data.toList n.data.toList))) ∧ Below w.heap.size w w' := by
  obtain ⟨room, fA, fn, fc, lA, ln, lc, c, aA, an, ac, dir, kA, kn, kc⟩ := C
  have hba : Below w.heap.size w (w.alloc (.cells #[.int .i64 room, .slice fA fn fc, .slice lA ln lc, .string c, .slice aA an ac, .int .i64 dir, .slice kA kn kc] 41)) := Below.alloc (Below.refl _ _) (Nat.le_refl _) _
  have HBA := Lib.hid hba
  have c3 : (w.alloc (.cells #[.int .i64 room, .slice fA fn fc, .slice lA ln lc, .string c, .slice aA an ac, .int .i64 dir, .slice kA kn kc] 41)).cell? ⟨w.heap.size, 3, none⟩ = some (.string c) := (cell_of_row _ _ 3 _ _ (0, 0) (World.alloc_heap_new w _)).trans rfl
  clear hba
  unfold CaseP.val CaseP.cells
  dsimp only
  have hnl : n.data.toList.length = n.size := Array.length_toList
  obtain ⟨r, hr⟩ : ∃ r, r = ba (Disk.other c.data.toList n.data.toList) := ⟨_, rfl⟩
  rw [← hr]
  have hyes : (1 < n.size ∨ n = c ∨ n = ⟨#[]⟩) → r = if c = ⟨#[119]⟩ then ⟨#[118]⟩ else ⟨#[119]⟩ := fun h => by
    rw [hr, other_yes (by rw [hnl]; rcases h with h | h | h; exact .inl h; exact .inr (.inl (by rw [h])); exact .inr (.inr (by rw [h])))]
    by_cases e : c = ⟨#[119]⟩
    · rw [if_pos e, if_pos (by rw [e])]; rfl
    · rw [if_neg e, if_neg (fun h => e (ba_inj h))]; rfl
  have hno : ¬ (1 < n.size ∨ n = c ∨ n = ⟨#[]⟩) → r = n := fun h => by
    rw [hr, other_no (by rw [hnl]; rintro (e | e | e); exact h (.inl e); exact h (.inr (.inl (ba_inj e))); exact h (.inr (.inr (ba_inj e)))), ba_data]
  have HYES := Lib.hid hyes
  have HNO := Lib.hid hno
  clear hr hyes hno hnl
  go_enter Try.func56, Try.ntmps56
  obtain ⟨qc, hqc⟩ : ∃ q, ([119] == c.toList) = q := ⟨_, rfl⟩
  have HQC : Hid (qc = true ↔ c = ⟨#[119]⟩) := Lib.hid (by
    rw [← hqc]
    constructor
    · intro e; exact ba_inj (by rw [← ByteArray.toList_eq]; exact (beq_iff_eq.1 e).symm)
    · intro e; rw [e, ByteArray.toList_eq]; rfl)
  obtain ⟨q2, hq2⟩ : ∃ q, (n.toList == c.toList) = q := ⟨_, rfl⟩
  have HQ2 : Hid (q2 = true ↔ n = c) := Lib.hid (by rw [← hq2, strs_eq]; simp)
  obtain ⟨q3, hq3⟩ : ∃ q, n.toList.isEmpty = q := ⟨_, rfl⟩
  have HQ3 : Hid (q3 = true ↔ n = ⟨#[]⟩) := Lib.hid (by
    rw [← hq3]
    constructor
    · intro e; exact ba_inj (by rw [← ByteArray.toList_eq]; exact List.isEmpty_iff.1 e)
    · intro e; rw [e, ByteArray.toList_eq]; rfl)
  have HR1 : Hid ((1 < n.size ∨ n = c ∨ n = ⟨#[]⟩) → qc = true → r = ⟨#[118]⟩) := Lib.hid fun h e => (HYES.out h).trans (if_pos (HQC.out.1 e))
  have HR2 : Hid ((1 < n.size ∨ n = c ∨ n = ⟨#[]⟩) → qc = false → r = ⟨#[119]⟩) := Lib.hid fun h e => (HYES.out h).trans (if_neg fun h => by rw [HQC.out.2 h] at e; cases e)
  clear HYES
  by_cases h1 : 1 < n.size
  · have h1i : (1 : Int) < (n.size : Int) := by omega
    cases qc
    · have HR := Lib.hid (HR2.out (.inl h1) rfl)
      go_wp2_with fail
      go_ret
      exact ⟨by rw [HR.out]; rfl, HBA.out⟩
    · have HR := Lib.hid (HR1.out (.inl h1) rfl)
      go_wp2_with fail
      go_ret
      exact ⟨by rw [HR.out]; rfl, HBA.out⟩
  have h1i : ¬ (1 : Int) < (n.size : Int) := by omega
  cases q2
  · cases q3
    · have HR := Lib.hid (HNO.out (by
        rintro (e | e | e)
        · exact h1 e
        · have := HQ2.out.2 e; revert this; simp
        · have := HQ3.out.2 e; revert this; simp))
      go_wp2_with fail
      go_ret
      exact ⟨by rw [HR.out]; rfl, HBA.out⟩
    · have h3 : Hid (n = ⟨#[]⟩) := Lib.hid (HQ3.out.1 (by trivial))
      cases qc
      · have HR := Lib.hid (HR2.out (.inr (.inr h3.out)) rfl)
        go_wp2_with fail
        go_ret
        exact ⟨by rw [HR.out]; rfl, HBA.out⟩
      · have HR := Lib.hid (HR1.out (.inr (.inr h3.out)) rfl)
        go_wp2_with fail
        go_ret
        exact ⟨by rw [HR.out]; rfl, HBA.out⟩
  · have h2 : Hid (n = c) := Lib.hid (HQ2.out.1 (by trivial))
    cases qc
    · have HR := Lib.hid (HR2.out (.inr (.inl h2.out)) rfl)
      go_wp2_with fail
      go_ret
      exact ⟨by rw [HR.out]; rfl, HBA.out⟩
    · have HR := Lib.hid (HR1.out (.inr (.inl h2.out)) rfl)
      go_wp2_with fail
      go_ret
      exact ⟨by rw [HR.out]; rfl, HBA.out⟩
end
end Go.Proofs.Ytfommpbblpnljaa
