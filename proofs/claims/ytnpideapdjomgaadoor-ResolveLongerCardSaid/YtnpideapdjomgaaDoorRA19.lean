/- Texts that lead to the claim, one behind the other: A node and all in it: the walk of (look).node, which calls itself. Condition: the list is read in memory ahead of the looker's. -/
import Derived.Test.YtnpideapdjomgaaDoorRA18
import Derived.Test.YtnpideapdjomgaaDoorRA3
import Derived.WalkKit
import Derived.WalkSpells
import Derived.Deep.QuietTactic
import Derived.Deep.RegionHeld3
import Derived.BigQuiet
import Derived.Deep.Cut
import Derived.Deep.CutBlock
import Derived.Deep.RegionLaw
namespace Go.Proofs.YtnpideapdjomgaaDoor
open Go.RowKit Go.ChangeShapes Go.WideShapes Go.Deep

section
variable {re : List Nd} {bx c n : Nat} {A : Option Addr} {S : Blocks} (hn : Hid (n = re.length)) (hnc : n ≤ c) (hcm : c ≤ 9223372036854775807) (hS : Hid (∀ b, S b → b < bx))
include hn hnc hcm hS
omit hn hcm hS in
set_option maxRecDepth 100000 in
set_option maxHeartbeats 4000000 in
/-- Too deep. -/
theorem node_deep (gp : Nat) (s : Nat × List Bool) (v : Value) (w : World) (H : Hid (LookB w bx A c n s v)) :
    Calls Tryd.prog 48 #[.pointer (some ⟨bx, 0, none⟩), .int .i64 260, .int .i64 (gp : Nat)] w (NodePost re 0 gp s w bx A c n v) := by
  obtain ⟨i, l⟩ := s
  have c0 := H.out.c0
  have c1 := H.out.c1
  have hle : i ≤ n := H.out.le
  simp only at c1
  by_cases hi : i = n
  · subst hi
    have h1 : ((i : Int) == (i : Int)) = true := by simp
    go_enter Tryd.func48, Tryd.ntmps48
    go_wp2_with fail
    go_quiet (fail)
    go_wp2_with fail
    go_ret
    exact ⟨false, rfl, (Only.refl _ w).drewN _, rfl⟩
  · have h1 : ((i : Int) == (n : Int)) = false := by rw [beq_eq_false_iff_ne]; omega
    go_enter Tryd.func48, Tryd.ntmps48
    go_wp2_with fail
    go_quiet (fail)
    go_wp2_with fail
    go_ret
    exact ⟨false, rfl, (Only.refl _ w).drewN _, rfl⟩

/-- What the call of a deeper node gives. -/
def NodeIH (re : List Nd) (bx c n : Nat) (A : Option Addr) (S : Blocks) (f k : Nat) : Prop :=
  ∀ (gp : Nat) (s : Nat × List Bool) (v : Value) (w : World), gp ≤ 64 → Hid (LookB w bx A c n s v) → Hid (SliceAt Rep.nd w S A c re) →
    Calls Tryd.prog 48 #[.pointer (some ⟨bx, 0, none⟩), .int .i64 ((k : Int) + 1), .int .i64 (gp : Nat)] w (NodePost re f gp s w bx A c n v)
set_option maxRecDepth 100000 in
set_option maxHeartbeats 4000000 in
theorem node_step (f k gp : Nat) (hk : k ≤ 259) (hg : gp ≤ 64) (s : Nat × List Bool) (v : Value) (w : World) (H : Hid (LookB w bx A c n s v)) (HR : Hid (SliceAt Rep.nd w S A c re)) (IH : Hid (NodeIH re bx c n A S f k)) :
    Calls Tryd.prog 48 #[.pointer (some ⟨bx, 0, none⟩), .int .i64 (k : Nat), .int .i64 (gp : Nat)] w (NodePost re (f + 1) gp s w bx A c n v) := by
  obtain ⟨i, l⟩ := s
  have c0 := H.out.c0
  have c1 := H.out.c1
  have hle : i ≤ n := H.out.le
  simp only at c1
  by_cases hi : i = n
  · have HF : Hid (Syn.nodeF re (f + 1) gp (i, l) = none) := Lib.hid (by rw [Syn.nodeF]; simp only; rw [List.getElem?_eq_none (by rw [← hn.out]; omega)])
    subst hi
    have h1 : ((i : Int) == (i : Int)) = true := by simp
    go_enter Tryd.func48, Tryd.ntmps48
    go_wp2_with fail
    go_quiet (fail)
    go_wp2_with fail
    go_ret
    exact ⟨false, rfl, (Only.refl _ w).drewN _, by rw [HF.out]⟩
  have h1 : ((i : Int) == (n : Int)) = false := by rw [beq_eq_false_iff_ne]; omega
  have hkb : decide ((259 : Int) < (k : Int)) = false := by simp; omega
  have hlt : i < n := by omega
  have hil : i < re.length := by rw [← hn.out]; omega
  obtain ⟨g, o, rfl, hSg, hcs, hok⟩ := nd_at HR.out (Same.refl _ w) hil
  obtain ⟨⟨op, q0, q1, q2, q3, nn, mn, mx, kd⟩, hx⟩ : ∃ x, x = re[i] := ⟨_, rfl⟩
  rw [← hx] at hcs hok
  have d0 : w.cell? ⟨g, o + i * 9, none⟩ = some (.int .i8 op) := hcs 0 _ rfl
  have d1 : w.cell? ⟨g, o + i * 9 + 1, none⟩ = some (.int .u64 q0) := hcs 1 _ rfl
  have d2 : w.cell? ⟨g, o + i * 9 + 2, none⟩ = some (.int .u64 q1) := hcs 2 _ rfl
  have d3 : w.cell? ⟨g, o + i * 9 + 3, none⟩ = some (.int .u64 q2) := hcs 3 _ rfl
  have d4 : w.cell? ⟨g, o + i * 9 + 4, none⟩ = some (.int .u64 q3) := hcs 4 _ rfl
  have d5 : w.cell? ⟨g, o + i * 9 + 5, none⟩ = some (.int .i64 nn) := hcs 5 _ rfl
  have d6 : w.cell? ⟨g, o + i * 9 + 6, none⟩ = some (.int .i64 mn) := hcs 6 _ rfl
  have d7 : w.cell? ⟨g, o + i * 9 + 7, none⟩ = some (.int .i64 mx) := hcs 7 _ rfl
  have d8 : w.cell? ⟨g, o + i * 9 + 8, none⟩ = some (.int .i64 kd) := hcs 8 _ rfl
  have HX : Hid (re[i]? = some ⟨op, q0, q1, q2, q3, nn, mn, mx, kd⟩) := Lib.hid (by rw [List.getElem?_eq_getElem hil, hx])
  have HOK := Lib.hid hok
  have hgb : g < bx := hS.out g hSg
  obtain ⟨b0, hb0⟩ : ∃ b0, b0 = Syn.okN ⟨op, q0, q1, q2, q3, nn, mn, mx, kd⟩ := ⟨_, rfl⟩
  have HB0 := Lib.hid hb0
  have HSH : Hid (∀ wa, Calls Tryd.prog 59 #[.agg #[.int .i8 op, .int .u64 q0, .int .u64 q1, .int .u64 q2, .int .u64 q3, .int .i64 nn, .int .i64 mn, .int .i64 mx, .int .i64 kd]] wa fun e w' => e = .returned (.bool b0) ∧ Below wa.heap.size wa w') := Lib.hid fun wa => by rw [hb0]; exact synOne_any _ wa
  obtain ⟨SW, hSW⟩ : ∃ SW : World → Prop, SW = fun wa => Below w.heap.size w wa ∧ wa.cell? ⟨bx, 0, none⟩ = some (.slice (some ⟨g, o, none⟩) n c) ∧ wa.cell? ⟨bx, 1, none⟩ = some (.int .i64 (i : Nat)) ∧ wa.cell? ⟨g, o + i * 9, none⟩ = some (.int .i8 op) ∧ wa.cell? ⟨g, o + i * 9 + 1, none⟩ = some (.int .u64 q0) ∧ wa.cell? ⟨g, o + i * 9 + 2, none⟩ = some (.int .u64 q1) ∧ wa.cell? ⟨g, o + i * 9 + 3, none⟩ = some (.int .u64 q2) ∧ wa.cell? ⟨g, o + i * 9 + 4, none⟩ = some (.int .u64 q3) ∧ wa.cell? ⟨g, o + i * 9 + 5, none⟩ = some (.int .i64 nn) ∧ wa.cell? ⟨g, o + i * 9 + 6, none⟩ = some (.int .i64 mn) ∧ wa.cell? ⟨g, o + i * 9 + 7, none⟩ = some (.int .i64 mx) ∧ wa.cell? ⟨g, o + i * 9 + 8, none⟩ = some (.int .i64 kd) := ⟨_, rfl⟩
  have HK : Hid (∀ wa wb : World, SW wa → Below wa.heap.size wa wb → SW wb) := Lib.hid (by
    rw [hSW]
    rintro wa wb ⟨a, b0, b1, b2, b3, b4, b5, b6, b7, b8, b9, b10⟩ hb
    have key : ∀ {p : Addr} {u : Value}, wa.cell? p = some u → wb.cell? p = some u := fun h => (hb.cell (World.block_lt_of_cell? wa _ h)).trans h
    exact ⟨a.trans (hb.mono a.size), key b0, key b1, key b2, key b3, key b4, key b5, key b6, key b7, key b8, key b9, key b10⟩)
  have HK0 : Hid (SW w.drew) := Lib.hid (by rw [hSW]; exact ⟨⟨rfl, rfl, rfl, Nat.le_refl _, fun _ _ => rfl⟩, c0, c1, d0, d1, d2, d3, d4, d5, d6, d7, d8⟩)
  clear hb0 hcs hok hx hSg
  go_enter Tryd.func48, Tryd.ntmps48
  go_wp2_with fail
  go_cut [35] from 8 (fun v35 wc => v35 = .bool (!b0) ∧ Below w.heap.size w wc)
  case first =>
    subst hSW
    go_region_held3 (fun wa => Below w.heap.size w wa ∧ wa.cell? ⟨bx, 0, none⟩ = some (.slice (some ⟨g, o, none⟩) n c) ∧ wa.cell? ⟨bx, 1, none⟩ = some (.int .i64 (i : Nat)) ∧ wa.cell? ⟨g, o + i * 9, none⟩ = some (.int .i8 op) ∧ wa.cell? ⟨g, o + i * 9 + 1, none⟩ = some (.int .u64 q0) ∧ wa.cell? ⟨g, o + i * 9 + 2, none⟩ = some (.int .u64 q1) ∧ wa.cell? ⟨g, o + i * 9 + 3, none⟩ = some (.int .u64 q2) ∧ wa.cell? ⟨g, o + i * 9 + 4, none⟩ = some (.int .u64 q3) ∧ wa.cell? ⟨g, o + i * 9 + 5, none⟩ = some (.int .i64 nn) ∧ wa.cell? ⟨g, o + i * 9 + 6, none⟩ = some (.int .i64 mn) ∧ wa.cell? ⟨g, o + i * 9 + 7, none⟩ = some (.int .i64 mx) ∧ wa.cell? ⟨g, o + i * 9 + 8, none⟩ = some (.int .i64 kd))
      (first | exact HK0.out | exact HK.out _ _ (by assumption) (by assumption) | fail)
      (first | (go_at_call 59; refine (HSH.out _).mono ?_; rintro e w2 ⟨rfl, hb2⟩) | fail)
    all_goals
      go_wp2_with fail
      go_meet
      case rel => exact ⟨rfl, And.left (by assumption)⟩
  case rest =>
    obtain ⟨rfl, hbc⟩ := hcut
    obtain ⟨w1, rfl⟩ : ∃ W : World, W = wc := ⟨_, rfl⟩
    have HBC := Lib.hid hbc
    clear HSH HK HK0 hSW c0 c1 d0 d1 d2 d3 d4 d5 d6 d7 d8 hbc
    cases b0
    · have HF : Hid (Syn.nodeF re (f + 1) gp (i, l) = none) := Lib.hid (by rw [Syn.nodeF, HX.out]; simp only; rw [← HB0.out]; rfl)
      go_wp2_with fail
      go_ret
      exact ⟨false, rfl, Only.of_below HBC.out _, by rw [HF.out]⟩
    have HL1 : Hid (LookB w1 bx (some ⟨g, o, none⟩) c n (i, l) v) := Lib.hid (H.out.far HBC.out)
    have c0 := HL1.out.c0
    have c1 := HL1.out.c1
    simp only at c1
    obtain ⟨_, _, he, -, hcs, -⟩ := nd_at HR.out (Same.of_below HBC.out fun b hb => Nat.lt_trans (hS.out b hb) H.out.lt) hil
    simp only [Option.some.injEq, Addr.mk.injEq] at he
    obtain ⟨rfl, rfl, -⟩ := he
    have hx2 : re[i] = ⟨op, q0, q1, q2, q3, nn, mn, mx, kd⟩ := Option.some.inj ((List.getElem?_eq_getElem hil).symm.trans HX.out)
    rw [hx2] at hcs
    have d0 : w1.cell? ⟨g, o + i * 9, none⟩ = some (.int .i8 op) := hcs 0 _ rfl
    have d1 : w1.cell? ⟨g, o + i * 9 + 1, none⟩ = some (.int .u64 q0) := hcs 1 _ rfl
    have d2 : w1.cell? ⟨g, o + i * 9 + 2, none⟩ = some (.int .u64 q1) := hcs 2 _ rfl
    have d3 : w1.cell? ⟨g, o + i * 9 + 3, none⟩ = some (.int .u64 q2) := hcs 3 _ rfl
    have d4 : w1.cell? ⟨g, o + i * 9 + 4, none⟩ = some (.int .u64 q3) := hcs 4 _ rfl
    have d5 : w1.cell? ⟨g, o + i * 9 + 5, none⟩ = some (.int .i64 nn) := hcs 5 _ rfl
    have d6 : w1.cell? ⟨g, o + i * 9 + 6, none⟩ = some (.int .i64 mn) := hcs 6 _ rfl
    have d7 : w1.cell? ⟨g, o + i * 9 + 7, none⟩ = some (.int .i64 mx) := hcs 7 _ rfl
    have d8 : w1.cell? ⟨g, o + i * 9 + 8, none⟩ = some (.int .i64 kd) := hcs 8 _ rfl
    have hgn : g ≠ w1.heap.size := by have := HL1.out.lt; omega
    have hbn : bx ≠ w1.heap.size := by have := HL1.out.lt; omega
    have kca : ∀ (ob : Obj) (b j : Nat), b < w1.heap.size → (w1.alloc ob).cell? ⟨b, j, none⟩ = w1.cell? ⟨b, j, none⟩ := fun ob b j hb => World.cell?_of_block (Below.heap_alloc w1 ob b hb)
    have c0a : ∀ ob, (w1.alloc ob).cell? ⟨bx, 0, none⟩ = some (.slice (some ⟨g, o, none⟩) n c) := fun ob => (kca ob _ _ (World.block_lt_of_cell? w1 _ c0)).trans c0
    have c1a : ∀ ob, (w1.alloc ob).cell? ⟨bx, 1, none⟩ = some (.int .i64 (i : Nat)) := fun ob => (kca ob _ _ (World.block_lt_of_cell? w1 _ c1)).trans c1
    have d0a : ∀ ob, (w1.alloc ob).cell? ⟨g, o + i * 9, none⟩ = some (.int .i8 op) := fun ob => (kca ob _ _ (World.block_lt_of_cell? w1 _ d0)).trans d0
    have d1a : ∀ ob, (w1.alloc ob).cell? ⟨g, o + i * 9 + 1, none⟩ = some (.int .u64 q0) := fun ob => (kca ob _ _ (World.block_lt_of_cell? w1 _ d1)).trans d1
    have d2a : ∀ ob, (w1.alloc ob).cell? ⟨g, o + i * 9 + 2, none⟩ = some (.int .u64 q1) := fun ob => (kca ob _ _ (World.block_lt_of_cell? w1 _ d2)).trans d2
    have d3a : ∀ ob, (w1.alloc ob).cell? ⟨g, o + i * 9 + 3, none⟩ = some (.int .u64 q2) := fun ob => (kca ob _ _ (World.block_lt_of_cell? w1 _ d3)).trans d3
    have d4a : ∀ ob, (w1.alloc ob).cell? ⟨g, o + i * 9 + 4, none⟩ = some (.int .u64 q3) := fun ob => (kca ob _ _ (World.block_lt_of_cell? w1 _ d4)).trans d4
    have d5a : ∀ ob, (w1.alloc ob).cell? ⟨g, o + i * 9 + 5, none⟩ = some (.int .i64 nn) := fun ob => (kca ob _ _ (World.block_lt_of_cell? w1 _ d5)).trans d5
    have d6a : ∀ ob, (w1.alloc ob).cell? ⟨g, o + i * 9 + 6, none⟩ = some (.int .i64 mn) := fun ob => (kca ob _ _ (World.block_lt_of_cell? w1 _ d6)).trans d6
    have d7a : ∀ ob, (w1.alloc ob).cell? ⟨g, o + i * 9 + 7, none⟩ = some (.int .i64 mx) := fun ob => (kca ob _ _ (World.block_lt_of_cell? w1 _ d7)).trans d7
    have d8a : ∀ ob, (w1.alloc ob).cell? ⟨g, o + i * 9 + 8, none⟩ = some (.int .i64 kd) := fun ob => (kca ob _ _ (World.block_lt_of_cell? w1 _ d8)).trans d8
    clear hcs hx2 kca
    go_upto_region 3 with fail
    go_cut [7] from 36 (fun v7 wc => v7 = .pointer (some ⟨w1.heap.size, 0, none⟩) ∧ Hid (Below w1.heap.size w1 wc ∧ wc.heap[w1.heap.size]? = some (.cells (ncells ⟨op, q0, q1, q2, q3, nn, mn, mx, kd⟩).toArray 66 (0, 0))))
    case first =>
      go_region
      go_wp2_with fail
      go_meet
      case rel => exact ⟨rfl, Lib.hid ⟨(Below.alloc (Below.refl _ _) (Nat.le_refl _) _).drew, heap_alloc_new _ _⟩⟩
    case rest =>
      obtain ⟨rfl, HW2⟩ := hcut
      obtain ⟨w2, rfl⟩ : ∃ W : World, W = wc := ⟨_, rfl⟩
      have hlt2 : bx < w1.heap.size := HL1.out.lt
      obtain ⟨nb, hnb⟩ : ∃ nb, nb = w1.heap.size := ⟨_, rfl⟩
      rw [← hnb] at hlt2
      have HNB := Lib.hid hnb
      rw [← hnb] at HW2 ⊢
      have HL2 : Hid (LookB w2 bx (some ⟨g, o, none⟩) c n (i, l) v) := Lib.hid (HL1.out.far (by rw [← HNB.out]; exact HW2.out.1))
      have HV : Hid (∀ b, v.ownBlock = some b → b < nb) := Lib.hid fun b hb => by
        obtain ⟨xs, ho, _⟩ := HL1.out.own
        rw [HNB.out]; exact (ho.lt b hb).2
      have HO2 : Hid (Only (LX bx v) w w2) := Lib.hid ((Only.of_below HBC.out _).trans (Only.of_below (by rw [← HNB.out]; exact HW2.out.1) (LX bx v)) fun _ h => .inl h)
      have HN2 : Hid (w2.heap[nb]? = some (.cells (ncells ⟨op, q0, q1, q2, q3, nn, mn, mx, kd⟩).toArray 66 (0, 0))) := Lib.hid HW2.out.2
      clear hgn hbn c0 c1 d0 d1 d2 d3 d4 d5 d6 d7 d8 c0a c1a d0a d1a d2a d3a d4a d5a d6a d7a d8a
      have c1 := HL2.out.c1
      have f1 := HL2.out.fz 1
      simp only at c1
      have HNBW : Hid (nb = w1.heap.size ∧ w1.heap.size < w2.heap.size) := Lib.hid ⟨HNB.out, by
        have := (Array.getElem?_eq_some_iff.1 HN2.out).1
        rw [HNB.out] at this; exact this⟩
      clear hnb HL1 HW2
      go_upto_region 5 with fail
      have HL3 : Hid (LookB (w2.setCell ⟨bx, 1, none⟩ (.int .i64 ((i : Int) + 1))) bx (some ⟨g, o, none⟩) c n (i + 1, l) v) := Lib.hid (HL2.out.go (i + 1) hlt)
      have HO3 : Hid (Only (LX bx v) w (w2.setCell ⟨bx, 1, none⟩ (.int .i64 ((i : Int) + 1)))) := Lib.hid (HO2.out.setCell (.inl (.inl rfl)) _)
      have HN3 : Hid ((w2.setCell ⟨bx, 1, none⟩ (.int .i64 ((i : Int) + 1))).heap[nb]? = some (.cells (ncells ⟨op, q0, q1, q2, q3, nn, mn, mx, kd⟩).toArray 66 (0, 0))) := Lib.hid (by rw [Below.heap_setCell _ _ _ _ (show nb ≠ bx by omega)]; exact HN2.out)
      generalize w2.setCell ⟨bx, 1, none⟩ (.int .i64 ((i : Int) + 1)) = w3 at HL3 HO3 HN3 ⊢
      clear HL2 HO2 HN2 c1 f1 HNBW
      have e0 : w3.cell? ⟨nb, 0, none⟩ = some (.int .i8 op) := (cell_of_row w3 nb 0 _ _ (0, 0) HN3.out).trans rfl
      have e5 : w3.cell? ⟨nb, 5, none⟩ = some (.int .i64 nn) := (cell_of_row w3 nb 5 _ _ (0, 0) HN3.out).trans rfl
      have c2 := HL3.out.c2
      obtain ⟨gp2, hgp2⟩ : ∃ gp2, gp2 = Syn.deeper ⟨op, q0, q1, q2, q3, nn, mn, mx, kd⟩ gp := ⟨_, rfl⟩
      obtain ⟨l2, hl2⟩ : ∃ l2, l2 = Syn.opened ⟨op, q0, q1, q2, q3, nn, mn, mx, kd⟩ l := ⟨_, rfl⟩
      have HG2 := Lib.hid hgp2
      have HLL := Lib.hid hl2
      have HF : Hid (∀ hx : (Syn.refOk ⟨op, q0, q1, q2, q3, nn, mn, mx, kd⟩ l && Syn.grpOk ⟨op, q0, q1, q2, q3, nn, mn, mx, kd⟩ l gp) = false, Syn.nodeF re (f + 1) gp (i, l) = none) := Lib.hid (fun hx => by
        rw [Syn.nodeF, HX.out]; simp only; rw [Bool.and_assoc, hx, Bool.and_false]; rfl)
      clear hgp2 hl2
      go_upto_block 0 with fail
      go_cut [2] from 55 (fun v2 wc => v2 = .int .i64 (gp2 : Nat) ∧ Hid ((Syn.refOk ⟨op, q0, q1, q2, q3, nn, mn, mx, kd⟩ l && Syn.grpOk ⟨op, q0, q1, q2, q3, nn, mn, mx, kd⟩ l gp) = true ∧ gp2 ≤ 64 ∧ ∃ v1, LookB wc bx (some ⟨g, o, none⟩) c n (i + 1, l2) v1 ∧ Only (LX bx v) w wc ∧ wc.heap[nb]? = some (.cells (ncells ⟨op, q0, q1, q2, q3, nn, mn, mx, kd⟩).toArray 66 (0, 0)) ∧ ∀ b, v1.ownBlock = some b → v.ownBlock = some b ∨ w.heap.size ≤ b))
      case first =>
        by_cases h8 : op = 8
        · subst h8
          have hg2 : gp2 = gp := by rw [HG2.out]; rfl
          have hll : l2 = l := by rw [HLL.out]; rfl
          have HREF : Hid ((Syn.refOk ⟨8, q0, q1, q2, q3, nn, mn, mx, kd⟩ l && Syn.grpOk ⟨8, q0, q1, q2, q3, nn, mn, mx, kd⟩ l gp) = (decide (1 ≤ nn) && decide (nn ≤ (l.length : Int)) && l.getD (nn.toNat - 1) false)) := Lib.hid (by simp [Syn.refOk, Syn.grpOk])
          subst hg2 hll
          obtain ⟨A1, ln, k1, rfl, hln, hk1, hk2⟩ := HL3.out.own.form
          have HLN := hln
          clear hln
          by_cases hn1 : nn < 1
          · have hdec : decide (nn < 1) = true := by simpa using hn1
            have hdec' : Hid (decide (1 ≤ nn) = false) := Lib.hid (by simpa using hn1)
            clear hn1
            go_upto_region 7 with fail
            go_quiet (fail)
            go_wp2_with fail
            go_ret
            exact ⟨false, rfl, HO3.out.drewN _, by rw [HF.out (by rw [HREF.out, hdec'.out]; rfl)]⟩
          obtain ⟨m, rfl⟩ : ∃ m : Nat, nn = (m : Int) + 1 := ⟨(nn - 1).toNat, by omega⟩
          have hdec : decide ((m : Int) + 1 < 1) = false := by simp; omega
          by_cases hn2 : ln ≤ m
          · have hdec2 : decide ((ln : Int) < (m : Int) + 1) = true := by simp; omega
            have hdec' : Hid (decide ((m : Int) + 1 ≤ (l2.length : Int)) = false) := Lib.hid (by rw [← HLN.out]; simp; omega)
            clear hn2
            go_upto_region 7 with fail
            go_quiet (fail)
            go_wp2_with fail
            go_ret
            exact ⟨false, rfl, HO3.out.drewN _, by rw [HF.out (by rw [HREF.out, hdec'.out]; simp)]⟩
          have hml : m < ln := by omega
          have hdec2 : decide ((ln : Int) < (m : Int) + 1) = false := by simp; omega
          obtain ⟨ge, oe, -, hge, hsl⟩ : ∃ ge oe, True ∧ A1 = some ⟨ge, oe, none⟩ ∧ w3.cell? ⟨ge, oe + m, none⟩ = some (.bool (l2.getD m false)) := by
            obtain ⟨_, _, he, hsl⟩ := HL3.out.own.slice
            simp only [Value.slice.injEq] at he
            obtain ⟨rfl, -, rfl⟩ := he
            have hm2 : m < l2.length := by rw [← HLN.out]; exact hml
            obtain ⟨ge, oe, e, -, hcell⟩ := hsl.bools (i := m) hm2
            exact ⟨ge, oe, trivial, e, by rw [hcell, List.getD_eq_getElem?_getD, List.getElem?_eq_getElem hm2]; rfl⟩
          obtain ⟨bt, hbt⟩ : ∃ bt, bt = l2.getD m false := ⟨_, rfl⟩
          rw [← hbt] at hsl
          subst hge
          have HBT := Lib.hid hbt
          have hwr : IntKind.i64.wrap ((m : Int) + 1 - 1) = (m : Int) := by rw [IntWalk.i64_in _ (by omega)]; omega
          have HREF2 : Hid ((decide (1 ≤ (m : Int) + 1) && decide ((m : Int) + 1 ≤ (l2.length : Int)) && l2.getD (((m : Int) + 1).toNat - 1) false) = bt) := Lib.hid (by
            have e1 : ((m : Int) + 1).toNat - 1 = m := by omega
            have e2 : decide (1 ≤ (m : Int) + 1) = true := by simp; omega
            have e3 : decide ((m : Int) + 1 ≤ (l2.length : Int)) = true := by rw [← HLN.out]; simp; omega
            rw [e1, e2, e3, ← hbt]; rfl)
          clear hbt hn1 hn2
          go_upto_region 7 with fail
          cases bt
          · go_quiet (fail)
            go_wp2_with fail
            go_ret
            exact ⟨false, rfl, HO3.out.drewN _, by rw [HF.out (by rw [HREF.out, HREF2.out])]⟩
          · go_quiet (fail)
            go_wp2_with fail
            go_meet
            case rel => exact ⟨rfl, Lib.hid ⟨by rw [HREF.out, HREF2.out], hg, _, HL3.out.far ⟨rfl, rfl, rfl, Nat.le_refl _, fun _ _ => rfl⟩, HO3.out.drewN _, HN3.out, fun b hb => .inl hb⟩⟩
        by_cases h7 : op = 7
        · subst h7
          have hll : l2 = l ++ [false] := by rw [HLL.out]; rfl
          obtain ⟨cd, hcd⟩ : ∃ cd, cd = (nn == (l.length : Int) + 1 && decide (nn ≤ 255) && gp != 64) := ⟨_, rfl⟩
          have HREF : Hid ((Syn.refOk ⟨7, q0, q1, q2, q3, nn, mn, mx, kd⟩ l && Syn.grpOk ⟨7, q0, q1, q2, q3, nn, mn, mx, kd⟩ l gp) = cd) := Lib.hid (by rw [hcd]; simp [Syn.refOk, Syn.grpOk])
          have hg7 : gp2 = gp + 1 := by rw [HG2.out]; rfl
          subst hg7 hll
          have HCD := Lib.hid hcd
          clear hcd h8
          have hbn3 : bx < w3.heap.size := HL3.out.lt
          have hnn3 : nb < w3.heap.size := (Array.getElem?_eq_some_iff.1 HN3.out).1
          have HVN : Hid (v.ownBlock ≠ some nb) := Lib.hid fun e => by have := HV.out nb e; omega
          have HVX : Hid (v.ownBlock ≠ some bx) := Lib.hid fun e => by have := HL3.out.ob bx e; omega
          obtain ⟨A1, ln, k1, rfl, hln, hk1, hk2⟩ := HL3.out.own.form
          have hsh : l.length ≤ 255 := HL3.out.short
          go_upto_region 11 with (at_builtin; refine wpList_append_Own _ rfl (.tmp 88) (.tmp 89) 83 rfl Rep.bool 0 4 1 stBools22 nob (.slice A1 ln k1) l rfl (HL3.out.own.alloc _) _ _ _ [false] rfl (SliceAt.newOne22 Rep.bool _ _ _ _ _ (by exact rfl) (by simp)) nob (fun _ h => h.elim) (fun _ h => h) (fun _ _ h => h) (by simp; omega) (by simp; omega) (Nat.zero_le _) ?_; intro v4 w4 hown4 hg4 hat4; have hb4 := (hg4.block bx (by simp; omega) (fun e => HVX.out e.symm)).trans (Below.heap_alloc w3 _ bx hbn3); have hn4 := (hg4.block nb (by simp; omega) (fun e => HVN.out e.symm)).trans (Below.heap_alloc w3 _ nb hnn3); obtain ⟨A4, n4, k4, rfl, hln4, hk41, hk42⟩ := hown4.form; have HLN4 := hln4; clear hln4; have hc4 : w4.cell? ⟨bx, 2, none⟩ = some (.slice A1 ln k1) := (cell_of_row w4 bx 2 _ _ (0, 0) (hb4.trans HL3.out.blk)).trans rfl; have hf4 : w4.frozen? ⟨bx, 2, none⟩ = false := frozen_row (hb4.trans HL3.out.blk); have hat5 := hat4; simp only [World.size_alloc] at hat5; have HS4 : Hid (w3.heap.size + 1 ≤ w4.heap.size) := Lib.hid (by have := hg4.size; simpa using this); have HAT4 : Hid ((Value.slice A4 n4 k4).ownBlock = (Value.slice A1 ln k1).ownBlock ∨ (Value.slice A4 n4 k4).ownBlock = some (w3.heap.size + 1)) := Lib.hid hat5; have HO4 : Hid (Only (LX bx (.slice A1 ln k1)) w w4) := Lib.hid ((HO3.out.alloc _).grown hg4 fun b hb => .inl (.inr hb.symm)); have HB4 := Lib.hid hb4; have HN4 := Lib.hid hn4; have HOWN4 := Lib.hid hown4; clear hown4 hg4 hat4 hat5 hb4 hn4)
          have HL5 : Hid (∀ h : (l ++ [false]).length ≤ 255, LookB (w4.setCell ⟨bx, 2, none⟩ (.slice A4 n4 k4)) bx (some ⟨g, o, none⟩) c n (i + 1, l ++ [false]) (.slice A4 n4 k4)) := Lib.hid fun h => HL3.out.row HOWN4.out HB4.out (fun b hb => by
            rcases HAT4.out with e | e
            · exact HL3.out.ob b (by rw [← e]; exact hb)
            · rw [hb] at e; simp only [Option.some.injEq] at e; omega) h
          have HO5 : Hid (Only (LX bx (.slice A1 ln k1)) w (w4.setCell ⟨bx, 2, none⟩ (.slice A4 n4 k4))) := Lib.hid (HO4.out.setCell (.inl (.inl rfl)) _)
          have HN5 : Hid ((w4.setCell ⟨bx, 2, none⟩ (.slice A4 n4 k4)).heap[nb]? = some (.cells (ncells ⟨7, q0, q1, q2, q3, nn, mn, mx, kd⟩).toArray 66 (0, 0))) := Lib.hid (by rw [Below.heap_setCell _ _ _ _ (show nb ≠ bx by omega)]; exact HN4.out.trans HN3.out)
          have HC5 : Hid ((w4.setCell ⟨bx, 2, none⟩ (.slice A4 n4 k4)).cell? ⟨bx, 2, none⟩ = some (.slice A4 n4 k4)) := Lib.hid ((cell_of_row _ bx 2 _ _ (0, 0) (show (w4.setCell ⟨bx, 2, none⟩ (.slice A4 n4 k4)).heap[bx]? = some (.cells #[.slice (some ⟨g, o, none⟩) n c, .int .i64 (i + 1 : Nat), .slice A4 n4 k4] 85 (0, 0)) from by simp [World.setCell, Array.getElem?_modify, HB4.out, HL3.out.blk])).trans rfl)
          have HS5 : Hid (w3.heap.size ≤ w4.heap.size ∧ w.heap.size ≤ w3.heap.size) := Lib.hid ⟨Nat.le_of_lt (Nat.lt_of_lt_of_le (Nat.lt_succ_self _) HS4.out), HO3.out.size⟩
          generalize w4.setCell ⟨bx, 2, none⟩ (.slice A4 n4 k4) = w5 at HL5 HO5 HN5 HC5 ⊢
          clear e0 e5 c2 hc4 hf4
          have e5 : w5.cell? ⟨nb, 5, none⟩ = some (.int .i64 nn) := (cell_of_row w5 nb 5 _ _ (0, 0) HN5.out).trans rfl
          have c2 := HC5.out
          have hl4 : n4 = l.length + 1 := by rw [HLN4.out]; simp
          by_cases hne : nn = (n4 : Int)
          · have hb1 : (nn != (n4 : Int)) = false := by rw [hne]; simp
            by_cases h255 : 255 < nn
            · have hb2 : decide (255 < nn) = true := by simpa using h255
              have HCF : Hid (cd = false) := Lib.hid (by rw [HCD.out, show decide (nn ≤ 255) = false from by simp; omega]; simp)
              clear hne h255 hl4
              go_upto_region 11 with fail
              go_quiet (fail)
              go_wp2_with fail
              go_ret
              exact ⟨false, rfl, HO5.out.drewN _, by rw [HF.out (by rw [HREF.out, HCF.out])]⟩
            · have hb2 : decide (255 < nn) = false := by simpa using h255
              have hle5 : n4 ≤ 255 := by omega
              by_cases hg64 : gp = 64
              · have hb3 : ((gp : Int) == 64) = true := by rw [hg64]; rfl
                have HCF : Hid (cd = false) := Lib.hid (by rw [HCD.out, hg64]; simp)
                clear hne h255 hl4 hg64
                go_upto_region 11 with fail
                go_quiet (fail)
                go_wp2_with fail
                go_ret
                exact ⟨false, rfl, HO5.out.drewN _, by rw [HF.out (by rw [HREF.out, HCF.out])]⟩
              · have hb3 : ((gp : Int) == 64) = false := by rw [beq_eq_false_iff_ne]; omega
                have HCT : Hid (cd = true) := Lib.hid (by rw [HCD.out, hne, hl4]; simp; omega)
                have hg65 : gp + 1 ≤ 64 := by omega
                have HLEN : Hid ((l ++ [false]).length ≤ 255) := Lib.hid (by rw [← HLN4.out]; exact hle5)
                clear hne h255 hl4 hg64
                go_upto_region 11 with fail
                go_quiet (fail)
                go_wp2_with fail
                go_meet
                case rel => exact ⟨by simp, Lib.hid ⟨by rw [HREF.out, HCT.out], hg65, _, (HL5.out HLEN.out).far ⟨rfl, rfl, rfl, Nat.le_refl _, fun _ _ => rfl⟩, HO5.out.drewN _, HN5.out, fun b hb => by
                  rcases HAT4.out with e | e
                  · exact .inl (by rw [← e]; exact hb)
                  · rw [hb] at e; simp only [Option.some.injEq] at e; have := HS5.out; exact .inr (by omega)⟩⟩
          · have hb1 : (nn != (n4 : Int)) = true := by simpa using hne
            have HCF : Hid (cd = false) := Lib.hid (by rw [HCD.out, show (nn == (l.length : Int) + 1) = false from by rw [beq_eq_false_iff_ne]; omega]; rfl)
            clear hne hl4
            go_upto_region 11 with fail
            go_quiet (fail)
            go_wp2_with fail
            go_ret
            exact ⟨false, rfl, HO5.out.drewN _, by rw [HF.out (by rw [HREF.out, HCF.out])]⟩
        have hb8 : (op == 8) = false := by simpa using h8
        have hb7 : (op == 7) = false := by simpa using h7
        have hg2 : gp2 = gp := by rw [HG2.out]; simp [Syn.deeper, hb7]
        have hll : l2 = l := by rw [HLL.out]; simp [Syn.opened, hb7]
        subst hg2 hll
        go_wp2_with fail
        go_meet
        case rel => exact ⟨rfl, Lib.hid ⟨by simp [Syn.refOk, Syn.grpOk, h7, h8], hg, v, HL3.out, HO3.out, HN3.out, fun b hb => .inl hb⟩⟩
      case rest =>
        obtain ⟨rfl, HC⟩ := hcut
        obtain ⟨w6, rfl⟩ : ∃ W : World, W = wc := ⟨_, rfl⟩
        obtain ⟨hok6, hg6, v6, hL6, hO6, hN6, hv6⟩ := HC.out
        obtain ⟨K, hK⟩ : ∃ K : Nat, kd = (K : Int) := ⟨kd.toNat, by have := Syn.okN_kids HB0.out.symm; simp only at this; omega⟩
        subst hK
        obtain ⟨LR, hLR⟩ : ∃ LR : Nat → World → Prop, LR = fun q W => ∃ (s' : Nat × List Bool) (v' : Value), Syn.iterO (Syn.nodeF re f gp2) q (i + 1, l2) = some s' ∧ LookB W bx (some ⟨g, o, none⟩) c n s' v' ∧ Only (LX bx v) w W ∧ W.heap[nb]? = some (.cells (ncells ⟨op, q0, q1, q2, q3, nn, mn, mx, (K : Int)⟩).toArray 66 (0, 0)) ∧ ∀ b, v'.ownBlock = some b → v.ownBlock = some b ∨ w.heap.size ≤ b := ⟨_, rfl⟩
        have HLR := Lib.hid hLR
        have HR6 : Hid (LR 0 w6) := Lib.hid (by rw [hLR]; exact ⟨_, v6, rfl, hL6, hO6, hN6, hv6⟩)
        have HREF : Hid ((Syn.refOk ⟨op, q0, q1, q2, q3, nn, mn, mx, (K : Int)⟩ l && Syn.grpOk ⟨op, q0, q1, q2, q3, nn, mn, mx, (K : Int)⟩ l gp) = true) := Lib.hid hok6
        have HNF : Hid (∀ q : Nat, q ≤ K → Syn.iterO (Syn.nodeF re f gp2) q (i + 1, l2) = none → Syn.nodeF re (f + 1) gp (i, l) = none) := Lib.hid (fun q hq hx => by
          rw [Syn.nodeF, HX.out]
          simp only
          rw [Bool.and_assoc, HREF.out, ← HB0.out, ← HG2.out, ← HLL.out]
          simp only [Bool.and_self, if_true]
          rw [Int.toNat_natCast, Syn.iterO_none _ q _ hx K hq])
        have HNS : Hid (∀ s', Syn.iterO (Syn.nodeF re f gp2) K (i + 1, l2) = some s' → Syn.nodeF re (f + 1) gp (i, l) = some (s'.1, Syn.ended ⟨op, q0, q1, q2, q3, nn, mn, mx, (K : Int)⟩ s'.2)) := Lib.hid (fun s' hx => by
          rw [Syn.nodeF, HX.out]
          simp only
          rw [Bool.and_assoc, HREF.out, ← HB0.out, ← HG2.out, ← HLL.out]
          simp only [Bool.and_self, if_true]
          rw [Int.toNat_natCast, hx])
        have e8 : w6.cell? ⟨nb, 8, none⟩ = some (.int .i64 (K : Nat)) := (cell_of_row w6 nb 8 _ _ (0, 0) hN6).trans rfl
        have HNX : Hid (nb ≠ bx) := Lib.hid (by omega)
        have hKm : (K : Int) ≤ 9223372036854775807 := by
          have := HOK.out.kids
          simp [Lit.wf, IntKind.min, IntKind.max, IntKind.signed, IntKind.bits] at this
          omega
        clear hok6 hL6 hO6 hN6 hv6 HC hLR HF
        go_wp2_with fail
        go_loopg [114] K (fun j v114 wr => ∃ q : Nat, q ≤ K ∧ v114 = .int .i64 (q : Nat) ∧ j = K - q ∧ Hid (LR q wr))
        case atStart => exact ⟨0, Nat.zero_le _, rfl, rfl, HR6⟩
        case round =>
          obtain ⟨q, hqK, rfl, hj, HRQ⟩ := hrel
          obtain ⟨wq, rfl⟩ : ∃ W : World, W = wr := ⟨_, rfl⟩
          by_cases hq : q < K
          · have hRQ := HRQ.out
            rw [HLR.out] at hRQ
            obtain ⟨s7, v7, hit, hL7, hO7, hN7, hv7⟩ := hRQ
            have HL7 := Lib.hid hL7
            have HIT := Lib.hid hit
            have HSL : Hid (SliceAt Rep.nd wq S (some ⟨g, o, none⟩) c re) := Lib.hid (HR.out.keep (fun _ h => h) (hO7.same fun b hb => ⟨Nat.lt_trans (hS.out b hb) H.out.lt, fun h => by
              have hb' := hS.out b hb
              rcases h with h | h
              · omega
              · have := H.out.ob b h; omega⟩))
            have HCALL := Lib.hid (IH.out gp2 s7 v7 wq hg6 HL7 HSL)
            have HO7 := Lib.hid hO7
            have HN7 := Lib.hid hN7
            have HV7 := Lib.hid hv7
            have HN7' : Hid (∀ W, Only (LX bx v7) wq W → W.heap[nb]? = wq.heap[nb]?) := Lib.hid fun W hW => hW.block nb (Array.getElem?_eq_some_iff.1 hN7).1 (fun h => by
              rcases h with h | h
              · exact HNX.out h
              · obtain ⟨xs, ho, _⟩ := hL7.own
                rcases ho.2 with ⟨rfl, -⟩ | ⟨g9, cap9, cur9, rfl, -, hg9, -⟩
                · cases h
                · simp only [Value.ownBlock, Option.some.injEq] at h
                  subst h
                  rw [hN7] at hg9
                  simp only [Option.some.injEq, Obj.cells.injEq] at hg9
                  exact absurd hg9.2.1 (by decide))
            have HO8 : Hid (∀ W, Only (LX bx v7) wq W → Only (LX bx v) w W) := Lib.hid fun W hW => hO7.trans hW fun b hb => by
              rcases hb with h | h
              · exact .inl (.inl h)
              · rcases hv7 b h with h | h
                · exact .inl (.inr h)
                · exact .inr h
            clear hit hL7 hO7 hN7 hv7
            go_upto_region 16 with fail
            go_wp2_with (go_at_call 48; refine HCALL.out.mono ?_; rintro e w8 ⟨bb, rfl, ho8, hm8⟩; have HO9 := Lib.hid ho8; have HM8 := Lib.hid hm8; clear ho8 hm8; cases bb)
            · go_ret
              have hno : Syn.nodeF re f gp2 s7 = none := by
                have := HM8.out
                cases hx : Syn.nodeF re f gp2 s7 with
                | none => rfl
                | some t => rw [hx] at this; exact absurd this.1 (by simp)
              refine ⟨false, rfl, HO8.out _ HO9.out, ?_⟩
              rw [HNF.out (q + 1) hq (by rw [Syn.iterO_snoc, HIT.out]; exact hno)]
            · obtain ⟨t8, ht8⟩ : ∃ t, Syn.nodeF re f gp2 s7 = some t := by
                have := HM8.out
                cases hx : Syn.nodeF re f gp2 s7 with
                | none => rw [hx] at this; exact absurd this (by simp)
                | some t => exact ⟨t, rfl⟩
              have hm9 := HM8.out
              rw [ht8] at hm9
              obtain ⟨-, v9, hL9, hv9⟩ := hm9
              go_roundg (K - (q + 1))
              case rel => exact ⟨q + 1, hq, by simp, rfl, Lib.hid (by
                rw [HLR.out]
                exact ⟨t8, v9, by rw [Syn.iterO_snoc, HIT.out]; exact ht8, hL9, HO8.out _ HO9.out, (HN7'.out _ HO9.out).trans HN7.out, fun b hb => by
                  rcases hv9 b hb with h | h
                  · exact HV7.out b h
                  · exact .inr (Nat.le_trans HO7.out.size h)⟩)⟩
              case measure => omega
          · obtain rfl : q = K := by omega
            have hRQ := HRQ.out
            rw [HLR.out] at hRQ
            obtain ⟨⟨i7, l7⟩, v7, hit, hL7, hO7, hN7, hv7⟩ := hRQ
            have HL7 := Lib.hid hL7
            have HS7 : Hid (Syn.nodeF re (f + 1) gp (i, l) = some (i7, Syn.ended ⟨op, q0, q1, q2, q3, nn, mn, mx, (q : Int)⟩ l7)) := Lib.hid (HNS.out _ hit)
            have HLE : Hid (l2.length ≤ l7.length) := Lib.hid (Syn.iterO_le _ (fun s => s.2.length) (fun s t => Syn.node_len re f gp2 s t) _ _ _ hit)
            have HO7 := Lib.hid hO7
            have HV7 := Lib.hid hv7
            have x0 : wq.cell? ⟨nb, 0, none⟩ = some (.int .i8 op) := (cell_of_row wq nb 0 _ _ (0, 0) hN7).trans rfl
            have x5 : wq.cell? ⟨nb, 5, none⟩ = some (.int .i64 nn) := (cell_of_row wq nb 5 _ _ (0, 0) hN7).trans rfl
            have x2 := hL7.c2
            clear hit hO7 hv7 hN7
            by_cases h7 : op = 7
            · subst h7
              have hgrp : nn = (l.length : Int) + 1 := by
                have := HREF.out
                simp only [Syn.refOk, Syn.grpOk] at this
                simp at this
                exact this.1.1
              obtain ⟨m, hm⟩ : ∃ m, m = l.length := ⟨_, rfl⟩
              rw [← hm] at hgrp
              subst hgrp
              have hl2 : l2.length = m + 1 := by rw [HLL.out, hm]; simp [Syn.opened]
              have HM7 : Hid (m < l7.length) := Lib.hid (by have := HLE.out; omega)
              obtain ⟨ge, ln7, k7, rfl⟩ : ∃ ge ln k, v7 = .slice (some ⟨ge, 0, none⟩) ln k := by
                obtain ⟨xs, ho, _⟩ := hL7.own
                rcases ho.2 with ⟨rfl, h0⟩ | ⟨g9, cap9, cur9, rfl, -⟩
                · have := HM7.out; simp only at h0; omega
                · exact ⟨g9, _, cap9, rfl⟩
              obtain ⟨A9, n9, k9, he9, hn9, hk9, hk9'⟩ := hL7.own.form
              simp only [Value.slice.injEq] at he9
              obtain ⟨-, rfl, rfl⟩ := he9
              have hmn : m < ln7 := by rw [hn9.out]; exact HM7.out
              have hcell : wq.cell? ⟨ge, m, none⟩ = some (.bool (l7.getD m false)) := by
                obtain ⟨_, _, he, hsl⟩ := hL7.own.slice
                simp only [Value.slice.injEq] at he
                obtain ⟨rfl, -, rfl⟩ := he
                obtain ⟨g1, o1, e, -, hc⟩ := hsl.bools (i := m) HM7.out
                simp only [Option.some.injEq, Addr.mk.injEq] at e
                obtain ⟨rfl, rfl, -⟩ := e
                rw [Nat.zero_add] at hc
                rw [hc, List.getD_eq_getElem?_getD, List.getElem?_eq_getElem HM7.out]; rfl
              have hfz : wq.frozen? ⟨ge, m, none⟩ = false := by
                obtain ⟨xs, ho, _⟩ := hL7.own
                rcases ho.2 with ⟨h, -⟩ | ⟨g9, cap9, cur9, h, -, hg9, -⟩
                · cases h
                · simp only [Value.slice.injEq, Option.some.injEq, Addr.mk.injEq] at h
                  obtain ⟨⟨rfl, -⟩, -⟩ := h
                  exact frozen_row hg9
              have hwr : IntKind.i64.wrap ((m : Int) + 1 - 1) = (m : Int) := by rw [IntWalk.i64_in _ (by omega)]; omega
              have hwr' : wrap64 ((m : Int) + 1 - 1) = (m : Int) := by unfold wrap64; omega
              have HP : Hid (LookB (wq.setCell ⟨ge, m, none⟩ (.bool true)) bx (some ⟨g, o, none⟩) c n (i7, l7.set m true) (.slice (some ⟨ge, 0, none⟩) ln7 k7)) := Lib.hid (LookB.put (s := (i7, l7)) (l := l7) hL7 HM7.out true)
              have HOP : Hid (Only (LX bx v) w (wq.setCell ⟨ge, m, none⟩ (.bool true))) := Lib.hid (HO7.out.setCell (by
                rcases HV7.out ge rfl with h | h
                · exact .inl (.inr h)
                · exact .inr h) _)
              have HEND : Hid (Syn.ended ⟨7, q0, q1, q2, q3, (m : Int) + 1, mn, mx, (q : Int)⟩ l7 = l7.set m true) := Lib.hid (by
                unfold Syn.ended
                simp only [beq_self_eq_true, if_true]
                rw [show ((m : Int) + 1).toNat - 1 = m by omega])
              clear hL7 hn9 hl2 hm
              go_upto_region 20 with fail
              go_region
              go_wp2_with fail
              go_ret
              exact ⟨true, rfl, HOP.out.drewN 1, by rw [HS7.out, HEND.out]; exact ⟨rfl, _, HP.out.far ⟨rfl, rfl, rfl, Nat.le_refl _, fun _ _ => rfl⟩, HV7.out⟩⟩
            · have hb7 : (op == 7) = false := by simpa using h7
              have HEND : Hid (Syn.ended ⟨op, q0, q1, q2, q3, nn, mn, mx, (q : Int)⟩ l7 = l7) := Lib.hid (by
                unfold Syn.ended
                simp only [hb7]; rfl)
              clear hL7
              go_wp2_with fail
              go_ret
              exact ⟨true, rfl, HO7.out, by rw [HS7.out, HEND.out]; exact ⟨rfl, _, HL7.out, HV7.out⟩⟩
theorem node_any : ∀ (f k gp : Nat) (s : Nat × List Bool) (v : Value) (w : World), k + f = 260 → gp ≤ 64 → Hid (LookB w bx A c n s v) → Hid (SliceAt Rep.nd w S A c re) →
    Calls Tryd.prog 48 #[.pointer (some ⟨bx, 0, none⟩), .int .i64 (k : Nat), .int .i64 (gp : Nat)] w (NodePost re f gp s w bx A c n v) := by
  intro f
  induction f with
  | zero =>
    intro k gp s v w hk hg H HR
    obtain rfl : k = 260 := by omega
    exact node_deep hnc gp s v w H
  | succ f ih =>
    intro k gp s v w hk hg H HR
    exact node_step hn hnc hcm hS f k gp (by omega) hg s v w H HR (Lib.hid fun gp' s' v' w' hg' H' HR' => ih (k + 1) gp' s' v' w' (by omega) hg' H' HR')
end
end Go.Proofs.YtnpideapdjomgaaDoor
