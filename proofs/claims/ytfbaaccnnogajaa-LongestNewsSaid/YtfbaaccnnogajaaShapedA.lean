/- A well shaped machine: the round of machine.Shaped, the kinds 1 to 3. Conditions: the instruction in memory; room. -/
import Derived.Test.YtfbaaccnnogajaaProg
import Derived.Test.YtfbaaccnnogajaaShapedM
namespace Go.Proofs.Ytfbaaccnnogajaa
open Go.RowKit
section
variable {g o n c gb k : Nat} {w : World} {x : Instr} {u4 u5 u6 c7 c8 c9 c10 c11 c12 c13 c14 c15 u19 u20 u21 u22 u23 u24 u25 u26 u27 u28 u29 u30 u31 u32 u33 u34 u35 u36 u37 u38 u39 u40 u41 u42 u43 u44 u45 u46 u47 u48 u49 u50 u51 u52 u53 u54 u55 u56 u57 u58 u59 u60 u61 u62 u63 u64 u65 u66 u67 u68 u69 u70 u71 u72 u73 u74 u75 u76 u77 u78 : Value} {K : Act → World → Prop} {Q : Exit → Act → World → Prop}
    (hcs : CellsAt w g (o + k * 7) (icells x)) (hcb : w.cell? ⟨gb, 0, none⟩ = some (.slice (some ⟨g, o, none⟩) n c)) (hk : k < n) (hn : n ≤ 65540)
    (hK : Hid (instrOk n k x → ∀ z4 z5 z6 z19 z20 z21 z22 z23 z24 z25 z26 z27 z28 z29 z30 z31 z32 z33 z34 z35 z36 z37 z38 z39 z40 z41 z42 z43 z44 z45 z46 z47 z48 z49 z50 z51 z52 z53 z54 z55 z56 z57 z58 z59 z60 z61 z62 z63 z64 z65 z66 z67 z68 z69 z70 z71 z72 z73 z74 z75 z76 z77 z78 w', Below w.heap.size w w' → K ⟨#[.slice (some ⟨g, o, none⟩) n c, .pointer (some ⟨gb, 0, none⟩), .bool false, .func (Fn.func 31) #[] #[.pointer (some ⟨gb, 0, none⟩)], z4, z5, z6, c7, c8, c9, c10, c11, c12, c13, c14, c15, .slice (some ⟨g, o, none⟩) n c, .int .i64 (n : Nat), .int .i64 ((k : Int) + 1), z19, z20, z21, z22, z23, z24, z25, z26, z27, z28, z29, z30, z31, z32, z33, z34, z35, z36, z37, z38, z39, z40, z41, z42, z43, z44, z45, z46, z47, z48, z49, z50, z51, z52, z53, z54, z55, z56, z57, z58, z59, z60, z61, z62, z63, z64, z65, z66, z67, z68, z69, z70, z71, z72, z73, z74, z75, z76, z77, z78], []⟩ w')) (hF : Hid (¬ instrOk n k x → ∀ z4 z5 z6 z19 z20 z21 z22 z23 z24 z25 z26 z27 z28 z29 z30 z31 z32 z33 z34 z35 z36 z37 z38 z39 z40 z41 z42 z43 z44 z45 z46 z47 z48 z49 z50 z51 z52 z53 z54 z55 z56 z57 z58 z59 z60 z61 z62 z63 z64 z65 z66 z67 z68 z69 z70 z71 z72 z73 z74 z75 z76 z77 z78 w', Below w.heap.size w w' → Q .ret ⟨#[.slice (some ⟨g, o, none⟩) n c, .pointer (some ⟨gb, 0, none⟩), .bool false, .func (Fn.func 31) #[] #[.pointer (some ⟨gb, 0, none⟩)], z4, z5, z6, c7, c8, c9, c10, c11, c12, c13, c14, c15, .slice (some ⟨g, o, none⟩) n c, .int .i64 (n : Nat), .int .i64 (k : Nat), z19, z20, z21, z22, z23, z24, z25, z26, z27, z28, z29, z30, z31, z32, z33, z34, z35, z36, z37, z38, z39, z40, z41, z42, z43, z44, z45, z46, z47, z48, z49, z50, z51, z52, z53, z54, z55, z56, z57, z58, z59, z60, z61, z62, z63, z64, z65, z66, z67, z68, z69, z70, z71, z72, z73, z74, z75, z76, z77, z78], []⟩ w'))
include hcs hcb hk hn hK hF
set_option maxRecDepth 100000 in
set_option maxHeartbeats 4000000 in
theorem shaped1 (h4 : x.op = 1) : bodyS.wp Try.prog (Exit.then K Q) ⟨#[.slice (some ⟨g, o, none⟩) n c, .pointer (some ⟨gb, 0, none⟩), .bool false, .func (Fn.func 31) #[] #[.pointer (some ⟨gb, 0, none⟩)], u4, u5, u6, c7, c8, c9, c10, c11, c12, c13, c14, c15, .slice (some ⟨g, o, none⟩) n c, .int .i64 (n : Nat), .int .i64 (k : Nat), u19, u20, u21, u22, u23, u24, u25, u26, u27, u28, u29, u30, u31, u32, u33, u34, u35, u36, u37, u38, u39, u40, u41, u42, u43, u44, u45, u46, u47, u48, u49, u50, u51, u52, u53, u54, u55, u56, u57, u58, u59, u60, u61, u62, u63, u64, u65, u66, u67, u68, u69, u70, u71, u72, u73, u74, u75, u76, u77, u78], []⟩ w := by
  have hgb := World.block_lt_of_cell? w _ hcb
  have hgb' : gb < w.heap.size := hgb
  have hg' : g < w.heap.size := World.block_lt_of_cell? w _ (hcs 0 _ rfl)
  have hwant : x.want = ⟨1, x.set, 0, 0⟩ := by unfold Instr.want; rw [h4]; rfl
  have hok : instrOk n k x ↔ (k + 1 ≠ n ∧ x = ⟨1, x.set, 0, 0⟩ ∧ (0 ≤ x.x ∧ x.x < n) ∧ (0 ≤ x.y ∧ x.y < n)) := by
    unfold instrOk; rw [hwant, h4]
    constructor
    · rintro ⟨-, -, l, a, b, c, d, e⟩; exact ⟨l (by omega), a, ⟨b, c⟩, d, e⟩
    · rintro ⟨l, a, ⟨b, c⟩, d, e⟩; exact ⟨by omega, by omega, fun _ => l, a, b, c, d, e⟩
  have hneq := run_neq_instrB x ⟨1, x.set, 0, 0⟩
  obtain ⟨op, ⟨q0, q1, q2, q3⟩, X, Y⟩ := x
  simp only at h4
  subst h4
  have k0 := hcs 0 _ rfl
  have k1 := hcs 1 _ rfl
  have k2 := hcs 2 _ rfl
  have k3 := hcs 3 _ rfl
  have k4 := hcs 4 _ rfl
  have k5 := hcs 5 _ rfl
  have k6 := hcs 6 _ rfl
  have fin : ∀ o1 o2, Below w.heap.size w ((w.alloc o1).alloc o2) := fun o1 o2 => ((Below.refl _ w).alloc (Nat.le_refl _) o1).alloc (by simp) o2
  have hbx : ((w.alloc (.cells #[.int .i8 1, .int .u64 q0, .int .u64 q1, .int .u64 q2, .int .u64 q3, .int .i64 X, .int .i64 Y] 64)).alloc (.cells #[.int .i8 1, .int .u64 q0, .int .u64 q1, .int .u64 q2, .int .u64 q3, .int .i64 0, .int .i64 0] 64)).cell? ⟨gb, 0, none⟩ = some (.slice (some ⟨g, o, none⟩) n c) := ((fin _ _).cell (p := ⟨gb, 0, none⟩) hgb).trans hcb
  have hpx := place_any X (some ⟨g, o, none⟩) n c gb _ hbx
  have hpy := place_any Y (some ⟨g, o, none⟩) n c gb _ hbx
  simp only [icells] at k0 k1 k2 k3 k4 k5 k6 hneq
  simp only [Nat.add_zero] at k0
  obtain ⟨b, hb⟩ : ∃ b, b = Instr.eqB ⟨1, ⟨q0, q1, q2, q3⟩, X, Y⟩ ⟨1, ⟨q0, q1, q2, q3⟩, 0, 0⟩ := ⟨_, rfl⟩
  obtain ⟨px, hx⟩ : ∃ px, px = decide (0 ≤ X ∧ X < n) := ⟨_, rfl⟩
  obtain ⟨py, hy⟩ : ∃ py, py = decide (0 ≤ Y ∧ Y < n) := ⟨_, rfl⟩
  have hok2 : instrOk n k ⟨1, ⟨q0, q1, q2, q3⟩, X, Y⟩ ↔ (k + 1 ≠ n ∧ b = true ∧ px = true ∧ py = true) := by rw [hok, hb, hx, hy, Instr.eqB_iff]; simp only [decide_eq_true_eq]; try rfl
  rw [← hb] at hneq
  rw [← hx] at hpx
  rw [← hy] at hpy
  have HPX := Lib.hid hpx
  have HPY := Lib.hid hpy
  have HOK := Lib.hid hok2
  have FIN := Lib.hid fin
  clear hok hok2 hb hx hy hpx hpy hwant hcs hgb hbx fin
  by_cases hl : k + 1 = n
  · have hl' : ((k : Int) + 1 == (n : Int)) = true := by rw [beq_iff_eq]; omega
    have HL := Lib.hid hl
    clear hl
    conv => arg 2; whnf
    go_wp2_with fail
    exact hF.out (by rw [HOK.out]; simp [HL.out]) _ _ _ _ _ _ _ _ _ _ _ _ _ _ _ _ _ _ _ _ _ _ _ _ _ _ _ _ _ _ _ _ _ _ _ _ _ _ _ _ _ _ _ _ _ _ _ _ _ _ _ _ _ _ _ _ _ _ _ _ _ _ _ _ (FIN.out _ _)
  · have hl' : ((k : Int) + 1 == (n : Int)) = false := by rw [beq_eq_false_iff_ne]; omega
    have HL := Lib.hid hl
    clear hl
    conv => arg 2; whnf
    go_upto_region 24 with (fail)
    cases b
    · simp only [Bool.not_false] at hneq
      go_wp2_with fail
      exact hF.out (by rw [HOK.out]; simp) _ _ _ _ _ _ _ _ _ _ _ _ _ _ _ _ _ _ _ _ _ _ _ _ _ _ _ _ _ _ _ _ _ _ _ _ _ _ _ _ _ _ _ _ _ _ _ _ _ _ _ _ _ _ _ _ _ _ _ _ _ _ _ _ (FIN.out _ _)
    · simp only [Bool.not_true] at hneq
      cases px
      · go_wp2_with fail
        refine HPX.out.mono ?_
        rintro e w' ⟨rfl, rfl⟩
        go_wp2_with fail
        exact hF.out (by rw [HOK.out]; simp) _ _ _ _ _ _ _ _ _ _ _ _ _ _ _ _ _ _ _ _ _ _ _ _ _ _ _ _ _ _ _ _ _ _ _ _ _ _ _ _ _ _ _ _ _ _ _ _ _ _ _ _ _ _ _ _ _ _ _ _ _ _ _ _ (FIN.out _ _)
      · cases py
        · go_wp2_with fail
          refine HPX.out.mono ?_
          rintro e w' ⟨rfl, rfl⟩
          go_wp2_with fail
          refine HPY.out.mono ?_
          rintro e w' ⟨rfl, rfl⟩
          go_wp2_with fail
          exact hF.out (by rw [HOK.out]; simp) _ _ _ _ _ _ _ _ _ _ _ _ _ _ _ _ _ _ _ _ _ _ _ _ _ _ _ _ _ _ _ _ _ _ _ _ _ _ _ _ _ _ _ _ _ _ _ _ _ _ _ _ _ _ _ _ _ _ _ _ _ _ _ _ (FIN.out _ _)
        · go_wp2_with fail
          refine HPX.out.mono ?_
          rintro e w' ⟨rfl, rfl⟩
          go_wp2_with fail
          refine HPY.out.mono ?_
          rintro e w' ⟨rfl, rfl⟩
          go_wp2_with fail
          exact hK.out (by rw [HOK.out]; simp [HL.out]) _ _ _ _ _ _ _ _ _ _ _ _ _ _ _ _ _ _ _ _ _ _ _ _ _ _ _ _ _ _ _ _ _ _ _ _ _ _ _ _ _ _ _ _ _ _ _ _ _ _ _ _ _ _ _ _ _ _ _ _ _ _ _ _ (FIN.out _ _)
set_option maxRecDepth 100000 in
set_option maxHeartbeats 4000000 in
theorem shaped2 (h4 : x.op = 2) : bodyS.wp Try.prog (Exit.then K Q) ⟨#[.slice (some ⟨g, o, none⟩) n c, .pointer (some ⟨gb, 0, none⟩), .bool false, .func (Fn.func 31) #[] #[.pointer (some ⟨gb, 0, none⟩)], u4, u5, u6, c7, c8, c9, c10, c11, c12, c13, c14, c15, .slice (some ⟨g, o, none⟩) n c, .int .i64 (n : Nat), .int .i64 (k : Nat), u19, u20, u21, u22, u23, u24, u25, u26, u27, u28, u29, u30, u31, u32, u33, u34, u35, u36, u37, u38, u39, u40, u41, u42, u43, u44, u45, u46, u47, u48, u49, u50, u51, u52, u53, u54, u55, u56, u57, u58, u59, u60, u61, u62, u63, u64, u65, u66, u67, u68, u69, u70, u71, u72, u73, u74, u75, u76, u77, u78], []⟩ w := by
  have hgb := World.block_lt_of_cell? w _ hcb
  have hgb' : gb < w.heap.size := hgb
  have hg' : g < w.heap.size := World.block_lt_of_cell? w _ (hcs 0 _ rfl)
  have hwant : x.want = ⟨2, Class.none, 0, 0⟩ := by unfold Instr.want; rw [h4]; rfl
  have hok : instrOk n k x ↔ (k + 1 ≠ n ∧ x = ⟨2, Class.none, 0, 0⟩ ∧ (0 ≤ x.x ∧ x.x < n) ∧ (0 ≤ x.y ∧ x.y < n)) := by
    unfold instrOk; rw [hwant, h4]
    constructor
    · rintro ⟨-, -, l, a, b, c, d, e⟩; exact ⟨l (by omega), a, ⟨b, c⟩, d, e⟩
    · rintro ⟨l, a, ⟨b, c⟩, d, e⟩; exact ⟨by omega, by omega, fun _ => l, a, b, c, d, e⟩
  have hneq := run_neq_instrB x ⟨2, Class.none, 0, 0⟩
  obtain ⟨op, ⟨q0, q1, q2, q3⟩, X, Y⟩ := x
  simp only at h4
  subst h4
  have k0 := hcs 0 _ rfl
  have k1 := hcs 1 _ rfl
  have k2 := hcs 2 _ rfl
  have k3 := hcs 3 _ rfl
  have k4 := hcs 4 _ rfl
  have k5 := hcs 5 _ rfl
  have k6 := hcs 6 _ rfl
  have fin : ∀ o1 o2, Below w.heap.size w ((w.alloc o1).alloc o2) := fun o1 o2 => ((Below.refl _ w).alloc (Nat.le_refl _) o1).alloc (by simp) o2
  have hbx : ((w.alloc (.cells #[.int .i8 2, .int .u64 q0, .int .u64 q1, .int .u64 q2, .int .u64 q3, .int .i64 X, .int .i64 Y] 64)).alloc (.cells #[.int .i8 2, .int .u64 0, .int .u64 0, .int .u64 0, .int .u64 0, .int .i64 0, .int .i64 0] 64)).cell? ⟨gb, 0, none⟩ = some (.slice (some ⟨g, o, none⟩) n c) := ((fin _ _).cell (p := ⟨gb, 0, none⟩) hgb).trans hcb
  have hpx := place_any X (some ⟨g, o, none⟩) n c gb _ hbx
  have hpy := place_any Y (some ⟨g, o, none⟩) n c gb _ hbx
  simp only [icells, Class.none] at k0 k1 k2 k3 k4 k5 k6 hneq
  simp only [Nat.add_zero] at k0
  obtain ⟨b, hb⟩ : ∃ b, b = Instr.eqB ⟨2, ⟨q0, q1, q2, q3⟩, X, Y⟩ ⟨2, ⟨0, 0, 0, 0⟩, 0, 0⟩ := ⟨_, rfl⟩
  obtain ⟨px, hx⟩ : ∃ px, px = decide (0 ≤ X ∧ X < n) := ⟨_, rfl⟩
  obtain ⟨py, hy⟩ : ∃ py, py = decide (0 ≤ Y ∧ Y < n) := ⟨_, rfl⟩
  have hok2 : instrOk n k ⟨2, ⟨q0, q1, q2, q3⟩, X, Y⟩ ↔ (k + 1 ≠ n ∧ b = true ∧ px = true ∧ py = true) := by rw [hok, hb, hx, hy, Instr.eqB_iff]; simp only [decide_eq_true_eq]; try rfl
  rw [← hb] at hneq
  rw [← hx] at hpx
  rw [← hy] at hpy
  have HPX := Lib.hid hpx
  have HPY := Lib.hid hpy
  have HOK := Lib.hid hok2
  have FIN := Lib.hid fin
  clear hok hok2 hb hx hy hpx hpy hwant hcs hgb hbx fin
  by_cases hl : k + 1 = n
  · have hl' : ((k : Int) + 1 == (n : Int)) = true := by rw [beq_iff_eq]; omega
    have HL := Lib.hid hl
    clear hl
    conv => arg 2; whnf
    go_wp2_with fail
    exact hF.out (by rw [HOK.out]; simp [HL.out]) _ _ _ _ _ _ _ _ _ _ _ _ _ _ _ _ _ _ _ _ _ _ _ _ _ _ _ _ _ _ _ _ _ _ _ _ _ _ _ _ _ _ _ _ _ _ _ _ _ _ _ _ _ _ _ _ _ _ _ _ _ _ _ _ (FIN.out _ _)
  · have hl' : ((k : Int) + 1 == (n : Int)) = false := by rw [beq_eq_false_iff_ne]; omega
    have HL := Lib.hid hl
    clear hl
    conv => arg 2; whnf
    go_upto_region 24 with (fail)
    cases b
    · simp only [Bool.not_false] at hneq
      go_wp2_with fail
      exact hF.out (by rw [HOK.out]; simp) _ _ _ _ _ _ _ _ _ _ _ _ _ _ _ _ _ _ _ _ _ _ _ _ _ _ _ _ _ _ _ _ _ _ _ _ _ _ _ _ _ _ _ _ _ _ _ _ _ _ _ _ _ _ _ _ _ _ _ _ _ _ _ _ (FIN.out _ _)
    · simp only [Bool.not_true] at hneq
      cases px
      · go_wp2_with fail
        refine HPX.out.mono ?_
        rintro e w' ⟨rfl, rfl⟩
        go_wp2_with fail
        exact hF.out (by rw [HOK.out]; simp) _ _ _ _ _ _ _ _ _ _ _ _ _ _ _ _ _ _ _ _ _ _ _ _ _ _ _ _ _ _ _ _ _ _ _ _ _ _ _ _ _ _ _ _ _ _ _ _ _ _ _ _ _ _ _ _ _ _ _ _ _ _ _ _ (FIN.out _ _)
      · cases py
        · go_wp2_with fail
          refine HPX.out.mono ?_
          rintro e w' ⟨rfl, rfl⟩
          go_wp2_with fail
          refine HPY.out.mono ?_
          rintro e w' ⟨rfl, rfl⟩
          go_wp2_with fail
          exact hF.out (by rw [HOK.out]; simp) _ _ _ _ _ _ _ _ _ _ _ _ _ _ _ _ _ _ _ _ _ _ _ _ _ _ _ _ _ _ _ _ _ _ _ _ _ _ _ _ _ _ _ _ _ _ _ _ _ _ _ _ _ _ _ _ _ _ _ _ _ _ _ _ (FIN.out _ _)
        · go_wp2_with fail
          refine HPX.out.mono ?_
          rintro e w' ⟨rfl, rfl⟩
          go_wp2_with fail
          refine HPY.out.mono ?_
          rintro e w' ⟨rfl, rfl⟩
          go_wp2_with fail
          exact hK.out (by rw [HOK.out]; simp [HL.out]) _ _ _ _ _ _ _ _ _ _ _ _ _ _ _ _ _ _ _ _ _ _ _ _ _ _ _ _ _ _ _ _ _ _ _ _ _ _ _ _ _ _ _ _ _ _ _ _ _ _ _ _ _ _ _ _ _ _ _ _ _ _ _ _ (FIN.out _ _)
set_option maxRecDepth 100000 in
set_option maxHeartbeats 4000000 in
theorem shaped3 (h4 : x.op = 3) : bodyS.wp Try.prog (Exit.then K Q) ⟨#[.slice (some ⟨g, o, none⟩) n c, .pointer (some ⟨gb, 0, none⟩), .bool false, .func (Fn.func 31) #[] #[.pointer (some ⟨gb, 0, none⟩)], u4, u5, u6, c7, c8, c9, c10, c11, c12, c13, c14, c15, .slice (some ⟨g, o, none⟩) n c, .int .i64 (n : Nat), .int .i64 (k : Nat), u19, u20, u21, u22, u23, u24, u25, u26, u27, u28, u29, u30, u31, u32, u33, u34, u35, u36, u37, u38, u39, u40, u41, u42, u43, u44, u45, u46, u47, u48, u49, u50, u51, u52, u53, u54, u55, u56, u57, u58, u59, u60, u61, u62, u63, u64, u65, u66, u67, u68, u69, u70, u71, u72, u73, u74, u75, u76, u77, u78], []⟩ w := by
  have hgb := World.block_lt_of_cell? w _ hcb
  have hgb' : gb < w.heap.size := hgb
  have hg' : g < w.heap.size := World.block_lt_of_cell? w _ (hcs 0 _ rfl)
  have hwant : x.want = ⟨3, Class.none, 0, 0⟩ := by unfold Instr.want; rw [h4]; rfl
  have hok : instrOk n k x ↔ (k + 1 ≠ n ∧ x = ⟨3, Class.none, 0, 0⟩ ∧ (0 ≤ x.x ∧ x.x < n) ∧ (0 ≤ x.y ∧ x.y < n)) := by
    unfold instrOk; rw [hwant, h4]
    constructor
    · rintro ⟨-, -, l, a, b, c, d, e⟩; exact ⟨l (by omega), a, ⟨b, c⟩, d, e⟩
    · rintro ⟨l, a, ⟨b, c⟩, d, e⟩; exact ⟨by omega, by omega, fun _ => l, a, b, c, d, e⟩
  have hneq := run_neq_instrB x ⟨3, Class.none, 0, 0⟩
  obtain ⟨op, ⟨q0, q1, q2, q3⟩, X, Y⟩ := x
  simp only at h4
  subst h4
  have k0 := hcs 0 _ rfl
  have k1 := hcs 1 _ rfl
  have k2 := hcs 2 _ rfl
  have k3 := hcs 3 _ rfl
  have k4 := hcs 4 _ rfl
  have k5 := hcs 5 _ rfl
  have k6 := hcs 6 _ rfl
  have fin : ∀ o1 o2, Below w.heap.size w ((w.alloc o1).alloc o2) := fun o1 o2 => ((Below.refl _ w).alloc (Nat.le_refl _) o1).alloc (by simp) o2
  have hbx : ((w.alloc (.cells #[.int .i8 3, .int .u64 q0, .int .u64 q1, .int .u64 q2, .int .u64 q3, .int .i64 X, .int .i64 Y] 64)).alloc (.cells #[.int .i8 3, .int .u64 0, .int .u64 0, .int .u64 0, .int .u64 0, .int .i64 0, .int .i64 0] 64)).cell? ⟨gb, 0, none⟩ = some (.slice (some ⟨g, o, none⟩) n c) := ((fin _ _).cell (p := ⟨gb, 0, none⟩) hgb).trans hcb
  have hpx := place_any X (some ⟨g, o, none⟩) n c gb _ hbx
  have hpy := place_any Y (some ⟨g, o, none⟩) n c gb _ hbx
  simp only [icells, Class.none] at k0 k1 k2 k3 k4 k5 k6 hneq
  simp only [Nat.add_zero] at k0
  obtain ⟨b, hb⟩ : ∃ b, b = Instr.eqB ⟨3, ⟨q0, q1, q2, q3⟩, X, Y⟩ ⟨3, ⟨0, 0, 0, 0⟩, 0, 0⟩ := ⟨_, rfl⟩
  obtain ⟨px, hx⟩ : ∃ px, px = decide (0 ≤ X ∧ X < n) := ⟨_, rfl⟩
  obtain ⟨py, hy⟩ : ∃ py, py = decide (0 ≤ Y ∧ Y < n) := ⟨_, rfl⟩
  have hok2 : instrOk n k ⟨3, ⟨q0, q1, q2, q3⟩, X, Y⟩ ↔ (k + 1 ≠ n ∧ b = true ∧ px = true ∧ py = true) := by rw [hok, hb, hx, hy, Instr.eqB_iff]; simp only [decide_eq_true_eq]; try rfl
  rw [← hb] at hneq
  rw [← hx] at hpx
  rw [← hy] at hpy
  have HPX := Lib.hid hpx
  have HPY := Lib.hid hpy
  have HOK := Lib.hid hok2
  have FIN := Lib.hid fin
  clear hok hok2 hb hx hy hpx hpy hwant hcs hgb hbx fin
  by_cases hl : k + 1 = n
  · have hl' : ((k : Int) + 1 == (n : Int)) = true := by rw [beq_iff_eq]; omega
    have HL := Lib.hid hl
    clear hl
    conv => arg 2; whnf
    go_wp2_with fail
    exact hF.out (by rw [HOK.out]; simp [HL.out]) _ _ _ _ _ _ _ _ _ _ _ _ _ _ _ _ _ _ _ _ _ _ _ _ _ _ _ _ _ _ _ _ _ _ _ _ _ _ _ _ _ _ _ _ _ _ _ _ _ _ _ _ _ _ _ _ _ _ _ _ _ _ _ _ (FIN.out _ _)
  · have hl' : ((k : Int) + 1 == (n : Int)) = false := by rw [beq_eq_false_iff_ne]; omega
    have HL := Lib.hid hl
    clear hl
    conv => arg 2; whnf
    go_upto_region 24 with (fail)
    cases b
    · simp only [Bool.not_false] at hneq
      go_wp2_with fail
      exact hF.out (by rw [HOK.out]; simp) _ _ _ _ _ _ _ _ _ _ _ _ _ _ _ _ _ _ _ _ _ _ _ _ _ _ _ _ _ _ _ _ _ _ _ _ _ _ _ _ _ _ _ _ _ _ _ _ _ _ _ _ _ _ _ _ _ _ _ _ _ _ _ _ (FIN.out _ _)
    · simp only [Bool.not_true] at hneq
      cases px
      · go_wp2_with fail
        refine HPX.out.mono ?_
        rintro e w' ⟨rfl, rfl⟩
        go_wp2_with fail
        exact hF.out (by rw [HOK.out]; simp) _ _ _ _ _ _ _ _ _ _ _ _ _ _ _ _ _ _ _ _ _ _ _ _ _ _ _ _ _ _ _ _ _ _ _ _ _ _ _ _ _ _ _ _ _ _ _ _ _ _ _ _ _ _ _ _ _ _ _ _ _ _ _ _ (FIN.out _ _)
      · cases py
        · go_wp2_with fail
          refine HPX.out.mono ?_
          rintro e w' ⟨rfl, rfl⟩
          go_wp2_with fail
          refine HPY.out.mono ?_
          rintro e w' ⟨rfl, rfl⟩
          go_wp2_with fail
          exact hF.out (by rw [HOK.out]; simp) _ _ _ _ _ _ _ _ _ _ _ _ _ _ _ _ _ _ _ _ _ _ _ _ _ _ _ _ _ _ _ _ _ _ _ _ _ _ _ _ _ _ _ _ _ _ _ _ _ _ _ _ _ _ _ _ _ _ _ _ _ _ _ _ (FIN.out _ _)
        · go_wp2_with fail
          refine HPX.out.mono ?_
          rintro e w' ⟨rfl, rfl⟩
          go_wp2_with fail
          refine HPY.out.mono ?_
          rintro e w' ⟨rfl, rfl⟩
          go_wp2_with fail
          exact hK.out (by rw [HOK.out]; simp [HL.out]) _ _ _ _ _ _ _ _ _ _ _ _ _ _ _ _ _ _ _ _ _ _ _ _ _ _ _ _ _ _ _ _ _ _ _ _ _ _ _ _ _ _ _ _ _ _ _ _ _ _ _ _ _ _ _ _ _ _ _ _ _ _ _ _ (FIN.out _ _)
end
end Go.Proofs.Ytfbaaccnnogajaa
