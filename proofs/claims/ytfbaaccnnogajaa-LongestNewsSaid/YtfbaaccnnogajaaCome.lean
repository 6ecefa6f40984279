/- A search's stamps: the walks of (longest.Search).come and fresh. Conditions: the search's parts lie in blocks of the run's own; room. -/
import Derived.Test.YtfbaaccnnogajaaProg
import Derived.Test.YtfbaaccnnogajaaInstr
import Derived.Test.YtfbaaccnnogajaaOnly
import Derived.WalkKit
import Derived.WalkSpells
import Derived.Deep.QuietTactic
import Derived.BigQuiet
import Derived.Lib.Hide
import Derived.Deep.DeepMust
import Derived.Deep.RegionHeld3
namespace Go.Proofs.Ytfbaaccnnogajaa
open Go.RowKit

/-- A search's block: its seven fields. -/
def Blk (w : World) (gs : Nat) (vm vt : Value) (st : Int) (vh vw ve : Value) (steps : Int) : Prop := w.heap[gs]? = some (.cells #[vm, vt, .int .i16 st, vh, vw, ve, .int .i64 steps] 40 (0, 0))
theorem stInts : SliceType Try.prog 37 3 1 8 := SliceType.mk' (z := .int .i64 0) Try.underlying37 (by kernel_rfl) rfl (by omega)
theorem Blk.cell {w : World} {gs : Nat} {vm vt : Value} {st : Int} {vh vw ve : Value} {steps : Int} (h : Blk w gs vm vt st vh vw ve steps) (i : Nat) (v : Value) (hv : (#[vm, vt, .int .i16 st, vh, vw, ve, .int .i64 steps] : Array Value)[i]? = some v) : w.cell? ⟨gs, i, none⟩ = some v := by
  rw [cell_of_row w gs i _ _ (0, 0) h]; exact hv
theorem Blk.frozen {w : World} {gs : Nat} {vm vt : Value} {st : Int} {vh vw ve : Value} {steps : Int} (h : Blk w gs vm vt st vh vw ve steps) (i : Nat) : w.frozen? ⟨gs, i, none⟩ = false := by
  unfold Blk at h
  simp [World.frozen?, h]
theorem Blk.only {F : Blocks} {w w' : World} {gs : Nat} {vm vt : Value} {st : Int} {vh vw ve : Value} {steps : Int} (h : Blk w gs vm vt st vh vw ve steps) (ho : Only F w w') (hF : ¬ F gs) : Blk w' gs vm vt st vh vw ve steps :=
  (ho.block gs (Array.getElem?_eq_some_iff.1 h).1 hF).trans h
theorem Blk.lt {w : World} {gs : Nat} {vm vt : Value} {st : Int} {vh vw ve : Value} {steps : Int} (h : Blk w gs vm vt st vh vw ve steps) : gs < w.heap.size := (Array.getElem?_eq_some_iff.1 h).1

section
variable (B gs : Nat) (vm vt vl : Value) (st : Int) (vh vw ve : Value) (steps : Int) (met : List Int) (L : List Int) (k : Nat) (w : World)
    (hblk : Blk w gs vm vt st vh vw ve steps) (ht : Own (Rep.int .i16) 36 w B nob vt met) (hk : k < met.length)
include hblk ht hk
set_option maxHeartbeats 1000000 in
theorem come_old (hold : met[k] = st) : Calls Try.prog 33 #[.pointer (some ⟨gs, 0, none⟩), vl, .int .i64 k] w fun e w' => e = .returned vl ∧ ∃ n, w' = w.drewN n := by
  have hc1 := hblk.cell 1 vt rfl
  have hc2 := hblk.cell 2 (.int .i16 st) rfl
  obtain ⟨gt, ct, u, rfl, hBt, hgt, hcell, hfz, ⟨hu, hwf⟩, hset⟩ := ht.cellAt rfl hk
  obtain rfl : u = .int .i16 met[k] := by simpa using hu
  rw [hold] at hcell
  obtain ⟨nt, hnt⟩ : ∃ nt, nt = met.length := ⟨_, rfl⟩
  rw [← hnt] at hc1 hk
  clear hset hu hwf hold hblk ht hnt
  go_enter Try.func33, Try.ntmps33
  go_wp2
  go_quiet (fail)
  go_wp2
  go_ret
  exact ⟨rfl, _, rfl⟩

omit hblk ht hk in
theorem Blk.set {w : World} (h : Blk w gs vm vt st vh vw ve steps) (st2 : Int) (vt2 vh2 vw2 ve2 : Value) (steps2 : Int) (i : Nat) (u : Value) (he : (#[vm, vt, .int .i16 st, vh, vw, ve, .int .i64 steps] : Array Value).setIfInBounds i u = #[vm, vt2, .int .i16 st2, vh2, vw2, ve2, .int .i64 steps2]) :
    Blk (w.setCell ⟨gs, i, none⟩ u) gs vm vt2 st2 vh2 vw2 ve2 steps2 := by
  unfold Blk at *
  have e : (w.setCell ⟨gs, i, none⟩ u).heap[gs]? = some (.cells ((#[vm, vt, .int .i16 st, vh, vw, ve, .int .i64 steps] : Array Value).setIfInBounds i u) 40 (0, 0)) := by
    simp only [World.setCell, Array.getElem?_modify, if_pos, h, Option.map_some]
    rfl
  rw [e, he]
omit hblk ht hk in
theorem SliceAt.new1At {α : Type} (r : Rep α) (w : World) (e : TypeId) (cs : Array Value) (x : α) (q : Nat) (h : r.is w nob cs.toList x) (hq : q = w.heap.size) :
    SliceAt r (w.alloc (.cells cs e)) (fun b => b = w.heap.size ∨ nob b) (some ⟨q, 0, none⟩) 1 [x] := by
  subst hq; exact SliceAt.new1 r w e cs x nob h (fun _ h => h.elim)
set_option maxRecDepth 100000 in
set_option maxHeartbeats 2000000 in
theorem come_new (hB : B ≤ gs) (hl : Own (Rep.int .i64) 3 w B nob vl L) (hnew : met[k] ≠ st) (hlen : L.length ≤ 1099511627776) (hs0 : 0 ≤ steps) (hs1 : steps < 4611686018427387904) (hwst : (Lit.int .i16 st).wf = true) (hk2 : met.length ≤ 4611686018427387904) :
    Calls Try.prog 33 #[.pointer (some ⟨gs, 0, none⟩), vl, .int .i64 k] w fun e w' => ∃ v', e = .returned v' ∧ Own (Rep.int .i64) 3 w' B nob v' (L ++ [(k : Int)]) ∧ Own (Rep.int .i16) 36 w' B nob vt (met.set k st) ∧ Blk w' gs vm vt st vh vw ve (steps + 1) ∧
      Only (fun b => b = gs ∨ some b = vt.ownBlock ∨ some b = vl.ownBlock) w w' ∧ (v'.ownBlock = vl.ownBlock ∨ ∃ q, v'.ownBlock = some q ∧ w.heap.size ≤ q) := by
  have hc1 := hblk.cell 1 vt rfl
  have hc2 := hblk.cell 2 (.int .i16 st) rfl
  have hc6 := hblk.cell 6 (.int .i64 steps) rfl
  have hf6 := hblk.frozen 6
  have hgs := hblk.lt
  have hneb := ht.ne_block hblk (by decide)
  have hlb := hl.ne_block hblk (by decide)
  have htl : ∀ b, vt.ownBlock = some b → vl.ownBlock ≠ some b := fun b hb => ht.ne_type hl (by decide) hb
  have hBw : B ≤ w.heap.size := Nat.le_trans hB (Nat.le_of_lt hgs)
  obtain ⟨gt, ct, u, rfl, hBt, hgt, hcell, hfz, ⟨hu, hwf⟩, hset⟩ := ht.cellAt rfl hk
  obtain rfl : u = .int .i16 met[k] := by simpa using hu
  have hgtgs : gt ≠ gs := fun e => hneb (by rw [e]; rfl)
  have hm := hset (.int .i16 st) st ⟨rfl, hwst⟩
  obtain ⟨mk, hmk⟩ : ∃ mk, mk = met[k] := ⟨_, rfl⟩
  rw [← hmk] at hcell hnew
  have hne' : (mk == st) = false := beq_eq_false_iff_ne.2 hnew
  obtain ⟨nt, hnt⟩ : ∃ nt, nt = met.length := ⟨_, rfl⟩
  rw [← hnt] at hc1 hk hk2
  have HN := Lib.hid hnt
  have hkw : (Lit.int .i64 (k : Int)).wf = true := by simp [Lit.wf, IntKind.min, IntKind.max, IntKind.signed, IntKind.bits]; omega
  have HKW := Lib.hid hkw
  have hw3 : ∀ N : Nat, Only (fun b => b = gs ∨ b = gt) w (((w.drewN N).setCell ⟨gt, k, none⟩ (.int .i16 st)).setCell ⟨gs, 6, none⟩ (.int .i64 (steps + 1))) ∧ Own (Rep.int .i64) 3 (((w.drewN N).setCell ⟨gt, k, none⟩ (.int .i16 st)).setCell ⟨gs, 6, none⟩ (.int .i64 (steps + 1))) B nob vl L ∧
      Own (Rep.int .i16) 36 (((w.drewN N).setCell ⟨gt, k, none⟩ (.int .i16 st)).setCell ⟨gs, 6, none⟩ (.int .i64 (steps + 1))) B nob (.slice (some ⟨gt, 0, none⟩) met.length ct) (met.set k st) ∧ Blk (((w.drewN N).setCell ⟨gt, k, none⟩ (.int .i16 st)).setCell ⟨gs, 6, none⟩ (.int .i64 (steps + 1))) gs vm (.slice (some ⟨gt, 0, none⟩) met.length ct) st vh vw ve (steps + 1) := by
    intro N
    have o1 : Only (fun b => b = gs ∨ b = gt) w (((w.drewN N).setCell ⟨gt, k, none⟩ (.int .i16 st)).setCell ⟨gs, 6, none⟩ (.int .i64 (steps + 1))) := (((Only.refl _ w).drewN N).setCell (.inl (.inr rfl)) _).setCell (.inl (.inl rfl)) _
    have o2 : Only (fun b => b = gt) w ((w.drewN N).setCell ⟨gt, k, none⟩ (.int .i16 st)) := Only.setCell (F := fun b => b = gt) ((Only.refl _ w).drewN N) (.inl rfl) _
    have hm2 : Own (Rep.int .i16) 36 ((w.drewN N).setCell ⟨gt, k, none⟩ (.int .i16 st)) B nob (.slice (some ⟨gt, 0, none⟩) met.length ct) (met.set k st) := hm.drewN N
    refine ⟨o1, hl.only o1 (fun b hb h => ?_), hm2.only (F := fun b => b = gs) (Only.setCell (F := fun b => b = gs) (Only.refl _ _) (.inl rfl) _) (fun b hb h => ?_), Blk.set gs vm _ st vh vw ve steps (hblk.only o2 (fun h => hgtgs h.symm)) st _ vh vw ve (steps + 1) 6 (.int .i64 (steps + 1)) rfl⟩
    · rcases h with rfl | rfl
      · exact hlb hb
      · exact htl b rfl hb
    · simp [Value.ownBlock] at hb; exact hgtgs (hb.trans h)
  have HW3 := Lib.hid hw3
  have HBLK := Lib.hid hblk
  have HT := Lib.hid ht
  have HM := Lib.hid hm
  have HL := Lib.hid hl
  have HTL := Lib.hid htl
  have HLB := Lib.hid hlb
  clear hset hu hwf hblk ht hnt hmk hm hl htl hneb hlb hnew hkw hw3
  go_enter Try.func33, Try.ntmps33
  go_wp2
  go_quiet (fail)
  go_wp2
  go_region
  go_wp2_with (at_builtin; refine wpList_append_Own _ rfl (.tmp 37) (.tmp 39) 37 rfl (Rep.int .i64) B 3 8 stInts nob _ L rfl ((HW3.out _).2.1.alloc _) _ _ _ [(k : Int)] rfl (SliceAt.new1At (Rep.int .i64) _ _ _ (k : Int) _ ⟨rfl, HKW.out⟩ (by simp)) nob (fun _ h => h.elim) (fun _ h => h) (fun _ _ h => h) (by simp; omega) (by simp; omega) (by simp; omega) ?_; intro v1 w1 hown1 hg1 hat1; have HO1 := Lib.hid hown1; have HG1 := Lib.hid hg1; have HA1 := Lib.hid hat1; clear hown1 hg1 hat1)
  go_ret
  obtain ⟨hon, hl3, ht3, hb3⟩ := HW3.out _
  have hgs1 := hb3.lt
  have hon1 := hon.alloc (.cells #[.int .i64 (k : Int)] 3)
  have hx : ∀ F : Blocks, (∀ b, some b = vl.ownBlock → F b) → Only F _ _ := fun F hF => Only.of_grown HG1.out F hF
  refine ⟨_, rfl, HO1.out, ?_, ?_, ?_, ?_⟩
  · exact (ht3.alloc _).only (hx (fun b => some b = vl.ownBlock) fun _ h => h) (fun b hb h => HTL.out b hb h.symm)
  · exact (hb3.only (Only.of_below ((Below.refl _ _).alloc (Nat.le_refl _) _) nob) (fun h => h)).only (hx (fun b => some b = vl.ownBlock) fun _ h => h) (fun h => HLB.out h.symm)
  · refine (hon1.mono fun b hb => ?_).grown HG1.out fun b hb => Or.inl (Or.inr (Or.inr hb))
    rcases hb with h | h
    · exact .inl h
    · exact .inr (.inl (by rw [h]; rfl))
  · rcases HA1.out with h | h
    · exact .inl h
    · exact .inr ⟨_, h, by simp⟩
end
end Go.Proofs.Ytfbaaccnnogajaa
