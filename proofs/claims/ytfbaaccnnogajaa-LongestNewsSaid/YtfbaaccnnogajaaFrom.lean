/- What a search does at a place: the walk of (longest.Search).from. Conditions: a well shaped machine; the search's parts lie in blocks of the run's own, the text in others; room. -/
import Derived.Test.YtfbaaccnnogajaaProg
import Derived.Test.YtfbaaccnnogajaaOuter
import Derived.WalkKit
import Derived.WalkSpells
import Derived.Deep.QuietTactic
import Derived.BigQuiet
import Derived.Lib.Hide
import Derived.Lib.SliceRun
import Derived.Deep.DeepMust
import Derived.Deep.Cut
namespace Go.Proofs.Ytfbaaccnnogajaa
open Go.RowKit

/-- A search in memory: its block, and the rows that are its own. -/
structure SS (w : World) (B gs : Nat) (M : List Instr) (vm vt : Value) (st : Int) (vh vw : Value) (ne : Nat) (steps : Nat) (met : List Int) (Ae : Option Addr) (ce : Nat) (E : List Bool) : Prop where
  blk : Blk w gs vm vt st vh vw (.slice Ae ne ce) steps
  hB : B ≤ gs
  m : Own Rep.instr 64 w B nob vm M
  t : Own (Rep.int .i16) 36 w B nob vt met
  tl : met.length = M.length
  e : Own Rep.bool 4 w B nob (.slice Ae ce ce) E
  el : E.length = ce
  en : ne ≤ ce
/-- The blocks that a search is. -/
def FP (gs : Nat) (vm vt vh vw : Value) (Ae : Option Addr) (ce : Nat) : Blocks := fun b => b = gs ∨ some b = vm.ownBlock ∨ some b = vt.ownBlock ∨ some b = vh.ownBlock ∨ some b = vw.ownBlock ∨ some b = (Value.slice Ae ce ce).ownBlock

theorem info_bool : (Try.prog.info? 4).map (fun i => (i.zero, i.size, i.bytes)) = some (some (.bool false), 1, 1) := by kernel_rfl
/-- make([]bool, n). -/
theorem run_make_bools (u : World) (n : Nat) (hn : n ≤ 1099511627776) : (Instr.makeSlice 38 (.int .i64 (n : Int)) (.int .i64 (n : Int))).run Try.prog u = .ok (.slice (some ⟨u.heap.size, 0, none⟩) n n) (u.alloc (.cells (madeCells #[.bool false] n) 4)) := by
  obtain ⟨i0, hi, hz0, hz1, hz2⟩ := info_parts info_bool
  have h := run_make (P := Try.prog) u 38 4 i0 (.bool false) Try.underlying38 hi hz0 .i64 .i64 (n : Int) (n : Int) (by omega) (Int.le_refl _) (by rw [hz2]; omega) (by omega)
  have e : ((n : Int)).toNat = n := by omega
  rw [e] at h
  simpa [hz1, Value.cells] using h
theorem Own.made {α : Type} (r : Rep α) (e : TypeId) (u : World) (n B : Nat) (z : Value) (x : α) (hr : ∀ w, r.is w nob [z] x) (h1 : r.n = 1) (hB : B ≤ u.heap.size) (hn : n ≤ maxLen) : Own r e (u.alloc (.cells (madeCells #[z] n) e)) B nob (.slice (some ⟨u.heap.size, 0, none⟩) n n) (List.replicate n x) := by
  have hl : (madeCells #[z] n).toList = List.replicate n z := toList_madeCells_one z n
  refine ⟨List.replicate n z, ⟨by simp [h1], .inr ⟨u.heap.size, n, _, by simp, hB, heap_alloc_new u _, by simp, hn, by rw [size_madeCells, h1, Nat.mul_one], ?_⟩⟩, fun _ h => h.elim, fun v hv => ?_, fun i hi => ?_⟩
  · rw [hl, h1]; simp
  · rw [List.eq_of_mem_replicate hv]
    exact r.one (hr u) z (by simp)
  · simp at hi
    rw [h1, Nat.mul_one, List.drop_replicate, List.take_replicate]
    have : min 1 (n - i) = 1 := by omega
    rw [this]
    simpa using hr _
/-- A search: its parts, whatever they are; F: its blocks; so many steps; the ends that it holds. -/
def Srch (w : World) (B gs : Nat) (M : List Instr) (F : Blocks) (steps : Nat) (E : List Bool) : Prop :=
  ∃ (vm vt : Value) (st : Int) (vh vw : Value) (ne : Nat) (met : List Int) (Ae : Option Addr) (ce : Nat) (Ef : List Bool) (Lh Ly : List Int), SS w B gs M vm vt st vh vw ne steps met Ae ce Ef ∧ Own (Rep.int .i64) 3 w B nob vh Lh ∧ Own (Rep.int .i64) 3 w B nob vw Ly ∧ (∀ x ∈ met, 0 ≤ x ∧ x ≤ st) ∧ 0 ≤ st ∧ st ≤ 32767 ∧
    (∀ b, vh.ownBlock = some b → vw.ownBlock ≠ some b) ∧ F = FP gs vm vt vh vw Ae ce ∧ E = Ef.take ne
/-- What from leaves. -/
def FromPost (w : World) (B gs : Nat) (M : List Instr) (F : Blocks) (text : List UInt8) (at_ steps : Nat) (e : Ending) (w' : World) : Prop :=
  ∃ (last : Int) (E' : List Bool) (steps' : Nat) (F' : Blocks), e = .returned (.int .i64 last) ∧ (E', last, steps') = fromAll M text at_ steps ∧ Srch w' B gs M F' steps' E' ∧ Only F w w' ∧ ∀ b, F' b → F b ∨ w.heap.size ≤ b
theorem ST.srch {w0 w : World} {F : Blocks} {B gs : Nat} {M : List Instr} {vm vt : Value} {ge ce n : Nat} {v vo : Value} {l : List Nat} {Ly : List Int} {st : Int} {steps : Nat} {met : List Int} {E Er : List Bool} (h : ST false w0 w F B gs M vm vt ge ce n v vo l Ly st steps met E Er) :
    Srch w B gs M (FP gs vm vt v vo (some ⟨ge, 0, none⟩) ce) steps E := by
  obtain ⟨_, _, _, he, hel, -, -⟩ := h.e.form
  simp only [Value.slice.injEq] at he
  obtain ⟨-, rfl, -⟩ := he
  have hel' := hel.out
  have h2 := h.el
  refine ⟨vm, vt, st, v, vo, n + 1, met, some ⟨ge, 0, none⟩, ce, E ++ Er, _, _, ⟨h.blk, h.hB, h.m, h.t, h.tl, h.e, hel'.symm, ?_⟩, h.h, h.y, h.marks.2.1, h.marks.2.2.1, h.marks.2.2.2, h.hy, rfl, ?_⟩
  · simp only [List.length_append] at hel'; omega
  · rw [← h2, List.take_left']; rfl
/-- A search stays, where only other blocks, or the field 'steps' or 'ends', have turned. -/
theorem SS.only {F : Blocks} {w w' : World} {B gs : Nat} {M : List Instr} {vm vt : Value} {st : Int} {vh vw : Value} {ne steps : Nat} {met : List Int} {Ae : Option Addr} {ce : Nat} {E : List Bool} (h : SS w B gs M vm vt st vh vw ne steps met Ae ce E) (ho : Only F w w')
    (hg : ¬ F gs) (hm : ∀ b, vm.ownBlock = some b → ¬ F b) (ht : ∀ b, vt.ownBlock = some b → ¬ F b) (he : ∀ b, (Value.slice Ae ce ce).ownBlock = some b → ¬ F b) : SS w' B gs M vm vt st vh vw ne steps met Ae ce E :=
  ⟨h.blk.only ho hg, h.hB, h.m.only ho hm, h.t.only ho ht, h.tl, h.e.only ho he, h.el, h.en⟩

set_option maxRecDepth 100000 in
set_option maxHeartbeats 4000000 in
theorem from_head (B gs : Nat) (M : List Instr) (vm vt : Value) (st : Int) (vh vw : Value) (ne steps : Nat) (met : List Int) (Ae : Option Addr) (ce : Nat) (E : List Bool) (w : World) (A : Option Addr) (n c at_ : Nat)
    (Lh Ly : List Int) (hs : SS w B gs M vm vt st vh vw ne steps met Ae ce E) (hh : Own (Rep.int .i64) 3 w B nob vh Lh) (hy : Own (Rep.int .i64) 3 w B nob vw Ly) (hmet : ∀ x ∈ met, 0 ≤ x ∧ x ≤ st) (hst0 : 0 ≤ st) (hst : st ≤ 32767) (hhy : ∀ b, vh.ownBlock = some b → vw.ownBlock ≠ some b)
    (hwf : Wf M) (hM : 0 < M.length) (hM2 : M.length ≤ 1048576) (hsteps : steps ≤ 137438953472) (hn : n ≤ 1048576) (hMn : M.length * (n + 1) ≤ 68719476736) (text : List UInt8) (hnt : Hid (n = text.length)) (hat : at_ ≤ n) (S : Blocks) (htx : Hid (SliceAt Rep.byte w S A c text)) (hS : Hid (∀ b, S b → b < w.heap.size ∧ ¬ FP gs vm vt vh vw Ae ce b)) :
    Calls Try.prog 30 #[.pointer (some ⟨gs, 0, none⟩), .slice A n c, .int .i64 at_] w (FromPost w B gs M (FP gs vm vt vh vw Ae ce) text at_ steps) := by
  have HWF := Lib.hid hwf
  have HMN := Lib.hid hMn
  clear hwf hMn
  have HS := Lib.hid hs
  have HH := Lib.hid hh
  have HY := Lib.hid hy
  have hc5 := hs.blk.cell 5 _ rfl
  have hf5 := hs.blk.frozen 5
  have hgl := hs.blk.lt
  have hBl : B ≤ w.heap.size := Nat.le_trans hs.hB (Nat.le_of_lt hgl)
  have hmk : ∀ u : World, (Instr.makeSlice 38 (.int .i64 ((n : Int) + 1)) (.int .i64 ((n : Int) + 1))).run Try.prog u = .ok (.slice (some ⟨u.heap.size, 0, none⟩) (n + 1) (n + 1)) (u.alloc (.cells (madeCells #[.bool false] (n + 1)) 4)) := fun u => run_make_bools u (n + 1) (by omega)
  clear hs hh hy
  go_enter Try.func30, Try.ntmps30
  go_upto_if 23 with (fail)
  go_cut [] from 15 (fun wc => ∃ (ne' ce' : Nat) (Ae' : Option Addr) (E' : List Bool), SS wc B gs M vm vt st vh vw ne' steps met Ae' ce' E' ∧ n + 1 ≤ ce' ∧ Only (fun b => b = gs) w wc ∧ ((Value.slice Ae' ce' ce').ownBlock = (Value.slice Ae ce ce).ownBlock ∨ (Value.slice Ae' ce' ce').ownBlock = some w.heap.size))
  case first =>
    go_wp2_with fail
    · go_meet
      case rel =>
        have hmb := HS.out.m.ne_block HS.out.blk (by decide)
        have htb := HS.out.t.ne_block HS.out.blk (by decide)
        have ho1 : Only (fun b => b = gs) w (w.setCell ⟨gs, 5, none⟩ (.slice (some ⟨w.heap.size, 0, none⟩) (n + 1) (n + 1))) := Only.setCell (F := fun b => b = gs) (Only.refl _ _) (.inl rfl) _
        have hsz : (w.setCell ⟨gs, 5, none⟩ (.slice (some ⟨w.heap.size, 0, none⟩) (n + 1) (n + 1))).heap.size = w.heap.size := by simp [World.setCell]
        have hmade := Own.made Rep.bool 4 (w.setCell ⟨gs, 5, none⟩ (.slice (some ⟨w.heap.size, 0, none⟩) (n + 1) (n + 1))) (n + 1) B (.bool false) false (fun _ => rfl) rfl (by rw [hsz]; exact hBl) (by simp only [maxLen]; omega)
        rw [hsz] at hmade
        have hblk := Blk.set gs vm vt st vh vw _ steps HS.out.blk st vt vh vw _ steps 5 (.slice (some ⟨w.heap.size, 0, none⟩) (n + 1) (n + 1)) rfl
        refine ⟨n + 1, n + 1, some ⟨w.heap.size, 0, none⟩, List.replicate (n + 1) false, ⟨?_, HS.out.hB, (HS.out.m.only ho1 (fun b hb h => hmb (by rw [hb, h]))).alloc _, (HS.out.t.only ho1 (fun b hb h => htb (by rw [hb, h]))).alloc _, HS.out.tl, hmade, by simp, Nat.le_refl _⟩, Nat.le_refl _, ho1.alloc _, .inr rfl⟩
        exact hblk.only (Only.of_below ((Below.refl _ _).alloc (Nat.le_refl _) _) nob) (fun h => h)
    · go_meet
      case rel => exact ⟨ne, ce, Ae, E, HS.out, by omega, Only.refl _ _, .inl rfl⟩
  case rest =>
    obtain ⟨ne', ce', Ae', E', hs', hce', hon', hat'⟩ := hcut
    have hhb := HH.out.ne_block HS.out.blk (by decide)
    have hyb := HY.out.ne_block HS.out.blk (by decide)
    have hh' := HH.out.only hon' (fun b hb h => hhb (by rw [hb, h]))
    have hy' := HY.out.only hon' (fun b hb h => hyb (by rw [hb, h]))
    obtain ⟨ge, cge, ue, hAe, hBe, hgel, -, -, -, -⟩ := hs'.e.cellAt rfl (k := 0) (by rw [hs'.el]; omega)
    simp only [Value.slice.injEq] at hAe
    obtain ⟨rfl, hAl, rfl⟩ := hAe
    clear hAl
    have hcells : ∀ j, j < ce' → (∃ v, wc.cell? ⟨ge, j, none⟩ = some v) ∧ wc.frozen? ⟨ge, j, none⟩ = false := by
      intro j hj
      obtain ⟨g', c', u', he, _, _, hc', hf', _, _⟩ := hs'.e.cellAt rfl (k := j) (by rw [hs'.el]; exact hj)
      simp only [Value.slice.injEq, Option.some.injEq, Addr.mk.injEq] at he
      obtain ⟨⟨rfl, _⟩, _, _⟩ := he
      exact ⟨⟨_, hc'⟩, hf'⟩
    have hegs : ge ≠ gs := by
      have := hs'.e.ne_block hs'.blk (by decide)
      intro e; exact this (by rw [e]; rfl)
    -- the reslice, then the clearing
    obtain ⟨w1, hw1⟩ : ∃ w1, w1 = wc.setCell ⟨gs, 5, none⟩ (.slice (some ⟨ge, 0, none⟩) (n + 1) ce') := ⟨_, rfl⟩
    have ho1 : Only (fun b => b = gs) wc w1 := by rw [hw1]; exact Only.setCell (F := fun b => b = gs) (Only.refl _ _) (.inl rfl) _
    have hb1 : Blk w1 gs vm vt st vh vw (.slice (some ⟨ge, 0, none⟩) (n + 1) ce') steps := by rw [hw1]; exact Blk.set gs vm vt st vh vw _ steps hs'.blk st vt vh vw _ steps 5 _ rfl
    have he1 := hs'.e.only ho1 (fun b hb h => hegs (by simp [Value.ownBlock] at hb; rw [hb, h]))
    obtain ⟨w2, hw2⟩ : ∃ w2, w2 = w1.setCells ge 0 (List.replicate (n + 1) (.bool false)) := ⟨_, rfl⟩
    have hclr : ∀ ty, (Builtin.clear_ #[38] ty #[.slice (some ⟨ge, 0, none⟩) (n + 1) ce']).run Try.prog w1 = .ok (.tuple #[]) w2 := fun ty => by
      rw [hw2]
      refine Lib.run_clear_slice w1 38 4 ty (.bool false) Try.underlying38 (fun w => by kernel_rfl) rfl rfl ge 0 (n + 1) ce' (by omega) (fun j hj => ?_) (fun j hj => ?_)
      · rw [Nat.zero_add]
        obtain ⟨⟨v, hv⟩, _⟩ := hcells j (by omega)
        rw [World.cell?_of_block (ho1.block ge hgel hegs), hv]; rfl
      · rw [Nat.zero_add, World.frozen?_of_block (ho1.block ge hgel hegs)]
        exact (hcells j (by omega)).2
    have ho2 : Only (fun b => b = ge) w1 w2 := by rw [hw2]; exact Only.setCells (fun b => b = ge) ge rfl _ _ _ _ (Only.refl _ _)
    have he2 : Own Rep.bool 4 w2 B nob (.slice (some ⟨ge, 0, none⟩) ce' ce') (List.replicate (n + 1) false ++ E'.drop (n + 1)) := by
      have := Own.setCells (r := Rep.bool) (e := 4) (base := B) (c := ce') rfl ge ce' (List.replicate (n + 1) (.bool false)) (List.replicate (n + 1) false) E' w1 0 he1 hs'.el (by simp) (by simp; omega) (fun i h h' w => by simp [Rep.bool])
      rw [← hw2] at this
      simpa using this
    have hb2 := hb1.only ho2 (fun h => hegs h.symm)
    have htb := hs'.t.ne_block hs'.blk (by decide)
    have hte := fun b hb => hs'.t.ne_type hs'.e (by decide) (b := b) hb
    have hhe := fun b hb => hh'.ne_type hs'.e (by decide) (b := b) hb
    have hye := fun b hb => hy'.ne_type hs'.e (by decide) (b := b) hb
    have hht := fun b hb => hs'.t.ne_type hh' (by decide) (b := b) hb
    have hyt := fun b hb => hs'.t.ne_type hy' (by decide) (b := b) hb
    have hme := fun b hb => hs'.m.ne_type hs'.e (by decide) (b := b) hb
    have hmb := hs'.m.ne_block hs'.blk (by decide)
    have ho12 : Only (fun b => b = gs ∨ b = ge) wc w2 := (ho1.mono fun b h => .inl h).trans ho2 fun b h => .inl (.inr h)
    have hkeep : ∀ {α : Type} {r : Rep α} {e : TypeId} {v : Value} {l : List α}, Own r e wc B nob v l → v.ownBlock ≠ some gs → (∀ b, v.ownBlock = some b → (Value.slice (some ⟨ge, 0, none⟩) ce' ce').ownBlock ≠ some b) → Own r e w2 B nob v l := fun h h1 h2 => h.only ho12 fun b hb h => by
      rcases h with h | h
      · exact h1 (by rw [hb, h])
      · exact h2 b hb (by rw [h]; rfl)
    have ht2 := hkeep hs'.t htb hte
    have hh2 := hkeep hh' (fun h => by have := hh'.ne_block hs'.blk (by decide); exact this h) hhe
    have hy2 := hkeep hy' (fun h => by have := hy'.ne_block hs'.blk (by decide); exact this h) hye
    have hm2 := hkeep hs'.m hmb hme
    obtain ⟨Ah, nh, ch, rfl, -, -, hchm⟩ := hh2.form
    have hd5 := hs'.blk.cell 5 _ rfl
    have hdf5 := hs'.blk.frozen 5
    have hnc : (n : Int) + 1 ≤ ce' := by omega
    have hcem : ce' ≤ 9223372036854775807 := by have := hs'.e.form; obtain ⟨_, _, _, he, _, _, hm⟩ := this; simp at he; omega
    rw [hw1] at hclr
    have htl := hs'.tl
    have HB2 := Lib.hid hb2
    have HE2 := Lib.hid he2
    have HT2 := Lib.hid ht2
    have HH2 := Lib.hid hh2
    have HY2 := Lib.hid hy2
    have HM2 := Lib.hid hm2
    have HMET := Lib.hid hmet
    have HTL := Lib.hid htl
    have HO12 := Lib.hid ho12
    have HON := Lib.hid hon'
    have hf1 := hb1.frozen 5
    rw [hw1] at hf1
    have hg5 := hb1.cell 5 _ rfl
    rw [hw1] at hg5
    have hhb2 := hh2.ne_block hb2 (by decide)
    have hyb2 := hy2.ne_block hb2 (by decide)
    have hmb2 := hm2.ne_block hb2 (by decide)
    have htb2 := ht2.ne_block hb2 (by decide)
    have hht2 := fun b hb => ht2.ne_type hh2 (by decide) (b := b) hb
    have hyt2 := fun b hb => ht2.ne_type hy2 (by decide) (b := b) hb
    have hmt2 := fun b hb => ht2.ne_type hm2 (by decide) (b := b) hb
    have het2 := fun b hb => ht2.ne_type he2 (by decide) (b := b) hb
    have hBgs := hs'.hB
    have hEl := hs'.el
    have HAT := Lib.hid hat'
    have HHB2 := Lib.hid hhb2
    have HYB2 := Lib.hid hyb2
    have HMB2 := Lib.hid hmb2
    have HTB2 := Lib.hid htb2
    have HHT2 := Lib.hid hht2
    have HYT2 := Lib.hid hyt2
    have HMT2 := Lib.hid hmt2
    have HET2 := Lib.hid het2
    have HEL := Lib.hid hEl
    have HHY := Lib.hid hhy
    have hmh2 := fun b hb => hm2.ne_type hh2 (by decide) (b := b) hb
    have HMH2 := Lib.hid hmh2
    have heh2 := fun b hb => he2.ne_type hh2 (by decide) (b := b) hb
    have HEH2 := Lib.hid heh2
    have heb2 := he2.ne_block hb2 (by decide)
    have HEB2 := Lib.hid heb2
    clear hs' hon' hat' hmh2 heh2 heb2 hhb2 hyb2 hmb2 htb2 hht2 hyt2 hmt2 het2 hEl hhy hhb hyb hh' hy' hcells hb1 he1 ho1 ho2 he2 hb2 htb hte hhe hye hht hyt hme hmb ho12 ht2 hh2 hy2 hm2 hmet htl hw1 hw2 hkeep
    go_wp2_with (first | (go_at_call 32; refine (fresh_any B gs vm vt st _ vw _ steps met w2 HB2.out HT2.out (by have := HTL.out; omega) hst0 hst HMET.out).mono ?_; rintro e w3 ⟨rfl, met3, st3, hb3, ht3, hl3, hlt3, hs30, hs31, hon3⟩; have hc33 := hb3.cell 3 _ rfl; have HB3 := Lib.hid hb3; have HT3 := Lib.hid ht3; have HL3 := Lib.hid hl3; have HLT3 := Lib.hid hlt3; have HON3 := Lib.hid hon3; clear hb3 ht3 hl3 hlt3 hon3) | (go_at_call 33; have hh3 := HH2.out.only HON3.out (fun b hb h => by rcases h with h | h; exact HHB2.out (by rw [hb, h]); exact HHT2.out b h.symm hb); refine (comeS B gs vm vt (.slice Ah 0 ch) st3 _ vw _ steps met3 [] 0 w3 HB3.out HT3.out (by have := HL3.out; have := HTL.out; omega) hBgs hh3.cutZero (Marks.none HLT3.out hs30 hs31) (by simp) (by simp) (by omega) (by have := HL3.out; have := HTL.out; omega)).mono ?_; rintro e w4 ⟨v4, met4, rfl, hv4, ht4, hl4, hmk4, hb4, hon4, hat4⟩; obtain ⟨A4, n4, c4, rfl, -, -, -⟩ := hv4.form; have hf43 := hb4.frozen 3; have hc43 := hb4.cell 3 _ rfl; have HV4 := Lib.hid hv4; have HT4 := Lib.hid ht4; have HL4 := Lib.hid hl4; have HMK4 := Lib.hid hmk4; have HB4 := Lib.hid hb4; have HON4 := Lib.hid hon4; have HAT4 := Lib.hid hat4; have HH3 := Lib.hid hh3; clear hv4 ht4 hl4 hmk4 hb4 hon4 hat4 hh3))
    have ho5 : Only (fun b => b = gs) w4 (w4.setCell ⟨gs, 3, none⟩ (.slice A4 n4 c4)) := Only.setCell (F := fun b => b = gs) (Only.refl _ _) (.inl rfl) _
    have hb5 := Blk.set gs vm vt st3 (.slice Ah nh ch) vw _ _ HB4.out st3 vt (.slice A4 n4 c4) vw _ _ 3 (.slice A4 n4 c4) rfl
    obtain ⟨w5, hw5⟩ : ∃ w5, w5 = w4.setCell ⟨gs, 3, none⟩ (.slice A4 n4 c4) := ⟨_, rfl⟩
    rw [← hw5] at ho5 hb5 ⊢
    have hsame : (Value.slice Ah 0 ch).ownBlock = (Value.slice Ah nh ch).ownBlock := by cases Ah <;> rfl
    have ho4 : Only (fun b => b = gs ∨ some b = vt.ownBlock ∨ some b = (Value.slice Ah nh ch).ownBlock) w3 w4 := HON4.out.mono fun b h => by rw [hsame] at h; exact h
    have ho25 : Only (fun b => b = gs ∨ some b = vt.ownBlock ∨ some b = (Value.slice Ah nh ch).ownBlock) w2 w5 := ((HON3.out.mono fun b h => by rcases h with h | h; exact .inl h; exact .inr (.inl h)).trans ho4 fun b h => .inl h).trans ho5 fun b h => .inl (.inl h)
    have hkeep : ∀ {α : Type} {r : Rep α} {e : TypeId} {v : Value} {l : List α}, Own r e w2 B nob v l → v.ownBlock ≠ some gs → (∀ b, vt.ownBlock = some b → v.ownBlock ≠ some b) → (∀ b, v.ownBlock = some b → (Value.slice Ah nh ch).ownBlock ≠ some b) → Own r e w5 B nob v l := fun h h1 h2 h3 => h.only ho25 fun b hb h => by
      rcases h with h | h | h
      · exact h1 (by rw [hb, h])
      · exact h2 b h.symm hb
      · exact h3 b hb h.symm
    have hST : ST false w w5 (FP gs vm vt (.slice Ah nh ch) vw Ae ce) B gs M vm vt ge ce' n (.slice A4 n4 c4) vw [0] Ly st3 (steps + 1) met4 (List.replicate (n + 1) false) (E'.drop (n + 1)) := by
      refine ⟨hb5, hBgs, hkeep HM2.out HMB2.out HMT2.out HMH2.out, HT4.out.only ho5 (fun b hb h => HTB2.out (by rw [hb, h])), by have := HL4.out; have := HL3.out; have := HTL.out; omega, hkeep HE2.out HEB2.out HET2.out HEH2.out, by simp, ?_, hkeep HY2.out HYB2.out HYT2.out (fun b hb h => HHY.out b h hb), ?_, HMK4.out, by simp, by simpa using hM, ?_, .inl rfl, fun b h => .inr (.inr (.inl h)), ?_, ?_, fun b h => .inl (.inr (.inr (.inr (.inr (.inl h)))))⟩
      · exact HV4.out.only ho5 (fun b hb h => HV4.out.ne_block HB4.out (by decide) (by rw [hb, h]))
      · intro b hb
        rcases HAT4.out with h | ⟨q, h, hq⟩
        · rw [h, hsame] at hb; exact HHY.out b hb
        · rw [h] at hb; injection hb with hb; subst hb
          intro hy
          have := (HY2.out.block_lt hy).2
          have := HON3.out.size
          omega
      · refine ((HON.out.mono fun b h => ?_).trans HO12.out fun b h => ?_).trans ho25 fun b h => ?_
        · exact .inl h
        · rcases h with h | h
          · exact .inl (.inl h)
          · rcases HAT.out with h' | h'
            · refine .inl (.inr (.inr (.inr (.inr (.inr ?_)))))
              rw [← h', h]; rfl
            · simp [Value.ownBlock] at h'; exact .inr (by omega)
        · rcases h with h | h | h
          · exact .inl (.inl h)
          · exact .inl (.inr (.inr (.inl h)))
          · exact .inl (.inr (.inr (.inr (.inl h))))
      · rcases HAT.out with h' | h'
        · refine .inl (.inr (.inr (.inr (.inr (.inr ?_)))))
          rw [← h']; rfl
        · simp [Value.ownBlock] at h'; exact .inr (by omega)
      · intro b hb
        rcases HAT4.out with h | ⟨q, h, hq⟩
        · rw [h, hsame] at hb
          exact .inl (.inr (.inr (.inr (.inl hb))))
        · rw [h] at hb; injection hb with hb; subst hb
          refine .inr ?_
          have := HON.out.size; have := HO12.out.size; have := HON3.out.size
          omega
    have HST := Lib.hid hST
    clear hST ho25 ho4 hkeep ho5 hb5 hw5 HV4 HT4 HL4 HMK4 HB4 HON4 HAT4 HH3 HB3 HT3 HL3 HLT3 HON3 HB2 HE2 HT2 HH2 HY2 HM2 HMET HO12 HON HAT HHB2 HYB2 HMB2 HTB2 HHT2 HYT2 HMT2 HET2 HEL HHY HMH2 HEH2 HEB2 HTL HS HH HY hclr hg5 hf1 hd5 hdf5 hc5 hf5 hmk hc33 hc43 hf43
    refine outer (at_ := at_) (last := -1) HWF.out HST.out hM hM2 hn HMN.out (by omega) hat htx.out hnt.out hS.out ?_ rfl
    intro z9 z10 z11 z13 z14 z59 z60 z61 z62 z63 z64 z65 z66 z67 z68 z69 z70 z71 z72 z73 z74 z75 z76 z77 z78 z79 z80 z81 z82 z83 z84 z85 z86 z87 z88 z89 z90 z91 z92 z93 z94 z95 z96 z97 z98 z99 z100 z101 z102 z103 z104 z105 z106 z107 z108 z109 z110 z111 z112 z113 z114 z115 z116 z117 z118 z119 z120 z121 z122 z123 z124 z125 z126 z127 z128 z129 z130 z131 z132 z133 z134 z135 z136 z137 z138 z139 z140 z141 z142 z143 z144 z145 z146 z147 z148 z149 z150 z151 z152 z153 z154 z155 z156 z157 z158 z159 z160 z161 z162 z163 z164 z165 z166 z167 z168 z169 z170 z171 z172 z173 z174 z175 z176 z177 z178 z179 z180 z181 z182 z183 z184 z185 z186 z187 z188 z189 z190 z191 z192 z193 z194 z195 z196 z197 z198 z199 z200 z201 z202 z203 z204 z205 z206 z207 z208 z209 z210 z211 z212 z213 z214 z215 z216 z217 z218 z219 z220 z221 z222 z223 z224 z225 z226 z227 z228 z229 z230 z231 z232 z233 z234 z235 z236 z237 z238 z239 z240 z241 z242 z243 z244 z245 z246 z247 p last w6 v6 vo6 l6 Ly6 st6 steps6 met6 E6 hst6 hgo6
    have HST6 := Lib.hid hst6
    have HGO6 := Lib.hid hgo6
    clear hst6 hgo6
    go_wp2
    go_ret
    refine ⟨last, E6, steps6, _, rfl, ?_, HST6.out.srch, HST6.out.on, ?_⟩
    · rw [HGO6.out]; unfold fromAll; rw [← hnt.out]
    · intro b hb
      rcases hb with h | h | h | h | h | h
      · exact .inl (.inl h)
      · exact .inl (.inr (.inl h))
      · exact .inl (.inr (.inr (.inl h)))
      · exact HST6.out.fh b h
      · exact HST6.out.fy b h
      · simp [Value.ownBlock] at h; rw [h]; exact HST6.out.fe
/-- What from does. -/
theorem from_any (B gs : Nat) (M : List Instr) (F : Blocks) (steps : Nat) (E : List Bool) (w : World) (A : Option Addr) (n c at_ : Nat) (text : List UInt8) (S : Blocks) (hs : Srch w B gs M F steps E) (hwf : Wf M) (hM : 0 < M.length) (hM2 : M.length ≤ 1048576) (hsteps : steps ≤ 137438953472) (hn : n ≤ 1048576) (hMn : M.length * (n + 1) ≤ 68719476736)
    (hnt : n = text.length) (hat : at_ ≤ n) (htx : SliceAt Rep.byte w S A c text) (hS : ∀ b, S b → b < w.heap.size ∧ ¬ F b) :
    Calls Try.prog 30 #[.pointer (some ⟨gs, 0, none⟩), .slice A n c, .int .i64 at_] w (FromPost w B gs M F text at_ steps) := by
  obtain ⟨vm, vt, st, vh, vw, ne, met, Ae, ce, Ef, Lh, Ly, h1, h2, h3, h4, h5, h6, h7, rfl, -⟩ := hs
  exact from_head B gs M vm vt st vh vw ne steps met Ae ce Ef w A n c at_ Lh Ly h1 h2 h3 h4 h5 h6 h7 hwf hM hM2 hsteps hn hMn text (Lib.hid hnt) hat S (Lib.hid htx) (Lib.hid hS)
end Go.Proofs.Ytfbaaccnnogajaa
