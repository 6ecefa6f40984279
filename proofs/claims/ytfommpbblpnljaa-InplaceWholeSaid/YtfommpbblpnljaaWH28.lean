/- Texts that lead to the claim, one behind the other: What Edit holds in memory between its steps: a disk, boxes of its own, a row of bytes. The walk of outs.New. No conditions. | The walks of inplace.first over Edit's four calls, and of the calls themselves. No conditions. -/
import Derived.Test.YtfommpbblpnljaaWH27
import Derived.Test.YtfommpbblpnljaaWH23
import Derived.Deep.LoopGhost
namespace Go.Proofs.Ytfommpbblpnljaa
open Go.RowKit Go.ChangeShapes Go.WideShapes Go.Deep

/-- A block with what it holds. -/
abbrev Bx := Nat × Array Value × TypeId
def Bx.at_ (x : Bx) (W : World) : Prop := W.heap[x.1]? = some (.cells x.2.1 x.2.2 (0, 0))
theorem Bx.lt {x : Bx} {W : World} (h : x.at_ W) : x.1 < W.heap.size := (Array.getElem?_eq_some_iff.1 h).1
theorem Bx.keep {x : Bx} {W W' : World} {G : Blocks} (h : x.at_ W) (ho : Only G W W') (hn : ¬ G x.1) : x.at_ W' := (ho.block _ (Bx.lt h) hn).trans h
structure Ed (w W : World) (F G : Blocks) (d : Nat) (s : Disk.St) (v : Value) (bs : List UInt8) (l : List Bx) : Prop where
  disk : DiskAt W G d s
  gs : ∀ b, G b → F b ∨ w.heap.size ≤ b
  only : Only F w W
  row : Own Rep.byte 5 W w.heap.size nob v bs
  rg : ∀ b, v.ownBlock = some b → ¬ G b
  box : ∀ x ∈ l, x.at_ W ∧ ¬ G x.1 ∧ w.heap.size ≤ x.1
section
variable {w W W' : World} {F G : Blocks} {d : Nat} {s : Disk.St} {v : Value} {bs : List UInt8} {l : List Bx}
theorem DiskAt.lt (h : DiskAt W G d s) : ∀ b, G b → b < W.heap.size := by
  obtain ⟨loc, blk, bn, bo, rowv, pA, pC, hB⟩ := h
  exact hB.lt
theorem DiskAt.far (h : DiskAt W G d s) (hb : Below W.heap.size W W') : DiskAt W' G d s := by
  obtain ⟨loc, blk, bn, bo, rowv, pA, pC, hB⟩ := h
  exact (hB.far hb).at_
theorem Ed.start (h : DiskAt w F d s) : Ed w w F F d s (.slice none 0 0) [] [] :=
  ⟨h, fun _ hb => .inl hb, Only.refl F w, Own.nil _ _ _ _, fun b hb => by simp [Value.ownBlock] at hb, fun x hx => by simp at hx⟩
theorem Ed.lt (h : Ed w W F G d s v bs l) : ∀ b, G b → b < W.heap.size := h.disk.lt
theorem Ed.far (h : Ed w W F G d s v bs l) (hb : Below W.heap.size W W') : Ed w W' F G d s v bs l :=
  ⟨h.disk.far hb, h.gs, h.only.trans (Only.of_below hb (fun _ => False)) (fun _ h => h.elim), h.row.far hb, h.rg, fun x hx => ⟨Bx.keep (h.box x hx).1 (Only.of_below hb (fun _ => False)) (fun h => h), (h.box x hx).2⟩⟩
theorem Ed.call (h : Ed w W F G d s v bs l) {r : Disk.St × Int} {e : Ending} (hc : DiskCall W G d r e W') : e = .returned (.int .i64 r.2) ∧ Ed w W' F (grow G W W') d r.1 v bs l := by
  refine ⟨hc.1, hc.2.1, fun b hb => hb.elim (h.gs b) fun hb => .inr (Nat.le_trans h.only.size hb.1), h.only.trans hc.2.2 h.gs, h.row.only hc.2.2 h.rg, fun b hb hg => hg.elim (h.rg b hb) fun hg => ?_, fun x hx => ?_⟩
  · have := (h.row.block_lt hb).2; have := hg.1; omega
  · obtain ⟨h1, h2, h3⟩ := h.box x hx
    exact ⟨Bx.keep h1 hc.2.2 h2, fun hg => hg.elim h2 fun hg => by have := Bx.lt h1; have := hg.1; omega, h3⟩
theorem Ed.push (h : Ed w W F G d s v bs l) (cs : Array Value) (t : TypeId) : Ed w (W.alloc (.cells cs t)) F G d s v bs ((W.heap.size, cs, t) :: l) := by
  have h1 := h.far (Below.alloc (Below.refl _ W) (Nat.le_refl _) (.cells cs t))
  refine { h1 with box := fun x hx => ?_ }
  rcases List.mem_cons.1 hx with rfl | hx
  · exact ⟨World.alloc_heap_new W _, fun hg => Nat.lt_irrefl _ (h.lt _ hg), h.only.size⟩
  · exact h1.box x hx
theorem Ed.read (h : Ed w W F G d s (.slice none 0 0) [] l) {A : Option Addr} {n c : Nat} (ho : Own Rep.byte 5 W' W.heap.size nob (.slice A n c) bs) (hb : Below W.heap.size W W') : Ed w W' F G d s (.slice A n c) bs l := by
  have h1 := h.far hb
  exact { h1 with row := ho.low h.only.size, rg := fun b hb' hg => by have := (ho.block_lt hb').1; have := h.lt b hg; omega }
theorem Ed.cell (h : Ed w W F G d s v bs l) (x : Bx) (hx : x ∈ l) (i : Nat) : W.cell? ⟨x.1, i, none⟩ = x.2.1[i]? := cell_of_row W x.1 i _ _ (0, 0) (h.box x hx).1
/-- The first box's cell is written. -/
theorem Ed.set {b : Nat} {t : TypeId} {u : Value} (h : Ed w W F G d s v bs ((b, #[u], t) :: l)) (ht : t ≠ 5) (hl : ∀ x ∈ l, x.1 ≠ b) (u' : Value) : Ed w (W.setCell ⟨b, 0, none⟩ u') F G d s v bs ((b, #[u'], t) :: l) := by
  obtain ⟨h1, h2, h3⟩ := h.box _ List.mem_cons_self
  have ho : Only (fun x => x = b) W (W.setCell ⟨b, 0, none⟩ u') := Only.setCell (Only.refl (fun x => x = b) W) (.inl rfl) _
  obtain ⟨loc, blk, bn, bo, rowv, pA, pC, hB⟩ := h.disk
  refine ⟨(hB.only ho fun x hx e => h2 (e ▸ hx)).at_, h.gs, h.only.trans ho fun x hx => .inr (hx ▸ h3), h.row.only ho fun x hx e => ?_, h.rg, fun x hx => ?_⟩
  · obtain ⟨cur, hc⟩ := h.row.content hx
    exact ne_cells hc h1 (Ne.symm ht) e
  · rcases List.mem_cons.1 hx with rfl | hx
    · refine ⟨?_, h2, h3⟩
      have h4 : W.heap[b]? = some (.cells #[u] t (0, 0)) := h1
      simp [Bx.at_, World.setCell, Array.getElem?_modify, h4]
    · obtain ⟨h5, h6, h7⟩ := h.box x (List.mem_cons_of_mem _ hx)
      exact ⟨Bx.keep h5 ho (hl x hx), h6, h7⟩
end
set_option maxRecDepth 100000 in
theorem outsNew_any (dB tB : Nat) (w : World) : Calls Try.prog 30 #[.int .i64 64, sinkV dB tB] w fun e w' => e = .returned (.tuple #[.pointer (some ⟨w.heap.size, 0, none⟩), .int .i64 0]) ∧ w' = w.alloc (.cells #[.int .i64 64, sinkV dB tB, .slice none 0 0, .int .i64 0, .int .i64 0] 106) := by
  unfold sinkV
  go_enter Try.func30, Try.ntmps30
  go_wp2_with fail
  go_ret2
  exact ⟨rfl, rfl⟩
end Go.Proofs.Ytfommpbblpnljaa
namespace Go.Proofs.Ytfommpbblpnljaa
open Go.RowKit Go.ChangeShapes Go.WideShapes Go.Deep

def f0V (b2 b7 b11 : Nat) : Value := .func (.func 34) #[] #[.pointer (some ⟨b2, 0, none⟩), .pointer (some ⟨b7, 0, none⟩), .pointer (some ⟨b11, 0, none⟩)]
def f1V (o : Nat) : Value := .func (.func 35) #[.pointer (some ⟨o, 0, none⟩)] #[]
def f2V (dB tB : Nat) : Value := .func (.func 36) #[] #[.pointer (some ⟨dB, 0, none⟩), .pointer (some ⟨tB, 0, none⟩)]
def f3V (dB tB nB : Nat) : Value := .func (.func 38) #[] #[.pointer (some ⟨dB, 0, none⟩), .pointer (some ⟨tB, 0, none⟩), .pointer (some ⟨nB, 0, none⟩)]
/-- A step: its answer, and what holds behind it. -/
def Step (I : World → Prop) (R : Int → World → Prop) (e : Ending) (w' : World) : Prop := ∃ q, e = .returned (.int .i64 q) ∧ (q = 0 → I w') ∧ (q ≠ 0 → R q w')
set_option maxRecDepth 100000 in
set_option maxHeartbeats 1000000 in
theorem first_any (g b2 b7 b11 o dB tB nB : Nat) (w : World) (I : Nat → World → Prop) (R : Int → World → Prop) (h0 : I 0 w)
    (hc : Hid (∀ i W, I i W → W.heap[g]? = some (.cells #[f0V b2 b7 b11, f1V o, f2V dB tB, f3V dB tB nB] 77 (0, 0))))
    (k0 : Hid (∀ W, I 0 W → Calls Try.prog 34 #[.pointer (some ⟨b2, 0, none⟩), .pointer (some ⟨b7, 0, none⟩), .pointer (some ⟨b11, 0, none⟩)] W (Step (I 1) R)))
    (k1 : Hid (∀ W, I 1 W → Calls Try.prog 35 #[.pointer (some ⟨o, 0, none⟩)] W (Step (I 2) R)))
    (k2 : Hid (∀ W, I 2 W → Calls Try.prog 36 #[.pointer (some ⟨dB, 0, none⟩), .pointer (some ⟨tB, 0, none⟩)] W (Step (I 3) R)))
    (k3 : Hid (∀ W, I 3 W → Calls Try.prog 38 #[.pointer (some ⟨dB, 0, none⟩), .pointer (some ⟨tB, 0, none⟩), .pointer (some ⟨nB, 0, none⟩)] W (Step (I 4) R)))
    (k4 : Hid (∀ W, I 4 W → R 0 W)) :
    Calls Try.prog 33 #[.slice (some ⟨g, 0, none⟩) 4 4] w fun e w' => ∃ q, e = .returned (.int .i64 q) ∧ R q w' := by
  have hH := Lib.hid h0
  clear h0
  go_enter Try.func33, Try.ntmps33
  go_wp2_with fail
  go_loopg [8] 4 (fun k iv wr => ∃ (i : Nat), i ≤ 4 ∧ iv = .int .i64 i ∧ k = 4 - i ∧ Hid (I i wr))
  case atStart => exact ⟨0, Nat.zero_le _, rfl, rfl, hH⟩
  case round =>
    obtain ⟨i, hi, rfl, rfl, HI⟩ := hrel
    rcases Nat.lt_or_ge i 4 with hlt | hge
    · have hcc := hc.out i wr HI.out
      match i, hlt with
      | 0, _ =>
        have c0 : wr.cell? ⟨g, 0, none⟩ = some (f0V b2 b7 b11) := (cell_of_row wr g 0 _ _ (0, 0) hcc).trans rfl
        unfold f0V at c0
        have K := Lib.hid (k0.out wr HI.out)
        clear hcc
        go_wp2_with fail
        refine K.out.mono ?_
        rintro e w1 ⟨q, rfl, hq1, hq2⟩
        have HQ1 := Lib.hid hq1
        have HQ2 := Lib.hid hq2
        clear hq1 hq2 K c0
        by_cases hq : q = 0
        · have hqb : (q != 0) = false := by rw [hq]; rfl
          go_wp2_with fail
          go_roundg 3
          · exact ⟨1, by omega, by first | rfl | go_num, rfl, Lib.hid (HQ1.out hq)⟩
          · omega
        · have hqb : (q != 0) = true := bne_iff_ne.2 hq
          go_wp2_with fail
          go_ret
          exact ⟨_, rfl, HQ2.out hq⟩
      | 1, _ =>
        have c0 : wr.cell? ⟨g, 1, none⟩ = some (f1V o) := (cell_of_row wr g 1 _ _ (0, 0) hcc).trans rfl
        unfold f1V at c0
        have K := Lib.hid (k1.out wr HI.out)
        clear hcc
        go_wp2_with fail
        refine K.out.mono ?_
        rintro e w1 ⟨q, rfl, hq1, hq2⟩
        have HQ1 := Lib.hid hq1
        have HQ2 := Lib.hid hq2
        clear hq1 hq2 K c0
        by_cases hq : q = 0
        · have hqb : (q != 0) = false := by rw [hq]; rfl
          go_wp2_with fail
          go_roundg 2
          · exact ⟨2, by omega, by first | rfl | go_num, rfl, Lib.hid (HQ1.out hq)⟩
          · omega
        · have hqb : (q != 0) = true := bne_iff_ne.2 hq
          go_wp2_with fail
          go_ret
          exact ⟨_, rfl, HQ2.out hq⟩
      | 2, _ =>
        have c0 : wr.cell? ⟨g, 2, none⟩ = some (f2V dB tB) := (cell_of_row wr g 2 _ _ (0, 0) hcc).trans rfl
        unfold f2V at c0
        have K := Lib.hid (k2.out wr HI.out)
        clear hcc
        go_wp2_with fail
        refine K.out.mono ?_
        rintro e w1 ⟨q, rfl, hq1, hq2⟩
        have HQ1 := Lib.hid hq1
        have HQ2 := Lib.hid hq2
        clear hq1 hq2 K c0
        by_cases hq : q = 0
        · have hqb : (q != 0) = false := by rw [hq]; rfl
          go_wp2_with fail
          go_roundg 1
          · exact ⟨3, by omega, by first | rfl | go_num, rfl, Lib.hid (HQ1.out hq)⟩
          · omega
        · have hqb : (q != 0) = true := bne_iff_ne.2 hq
          go_wp2_with fail
          go_ret
          exact ⟨_, rfl, HQ2.out hq⟩
      | 3, _ =>
        have c0 : wr.cell? ⟨g, 3, none⟩ = some (f3V dB tB nB) := (cell_of_row wr g 3 _ _ (0, 0) hcc).trans rfl
        unfold f3V at c0
        have K := Lib.hid (k3.out wr HI.out)
        clear hcc
        go_wp2_with fail
        refine K.out.mono ?_
        rintro e w1 ⟨q, rfl, hq1, hq2⟩
        have HQ1 := Lib.hid hq1
        have HQ2 := Lib.hid hq2
        clear hq1 hq2 K c0
        by_cases hq : q = 0
        · have hqb : (q != 0) = false := by rw [hq]; rfl
          go_wp2_with fail
          go_roundg 0
          · exact ⟨4, by omega, by first | rfl | go_num, rfl, Lib.hid (HQ1.out hq)⟩
          · omega
        · have hqb : (q != 0) = true := bne_iff_ne.2 hq
          go_wp2_with fail
          go_ret
          exact ⟨_, rfl, HQ2.out hq⟩
    · obtain rfl : i = 4 := by omega
      go_wp2_with fail
      go_ret
      exact ⟨_, rfl, k4.out _ HI.out⟩
end Go.Proofs.Ytfommpbblpnljaa
