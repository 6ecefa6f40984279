/- Texts that lead to the claim, one behind the other: An edit whose run is a case's: the walks of (galleylaw30.Case).program and of the Edit that it is handed to. Condition: the counts are below 2^40. | The bound on what is handed in: the walk of (galleylaw30.Case).beyond. Condition: no part weighs more than the reach. | Of a file among files, its bytes: the walk of galleylaw30.bytes. No conditions. | What chapter 30's laws hold: a case's box, a disk of the call's own, the run's record. No conditions. | galleylaw30.InplaceRefused: the walk. Condition: what is handed in lies within reach. -/
import Derived.Test.YtfommpbblpnljaaWH44
import Derived.Test.YtfommpbblpnljaaWH20
import Derived.Test.YtfommpbblpnljaaWH35
import Derived.Test.YtfommpbblpnljaaWH43
import Derived.BigQuiet
import Derived.Test.YtfommpbblpnljaaWH19
import Derived.Test.YtfommpbblpnljaaWH29
import Derived.Deep.LoopGhost
import Derived.Test.YtfommpbblpnljaaWH45
import Derived.Test.YtfommpbblpnljaaWH39
import Derived.Deep.RegionHeld3
import Derived.Deep.Cut
namespace Go.Proofs.Ytfommpbblpnljaa
open Go.RowKit Go.ChangeShapes Go.WideShapes Go.Deep

namespace Disk
theorem fine_runGo {c t : Nm} : ∀ (l : List ActV) {s : St} {o : Ou} {w : List UInt8}, Fine s → Fine (St.runGo c t l s o w).1
  | [], _, _, _, h => h
  | a :: r, s, o, w, h => by
    have h1 := fine_step (c := c) (t := t) (ou := o) (w := w) (a := a) h
    unfold St.runGo
    split
    · exact h1
    · exact fine_runGo r h1
theorem small_runGo {c t : Nm} : ∀ (l : List ActV) {k : Nat} {s : St} {o : Ou} {w : List UInt8}, Small k s → Small (k + wsum l) (St.runGo c t l s o w).1
  | [], _, _, _, _, h => h
  | a :: r, k, s, o, w, h => by
    have h1 := small_step (c := c) (t := t) (ou := o) (w := w) (a := a) h
    have e : wsum (a :: r) = a.weight + wsum r := by unfold wsum; simp
    unfold St.runGo
    split
    · exact small_mono h1 (by omega)
    · have h2 := small_runGo (c := c) (t := t) r (o := (s.actStep c t o w a).2.1) (w := (s.actStep c t o w a).2.2.1) h1
      rw [e, ← Nat.add_assoc]
      exact h2
theorem held_runGo {c t : Nm} : ∀ (l : List ActV) {s : St} {o : Ou} {w : List UInt8}, (St.runGo c t l s o w).2.1.held.length ≤ o.held.length + wsum l
  | [], _, _, _ => Nat.le_add_right _ _
  | a :: r, s, o, w => by
    have h1 := held_step (s := s) (c := c) (t := t) (ou := o) (w := w) (a := a)
    have e : wsum (a :: r) = a.weight + wsum r := by unfold wsum; simp
    unfold St.runGo
    split
    · show (s.actStep c t o w a).2.1.held.length ≤ _
      omega
    · have h2 := held_runGo (c := c) (t := t) r (s := (s.actStep c t o w a).1) (o := (s.actStep c t o w a).2.1) (w := (s.actStep c t o w a).2.2.1)
      omega
theorem tmp_len {n : Nm} (h : n.length ≤ 1099511627776) : (tmpOf n).length ≤ maxLen := by
  unfold tmpOf
  split
  · simp [tmpPre, maxLen]; omega
  · simp [maxLen]
end Disk
/-- The run's closure, its three boxes. -/
structure RunBx (w : World) (rB cB xB x d : Nat) (C : CaseP) : Prop where
  r : Boxed w rB 51 (.pointer (some ⟨x, 0, none⟩))
  c : w.heap[cB]? = some (.cells C.cells 41 (0, 0))
  x : Boxed w xB 22 (.pointer (some ⟨d, 0, none⟩))
section
variable {w : World}
set_option maxRecDepth 100000 in
set_option maxHeartbeats 1000000 in
theorem prog30_any (C : CaseP) (d x : Nat) : Calls Try.prog 14 #[C.val, .pointer (some ⟨d, 0, none⟩), .pointer (some ⟨x, 0, none⟩)] w fun e w' =>
    ∃ rB cB xB, e = .returned (.func (.func 50) #[] #[.pointer (some ⟨rB, 0, none⟩), .pointer (some ⟨cB, 0, none⟩), .pointer (some ⟨xB, 0, none⟩)]) ∧ Hid (RunBx w' rB cB xB x d C) ∧ Hid (w.heap.size ≤ rB ∧ w.heap.size ≤ cB ∧ w.heap.size ≤ xB) ∧ Hid (Below w.heap.size w w') := by
  have hmf : ∀ (fn : Fn) (first cap : Array Value) (w : World), (Instr.makeFunc fn first cap).run Try.prog w = .ok (.func fn first cap) w := fun _ _ _ _ => rfl
  obtain ⟨W, hW⟩ : ∃ W, W = ((w.alloc (.cells C.cells 41)).alloc (.cells #[.pointer (some ⟨d, 0, none⟩)] 22)).alloc (.cells #[.pointer (some ⟨x, 0, none⟩)] 51) := ⟨_, rfl⟩
  have hb : Below w.heap.size w W := by rw [hW]; exact ((((Below.refl _ w).alloc (Nat.le_refl _) _).alloc (by simp) _).alloc (by simp <;> omega) _)
  have h1 : W.heap[w.heap.size]? = some (.cells C.cells 41 (0, 0)) := by
    rw [hW, Below.heap_alloc _ _ _ (by simp; omega), Below.heap_alloc _ _ _ (by simp)]
    exact World.alloc_heap_new w _
  have h2 : Boxed W (w.heap.size + 1) 22 (.pointer (some ⟨d, 0, none⟩)) := by
    rw [hW]
    have := Boxed.new (w.alloc (.cells C.cells 41)) 22 (.pointer (some ⟨d, 0, none⟩))
    rw [World.size_alloc] at this
    exact (Below.heap_alloc _ _ _ (by simp)).trans this
  have h3 : Boxed W (w.heap.size + 1 + 1) 51 (.pointer (some ⟨x, 0, none⟩)) := by
    rw [hW]
    have := Boxed.new ((w.alloc (.cells C.cells 41)).alloc (.cells #[.pointer (some ⟨d, 0, none⟩)] 22)) 51 (.pointer (some ⟨x, 0, none⟩))
    simpa using this
  have HR : Hid (RunBx W (w.heap.size + 1 + 1) w.heap.size (w.heap.size + 1) x d C) := Lib.hid ⟨h3, h1, h2⟩
  have HB := Lib.hid hb
  have HW := Lib.hid hW
  unfold CaseP.cells at hW HW
  unfold CaseP.val CaseP.cells
  clear hb h1 h2 h3 hW
  go_enter Try.func14, Try.ntmps14
  go_wp2_with fail
  rw [← HW.out]
  go_ret
  exact ⟨_, _, _, rfl, HR, Lib.hid ⟨by omega, by omega, by omega⟩, HB⟩
end
/-- What the caller's record reads behind the run. -/
def RecP (x : Nat) (whole : List UInt8) (Z : Blocks) (u : World) : Prop := ∃ bv av wv an, RunRec u Z x 1 whole bv av wv an true
theorem recP_stays (x : Nat) (whole : List UInt8) : Stays (RecP x whole) := by
  rintro Z u u' ⟨bv, av, wv, an, h⟩ hs hz
  exact ⟨bv, av, wv, an, h.same hs hz⟩
section
variable {w : World} {F Z : Blocks} {d : Nat} {s : Disk.St}
set_option maxRecDepth 100000 in
theorem editC_any (C : CaseP) (acts : List Disk.ActV) (S : Blocks) (rB cB xB x : Nat) (HA : Hid (DiskAt w F d s)) (hf : Hid (Disk.Fine s)) {k : Nat} (hk : Hid (Disk.Small k s)) (hkb : k ≤ 68719476736) (hn : C.name.size ≤ 1099511627776) (hrd : Hid ((s.read C.name.data.toList).1.length ≤ 1099511627776))
    {bv av wv : Value} (HX : Hid (RunRec w Z x 0 [] bv av wv [] true)) (hzf : Hid (∀ b, Z b → ¬ F b)) (HB : Hid (RunBx w rB cB xB x d C)) (hT : Hid (∀ b, (S b ∨ b = rB ∨ b = cB ∨ b = xB) → b < w.heap.size ∧ ¬ (F b ∨ Z b)))
    (hacts : Hid (SliceAt Rep.actv w S C.aA C.ac acts)) (han : Hid (C.an = acts.length)) (hsum : Disk.wsum acts ≤ 137438953472) :
    Calls Try.prog 6 #[.pointer (some ⟨d, 0, none⟩), .string C.name, .func (.func 50) #[] #[.pointer (some ⟨rB, 0, none⟩), .pointer (some ⟨cB, 0, none⟩), .pointer (some ⟨xB, 0, none⟩)]] w
      (EditPost w F Z d s C.name.data.toList (Disk.St.runOf C.name.data.toList acts) (RecP x (Disk.wholeOf s C.name.data.toList acts))) := by
  have eL : ∀ args w, (callFunc 50 args).run Try.prog w = .ok (.enter 50 args) w := enters_of Try.func50 (by kernel_rfl) rfl
  have hnl : C.name.data.toList.length = C.name.size := Array.length_toList
  have hfa := Disk.fine_ahead hf.out C.name.data.toList
  have hka := Disk.small_ahead hk.out C.name.data.toList
  have htl : (Disk.tmpOf C.name.data.toList).length ≤ maxLen := Disk.tmp_len (by rw [hnl]; exact hn)
  have hl := Disk.held_runGo (c := C.name.data.toList) (t := Disk.tmpOf C.name.data.toList) acts (s := (s.ahead C.name.data.toList).1) (o := ⟨[], 0⟩) (w := [])
  refine edit_any HA hf hk (by omega) C.name (by simp [maxLen]; omega) 50 _ eL Z (fun b hb => HX.out.lt b hb) (Disk.St.runOf C.name.data.toList acts) _ (recP_stays _ _) (Lib.hid ?_) (Lib.hid (Disk.fine_runGo acts hfa)) (Lib.hid (Disk.small_runGo acts hka)) (by omega) (by
    show (Disk.St.runGo _ _ _ _ _ _).2.1.held.length ≤ _
    simp only [List.length_nil] at hl
    omega)
  intro W G A m c o dB tB ho hg hout hm hown hng
  have hs : ∀ b, b < w.heap.size → ¬ F b → W.heap[b]? = w.heap[b]? := fun b h1 h2 => ho.block b h1 h2
  have hS : ∀ b, (S b ∨ b = rB ∨ b = cB ∨ b = xB) → W.heap[b]? = w.heap[b]? := fun b hb => hs b (hT.out b hb).1 fun h => (hT.out b hb).2 (.inl h)
  have hgw : ∀ b, b < w.heap.size → ¬ F b → ¬ G b := fun b h1 h2 h3 => (hg b h3).elim h2 fun h => by omega
  have hbl : ∀ b, (Value.slice A m c).ownBlock = some b → w.heap.size ≤ b ∧ b < W.heap.size := fun b hb => hown.block_lt hb
  refine (run30_any (W := W) (G0 := G) (Z0 := Z) (d := d) (s := (s.ahead C.name.data.toList).1) (o := o) (dB := dB) (tB := tB) (x := x) (bv := bv) (av := av) (wv := wv) C acts S rB cB xB (Lib.hid hout)
    (Lib.hid (HX.out.same (fun b hb => hs b (HX.out.lt b hb) (hzf.out b hb)) ho.size)) (Lib.hid fun b hb => hgw b (HX.out.lt b hb) (hzf.out b hb)) A m c _ (Lib.hid hm) w.heap.size (Lib.hid hown)
    (Lib.hid fun b hb => ⟨hng b hb, fun hz => by have := HX.out.lt b hz; have := (hbl b hb).1; omega⟩) (by rw [hm]; exact hrd.out)
    (Lib.hid fun b hb => ⟨Nat.lt_of_lt_of_le (hT.out b hb).1 ho.size, fun h => by
      rcases h with h | h | h
      · exact hgw b (hT.out b hb).1 (fun h => (hT.out b hb).2 (.inl h)) h
      · exact (hT.out b hb).2 (.inr h)
      · have := (hbl b h).1; have := (hT.out b hb).1; omega⟩)
    (Lib.hid ((hS _ (.inr (.inl rfl))).trans HB.out.r)) (Lib.hid ((hS _ (.inr (.inr (.inl rfl)))).trans HB.out.c)) (Lib.hid ((hS _ (.inr (.inr (.inr rfl)))).trans HB.out.x))
    (Lib.hid (hacts.out.keep (fun _ h => h) fun b hb => hS b (.inl hb))) han (by omega) htl (Lib.hid hfa) (Lib.hid hka) (by omega)).mono ?_
  rintro e w' ⟨rfl, G', Z', bv', av', wv', an', hrs⟩
  refine ⟨rfl, G', Z', hrs.out, ⟨bv', av', wv', an', hrs.rc⟩, hrs.gs, fun b hb => ⟨hrs.zs b hb, hrs.apart b hb, hrs.rc.lt b hb⟩, hrs.only⟩
end
end Go.Proofs.Ytfommpbblpnljaa
namespace Go.Proofs.Ytfommpbblpnljaa
open Go.RowKit Go.ChangeShapes Go.WideShapes Go.Deep

def wF30 (f : Disk.Fin_) : Nat := f.bytes.length + f.name.length
def wP30 (p : List UInt8) : Nat := 1 + p.length
def wA30 (a : Disk.ActV) : Nat := a.name.length + (a.parts.map wP30).sum
/-- As much as DOC.md's bound takes. -/
def Within30 (C : CaseP) (fs : List Disk.Fin_) (acts : List Disk.ActV) : Prop := C.fn + C.ln + C.an + C.kn + C.name.size + (fs.map wF30).sum + (acts.map wA30).sum ≤ 2147483647
theorem sum30_take {α : Type} (f : α → Nat) (l : List α) {j : Nat} (hj : j < l.length) : ((l.take (j + 1)).map f).sum = ((l.take j).map f).sum + f l[j] := by
  rw [List.take_succ_eq_append_getElem hj, List.map_append, List.sum_append]
  simp
theorem sum30_mem {α : Type} (f : α → Nat) {l : List α} {x : α} (h : x ∈ l) : f x ≤ (l.map f).sum := by
  obtain ⟨a, b, rfl⟩ := List.append_of_mem h
  simp; omega
/-- No part weighs more than the reach. -/
def finReach30 (f : Disk.Fin_) : Prop := f.name.length ≤ 281474976710656 ∧ f.bytes.length ≤ 281474976710656
def actReach30 (a : Disk.ActV) : Prop := a.name.length ≤ 281474976710656 ∧ a.parts.length ≤ 281474976710656 ∧ ∀ p ∈ a.parts, p.length ≤ 281474976710656
theorem four30 {w : World} {g o : Nat} {v0 v1 v2 v3 : Value} (h : CellsAt w g o [v0, v1, v2, v3]) : w.cell? ⟨g, o, none⟩ = some v0 ∧ w.cell? ⟨g, o + 1, none⟩ = some v1 ∧ w.cell? ⟨g, o + 2, none⟩ = some v2 ∧ w.cell? ⟨g, o + 3, none⟩ = some v3 :=
  ⟨h 0 _ rfl, h 1 _ rfl, h 2 _ rfl, h 3 _ rfl⟩
section
variable {w : World}
set_option maxRecDepth 100000 in
set_option maxHeartbeats 4000000 in
theorem beyond30_any (C : CaseP) (fs : List Disk.Fin_) (acts : List Disk.ActV) (S : Blocks) (hn : Hid (C.fn = fs.length)) (ha : Hid (C.an = acts.length)) (h1 : Hid (SliceAt Rep.fin w S C.fA C.fc fs)) (h2 : Hid (SliceAt Rep.actv w S C.aA C.ac acts)) (hS : Hid (∀ b, S b → b < w.heap.size))
    (hf : Hid (∀ f ∈ fs, finReach30 f)) (hac : Hid (∀ a ∈ acts, actReach30 a)) (hb1 : C.fn ≤ 281474976710656) (hb2 : C.an ≤ 281474976710656) (hb3 : C.ln ≤ 281474976710656) (hb4 : C.kn ≤ 281474976710656) (hb5 : C.name.size ≤ 281474976710656) (hlc : C.ln ≤ C.lc ∧ C.lc ≤ 9223372036854775807) (hkc : C.kn ≤ C.kc ∧ C.kc ≤ 9223372036854775807) :
    Calls Try.prog 9 #[C.val] w fun e w' => ∃ b, e = .returned (.bool b) ∧ (b = false → Within30 C fs acts) ∧ Below w.heap.size w w' := by
  have hnc : C.fn ≤ C.fc := by rw [hn.out]; exact h1.out.len
  have hcm := h1.out.max
  have hmd : C.an ≤ C.ac := by rw [ha.out]; exact h2.out.len
  have hdm := h2.out.max
  obtain ⟨WI, hWI⟩ : ∃ WI, WI = Within30 C fs acts := ⟨_, rfl⟩
  have HWI : Hid (WI = (C.fn + C.ln + C.an + C.kn + C.name.size + (fs.map wF30).sum + (acts.map wA30).sum ≤ 2147483647)) := Lib.hid hWI
  rw [← hWI]
  clear hWI
  obtain ⟨room, fA, n, fc, lA, ln, lc, c, aA, m, ac, dir, kA, kn, kc⟩ := C
  unfold CaseP.val CaseP.cells
  dsimp only at hn ha h1 h2 hb1 hb2 hb3 hb4 hb5 hlc hkc hnc hcm hmd hdm HWI ⊢
  obtain ⟨hlc1, hlc2⟩ := hlc
  obtain ⟨hkc1, hkc2⟩ := hkc
  obtain ⟨W, hW⟩ : ∃ W, W = w.alloc (.cells #[.int .i64 room, .slice fA n fc, .slice lA ln lc, .string c, .slice aA m ac, .int .i64 dir, .slice kA kn kc] 41) := ⟨_, rfl⟩
  have hbW : Below w.heap.size w W := by rw [hW]; exact Below.alloc (Below.refl _ _) (Nat.le_refl _) _
  have hbox : W.heap[w.heap.size]? = some (.cells #[.int .i64 room, .slice fA n fc, .slice lA ln lc, .string c, .slice aA m ac, .int .i64 dir, .slice kA kn kc] 41 (0, 0)) := by rw [hW]; exact heap_alloc_new _ _
  have hwlt : w.heap.size < W.heap.size := (Array.getElem?_eq_some_iff.1 hbox).1
  have hbx : Hid (∀ wr, Below W.heap.size W wr → wr.cell? ⟨w.heap.size, 1, none⟩ = some (.slice fA n fc) ∧ wr.cell? ⟨w.heap.size, 2, none⟩ = some (.slice lA ln lc) ∧ wr.cell? ⟨w.heap.size, 3, none⟩ = some (.string c) ∧ wr.cell? ⟨w.heap.size, 4, none⟩ = some (.slice aA m ac) ∧ wr.cell? ⟨w.heap.size, 6, none⟩ = some (.slice kA kn kc)) := Lib.hid fun wr ho => by
    have h := (ho.block _ hwlt).trans hbox
    exact ⟨(cell_of_row _ _ 1 _ _ (0, 0) h).trans rfl, (cell_of_row _ _ 2 _ _ (0, 0) h).trans rfl, (cell_of_row _ _ 3 _ _ (0, 0) h).trans rfl, (cell_of_row _ _ 4 _ _ (0, 0) h).trans rfl, (cell_of_row _ _ 6 _ _ (0, 0) h).trans rfl⟩
  have HSM : Hid (∀ wr, Below W.heap.size W wr → Same S w wr) := Lib.hid fun wr hb => (Same.of_below hbW hS.out).trans (Same.of_below hb fun b h => Nat.lt_trans (hS.out b h) hwlt)
  have H1 : Hid (∀ wr, Below W.heap.size W wr → SliceAt Rep.fin wr S fA fc fs) := Lib.hid fun wr hb => h1.out.keep (fun _ h => h) (HSM.out wr hb)
  have H2 : Hid (∀ wr, Below W.heap.size W wr → SliceAt Rep.actv wr S aA ac acts) := Lib.hid fun wr hb => h2.out.keep (fun _ h => h) (HSM.out wr hb)
  have hback : Hid (∀ wr, Below W.heap.size W wr → Below w.heap.size w wr) := Lib.hid fun wr hb => hbW.trans (hb.mono (Nat.le_of_lt hwlt))
  obtain ⟨c1, c2, c3, c4, c6⟩ := hbx.out W (Below.refl _ _)
  clear hbW hbox hwlt HSM
  go_enter Try.func9, Try.ntmps9
  go_upto_region 1 with fail
  rw [← hW]
  obtain ⟨bx, hbxx⟩ : ∃ bx, bx = w.heap.size := ⟨_, rfl⟩
  rw [← hbxx] at hbx c1 c2 c3 c4 c6 ⊢
  have HBXX := Lib.hid hbxx
  clear hW hbxx
  go_wp2_with fail
  clear c1 c2 c3 c4 c6
  go_loopg [3, 4] n (fun q v i wr => ∃ (j T : Nat), q = n - j ∧ j ≤ n ∧ i = .int .i64 j ∧ v = .int .i64 T ∧ Hid (T = n + ln + m + kn + c.size + ((fs.take j).map wF30).sum) ∧ T ≤ 2251799813685248 ∧ Hid (Below W.heap.size W wr))
  case atStart => exact ⟨0, n + ln + m + kn + c.size, rfl, by omega, rfl, by go_num, Lib.hid (by simp), by omega, Lib.hid (Below.refl _ _)⟩
  case round =>
    obtain ⟨j, T, rfl, hj, rfl, rfl, HT, hTb, HB⟩ := hrel
    obtain ⟨c1, c2, c3, c4, c6⟩ := hbx.out wr HB.out
    by_cases hgo : j < n ∧ T ≤ 2147483647
    · obtain ⟨hjn, hT⟩ := hgo
      have hjl : j < fs.length := by rw [← hn.out]; exact hjn
      obtain ⟨g, o, cs, rfl, hg, hcs, P, pc, rfl, hP, hN, -⟩ := (H1.out wr HB.out).at_ (i := j) hjl
      obtain ⟨r1, r2⟩ := hf.out _ (List.getElem_mem hjl)
      obtain ⟨nm, hnm⟩ : ∃ nm : ByteArray, nm = ⟨(fs[j]).name.toArray⟩ := ⟨_, rfl⟩
      have hsz : nm.size = (fs[j]).name.length := by rw [hnm]; simp [ByteArray.size]
      obtain ⟨k, hk⟩ : ∃ k, k = (fs[j]).bytes.length := ⟨_, rfl⟩
      rw [show sv (fs[j]).name = .string nm from congrArg Value.string hnm.symm, ← hk] at hcs
      obtain ⟨a0, a1, a2, a3⟩ := four30 hcs
      rw [show Rep.fin.n = 4 from rfl] at a0 a1 a2 a3
      have HTN : Hid (T + k + nm.size = n + ln + m + kn + c.size + ((fs.take (j + 1)).map wF30).sum) := Lib.hid (by rw [sum30_take wF30 fs hjl, HT.out, hsz, hk]; unfold wF30; omega)
      rw [← hk] at r2
      rw [← hsz] at r1
      clear hcs hP hN hnm hk hsz hg a2 a3 c2 c3 c4 c6
      go_wp2_with fail
      go_region
      go_wp2_with fail
      go_roundg (n - (j + 1))
      case measure => omega
      case rel => exact ⟨j + 1, T + k + nm.size, rfl, by omega, by go_num, by go_num, HTN, by omega, Lib.hid HB.out.drew⟩
    · have hstop : (j < n ∧ 2147483647 < T) ∨ j = n := by omega
      clear hgo
      have HJ : Hid (T ≤ 2147483647 → T = n + ln + m + kn + c.size + (fs.map wF30).sum) := Lib.hid fun h => by
        have h1 := HT.out
        have hj : j = fs.length := by have := hn.out; omega
        rw [hj, List.take_length] at h1
        omega
      have HBR := Lib.hid HB.out
      clear c2 c3 c6
      rcases hstop with ⟨hjn, hT⟩ | rfl
      all_goals
        go_wp2_with fail
        go_loopg [3, 5] m (fun q v i wx => ∃ (k T2 : Nat), q = m - k ∧ k ≤ m ∧ i = .int .i64 k ∧ v = .int .i64 T2 ∧ Hid (T2 ≤ 2147483647 → T2 = T + ((acts.take k).map wA30).sum) ∧ T2 ≤ 4503599627370496 ∧ Hid (Below W.heap.size W wx))
        case atStart => exact ⟨0, T, rfl, by omega, rfl, rfl, Lib.hid (by simp), by omega, HBR⟩
        case round =>
          clear c1 c4
          obtain ⟨k, T2, rfl, hk, rfl, rfl, HT2, hTb2, HB2⟩ := hrel
          obtain ⟨c1, c2, c3, c4, c6⟩ := hbx.out _ HB2.out
          clear c1 c2 c3 c6
          by_cases hgo : k < m ∧ T2 ≤ 2147483647
          · obtain ⟨hkm, hT2⟩ := hgo
            have hkl : k < acts.length := by rw [← ha.out]; exact hkm
            have HACT : Hid (∀ wz, Below W.heap.size W wz → ∃ g o A' c', aA = some ⟨g, o, none⟩ ∧ S g ∧ CellsAt wz g (o + k * 4) [.int .i64 acts[k].kind, .slice A' acts[k].parts.length c', sv acts[k].name, .int .i64 acts[k].err] ∧ SliceAt Rep.byte.slice wz S A' c' acts[k].parts) := Lib.hid fun wz hz => by
              obtain ⟨g, o, cs, e, hb, hc, A', c', rfl, hs, -⟩ := (H2.out wz hz).at_ hkl
              exact ⟨g, o, A', c', e, hb, hc, hs⟩
            obtain ⟨g, o, A', c', rfl, hg, hcs, hps⟩ := HACT.out _ HB2.out
            have hgl := hS.out g hg
            obtain ⟨r1, r2, r3⟩ := hac.out _ (List.getElem_mem hkl)
            obtain ⟨a, haa⟩ : ∃ a, a = acts[k] := ⟨_, rfl⟩
            have HTK : Hid (((acts.take (k + 1)).map wA30).sum = ((acts.take k).map wA30).sum + wA30 a) := Lib.hid (by rw [sum30_take wA30 acts hkl, haa])
            rw [← haa] at hcs hps r1 r2 r3
            have hpn := hps.len
            have hpm := hps.max
            have HPS := Lib.hid hps
            have HR3 := Lib.hid r3
            obtain ⟨p, hp⟩ : ∃ p, p = a.parts.length := ⟨_, rfl⟩
            obtain ⟨nm, hnm⟩ : ∃ nm : ByteArray, nm = ⟨a.name.toArray⟩ := ⟨_, rfl⟩
            have hsz : nm.size = a.name.length := by rw [hnm]; simp [ByteArray.size]
            rw [show sv a.name = .string nm from congrArg Value.string hnm.symm, ← hp] at hcs
            rw [← hp] at r2 hpn
            have HP := Lib.hid hp
            have HSZ := Lib.hid hsz
            have hgW : g < W.heap.size := Nat.lt_of_lt_of_le hgl (hback.out W (Below.refl _ _)).size
            have HCS : Hid (∀ wz, Below W.heap.size W wz → wz.cell? ⟨g, o + k * 4 + 1, none⟩ = some (.slice A' p c')) := Lib.hid fun wz hz => by
              have h3 := (four30 hcs).2.1
              rw [← h3]
              have e : wz.heap[g]? = _ := hz.block g hgW
              have e2 := HB2.out.block g hgW
              simp [World.cell?, e, e2]
            have HPW : Hid (∀ wz, Below W.heap.size W wz → SliceAt Rep.byte.slice wz S A' c' a.parts) := Lib.hid fun wz hz => HPS.out.keep (fun _ h => h) fun b hb => by
              have hbl := Nat.lt_of_lt_of_le (hS.out b hb) (hback.out W (Below.refl _ _)).size
              exact (hz.block b hbl).trans (HB2.out.block b hbl).symm
            obtain ⟨a0, a1, a2, a3⟩ := four30 hcs
            have r1' : nm.size ≤ 281474976710656 := by rw [hsz]; exact r1
            clear hcs hps hnm hp hsz r1 r3 haa a0 a3 HACT
            go_wp2_with fail
            clear a1 a2 c4
            go_loopg [3, 6] p (fun q v i wy => ∃ (u T3 : Nat), q = p - u ∧ u ≤ p ∧ i = .int .i64 u ∧ v = .int .i64 T3 ∧ Hid (T3 ≤ 2147483647 → T3 = T2 + nm.size + ((a.parts.take u).map wP30).sum) ∧ T3 ≤ 4503599627370496 ∧ Hid (Below W.heap.size W wy))
            case atStart => exact ⟨0, T2 + nm.size, rfl, by omega, rfl, by go_num, Lib.hid (by simp), by omega, HB2⟩
            case round =>
              obtain ⟨u, T3, rfl, hu, rfl, rfl, HT3, hTb3, HB3⟩ := hrel
              obtain ⟨c1, c2, c3, c4, c6⟩ := hbx.out _ HB3.out
              clear c1 c2 c3 c6
              have a1 := HCS.out _ HB3.out
              by_cases hgo : u < p ∧ T3 ≤ 2147483647
              · obtain ⟨hup, hT3⟩ := hgo
                have hul : u < a.parts.length := by rw [← HP.out]; exact hup
                obtain ⟨g4, o4, A4, k4, rfl, hg4, hcx, -⟩ := row_at (HPW.out _ HB3.out) hul
                have r4 := HR3.out _ (List.getElem_mem hul)
                obtain ⟨q4, hq4⟩ : ∃ q4, q4 = (a.parts[u]).length := ⟨_, rfl⟩
                rw [← hq4] at hcx r4
                have HTN : Hid (T3 + 1 + q4 = T2 + nm.size + ((a.parts.take (u + 1)).map wP30).sum) := Lib.hid (by rw [sum30_take wP30 a.parts hul, HT3.out hT3, hq4]; unfold wP30; omega)
                clear hq4
                go_wp2_with fail
                go_roundg (p - (u + 1))
                case measure => omega
                case rel => exact ⟨u + 1, T3 + 1 + q4, rfl, by omega, by go_num, by go_num, Lib.hid fun _ => HTN.out, by omega, HB3⟩
              · have hstop2 : (u < p ∧ 2147483647 < T3) ∨ u = p := by omega
                clear hgo
                have HTN : Hid (T3 ≤ 2147483647 → T3 = T + ((acts.take (k + 1)).map wA30).sum) := Lib.hid fun h => by
                  obtain rfl : u = p := by omega
                  have h3 := HT3.out h
                  rw [HP.out, List.take_length] at h3
                  have h2 := HT2.out hT2
                  have e := HTK.out
                  have e2 : wA30 a = a.name.length + (a.parts.map wP30).sum := rfl
                  have := HSZ.out
                  omega
                rcases hstop2 with ⟨hup, hT3⟩ | rfl
                all_goals
                  go_wp2_with fail
                  go_roundg (m - (k + 1))
                  case measure => omega
                  case rel => exact ⟨k + 1, T3, rfl, by omega, by go_num, rfl, HTN, by omega, HB3⟩
          · have hstop2 : (k < m ∧ 2147483647 < T2) ∨ k = m := by omega
            clear hgo
            have HEND : Hid (T2 ≤ 2147483647 → WI) := Lib.hid fun h => by
              obtain rfl : k = m := by omega
              have h2 := HT2.out h
              have hj := HJ.out (by omega)
              rw [List.take_of_length_le (by have := ha.out; omega)] at h2
              rw [HWI.out]
              omega
            rcases hstop2 with ⟨hkm, hT2⟩ | rfl
            all_goals
              go_wp2_with fail
              go_ret
              exact ⟨_, rfl, fun hb => HEND.out (by first | (exact absurd hb (by decide)) | (have := of_decide_eq_false hb; omega)), hback.out _ HB2.out⟩
end
end Go.Proofs.Ytfommpbblpnljaa
namespace Go.Proofs.Ytfommpbblpnljaa
open Go.RowKit Go.ChangeShapes Go.WideShapes Go.Deep

section
variable {w : World}
theorem fin_at {S : Blocks} {A : Option Addr} {c : Nat} {l : List Disk.Fin_} (h : SliceAt Rep.fin w S A c l) {i : Nat} (hi : i < l.length) :
    ∃ g o A' c', A = some ⟨g, o, none⟩ ∧ S g ∧ w.cell? ⟨g, o + i * 4, none⟩ = some (sv l[i].name) ∧ w.cell? ⟨g, o + i * 4 + 1, none⟩ = some (.slice A' l[i].bytes.length c') ∧ SliceAt Rep.byte w S A' c' l[i].bytes := by
  obtain ⟨g, o, cs, e, hb, hc, A', c', rfl, hs, -⟩ := h.at_ hi
  exact ⟨g, o, A', c', e, hb, hc 0 _ rfl, hc 1 _ rfl, hs⟩
theorem bytesF_take {fs : List Disk.Fin_} {N : Disk.Nm} {i : Nat} (hi : i < fs.length) (h : (fs.take i).find? (fun f => f.name == N) = none) : (fs[i].name = N → Disk.bytesF fs N = some fs[i].bytes) ∧ (fs[i].name ≠ N → (fs.take (i + 1)).find? (fun f => f.name == N) = none) := by
  refine ⟨fun e => ?_, fun e => ?_⟩
  · unfold Disk.bytesF
    have : fs = fs.take i ++ fs[i] :: fs.drop (i + 1) := by rw [← List.drop_eq_getElem_cons hi, List.take_append_drop]
    rw [show fs.find? (fun f => f.name == N) = _ from congrArg (List.find? fun f => f.name == N) this, List.find?_append, h, Option.none_or, List.find?_cons_of_pos (by simpa using e)]
    simp
  · rw [List.take_add_one, List.getElem?_eq_getElem hi, List.find?_append, h]
    simpa using e
set_option maxRecDepth 100000 in
set_option maxHeartbeats 1000000 in
theorem bytes30_any (A : Option Addr) (n c : Nat) (fs : List Disk.Fin_) (N : ByteArray) (S : Blocks) (hn : Hid (n = fs.length)) (hl : Hid (SliceAt Rep.fin w S A c fs)) :
    Calls Try.prog 12 #[.slice A n c, .string N] w fun e w' => (∃ A' m c', e = .returned (.tuple #[.slice A' m c', .bool (Disk.bytesF fs N.data.toList).isSome]) ∧ Hid (m = ((Disk.bytesF fs N.data.toList).getD []).length) ∧ Hid (SliceAt Rep.byte w S A' c' ((Disk.bytesF fs N.data.toList).getD []))) ∧ w = w' := by
  have hnc : n ≤ c := by rw [hn.out]; exact hl.out.len
  have hcm := hl.out.max
  obtain ⟨r, hr⟩ : ∃ r, r = Disk.bytesF fs N.data.toList := ⟨_, rfl⟩
  rw [← hr]
  have HR := Lib.hid hr
  clear hr
  go_enter Try.func12, Try.ntmps12
  go_wp2_with fail
  go_loopg [6] n (fun k iv wr => ∃ (i : Nat), i ≤ n ∧ iv = .int .i64 i ∧ k = n - i ∧ wr = w ∧ Hid ((fs.take i).find? (fun f => f.name == N.data.toList) = none))
  case atStart => exact ⟨0, Nat.zero_le _, rfl, rfl, rfl, Lib.hid (by simp)⟩
  case round =>
    obtain ⟨i, hi, rfl, rfl, rfl, HT⟩ := hrel
    rcases Nat.lt_or_ge i n with hlt | hge
    · have hil : i < fs.length := by rw [← hn.out]; exact hlt
      obtain ⟨g, o, A', c', rfl, -, hc1, hc2, hs⟩ := fin_at hl.out hil
      obtain ⟨hy, hx⟩ := bytesF_take hil HT.out
      obtain ⟨x, hxx⟩ : ∃ x, x = ba fs[i].name := ⟨_, rfl⟩
      have hsv : sv fs[i].name = .string x := by rw [hxx]; rfl
      have hxd : fs[i].name = x.data.toList := by rw [hxx]; rfl
      rw [hsv] at hc1
      rw [hxd] at hy hx
      obtain ⟨m, hm⟩ : ∃ m, m = fs[i].bytes.length := ⟨_, rfl⟩
      rw [← hm] at hc2
      have HM := Lib.hid hm
      have HS := Lib.hid hs
      have HY := Lib.hid hy
      have HX := Lib.hid hx
      have hi1 : (i : Int) < (n : Int) := by omega
      have hi0 : (0 : Int) ≤ (i : Int) := Int.natCast_nonneg _
      clear hm hs hy hx hsv hxd hxx
      by_cases he : x = N
      · have hb : (x.toList == N.toList) = true := by rw [strs_eq, decide_eq_true he]
        have HE := Lib.hid (HR.out.trans (HY.out (by rw [he])))
        go_wp2_with fail
        go_ret2
        rw [HE.out]
        exact ⟨⟨_, _, _, rfl, HM, HS⟩, rfl⟩
      · have hb : (x.toList == N.toList) = false := by rw [strs_eq, decide_eq_false he]
        go_wp2_with fail
        go_roundg (n - (i + 1))
        case measure => omega
        case rel => exact ⟨i + 1, by omega, by go_num, rfl, rfl, Lib.hid (HX.out fun e => he (by cases x; cases N; simp at e; rw [e]))⟩
    · obtain rfl : i = n := by omega
      have HE : Hid (r = none) := Lib.hid (by
        have := HT.out
        rw [hn.out, List.take_length] at this
        rw [HR.out]; unfold Disk.bytesF; rw [this]; rfl)
      go_wp2_with fail
      go_ret2
      rw [HE.out]
      exact ⟨⟨none, 0, 0, rfl, Lib.hid rfl, Lib.hid (SliceAt.nil _ _ _)⟩, rfl⟩
end
end Go.Proofs.Ytfommpbblpnljaa
namespace Go.Proofs.Ytfommpbblpnljaa
open Go.RowKit Go.ChangeShapes Go.WideShapes Go.Deep

theorem seven30 {w : World} {b : Nat} (C : CaseP) (h : w.heap[b]? = some (.cells C.cells 41 (0, 0))) :
    w.cell? ⟨b, 0, none⟩ = some (.int .i64 C.room) ∧ w.cell? ⟨b, 1, none⟩ = some (.slice C.fA C.fn C.fc) ∧ w.cell? ⟨b, 2, none⟩ = some (.slice C.lA C.ln C.lc) ∧ w.cell? ⟨b, 3, none⟩ = some (.string C.name) ∧ w.cell? ⟨b, 4, none⟩ = some (.slice C.aA C.an C.ac) ∧ w.cell? ⟨b, 5, none⟩ = some (.int .i64 C.dir) ∧ w.cell? ⟨b, 6, none⟩ = some (.slice C.kA C.kn C.kc) :=
  ⟨(cell_of_row _ _ 0 _ _ (0, 0) h).trans rfl, (cell_of_row _ _ 1 _ _ (0, 0) h).trans rfl, (cell_of_row _ _ 2 _ _ (0, 0) h).trans rfl, (cell_of_row _ _ 3 _ _ (0, 0) h).trans rfl, (cell_of_row _ _ 4 _ _ (0, 0) h).trans rfl, (cell_of_row _ _ 5 _ _ (0, 0) h).trans rfl, (cell_of_row _ _ 6 _ _ (0, 0) h).trans rfl⟩
namespace Disk
theorem bytesF_told (n : Nm) : ∀ l : List (Nm × Nd), bytesF (l.map toFin) n = bytesOf l n
  | [] => rfl
  | x :: r => by
    have ih := bytesF_told n r
    unfold bytesF bytesOf at ih ⊢
    rw [List.map_cons, List.find?_cons, List.find?_cons]
    by_cases e : x.1 = n
    · simp [toFin, e]
    · have : (x.1 == n) = false := by simpa using e
      simp only [toFin, this]
      exact ih
theorem read_len {s : St} (h : Fine s) (n : Nm) : (s.read n).1.length ≤ 16777216 := by
  unfold St.read
  split
  · simp
  · split
    · simp
    · show (s.file n).bytes.length ≤ _
      unfold St.file
      cases e : (find s.now n).bind fun i => s.all[i]? with
      | none => simp
      | some d =>
        cases e1 : find s.now n with
        | none => rw [e1] at e; cases e
        | some i =>
          rw [e1] at e
          exact h.big d (List.mem_of_getElem? e)
end Disk
/-- From's answer: the disk and the number. -/
def FromV (w : World) (room : Int) (fs : List Disk.Fin_) (p : Option Addr) (q : Int) (w' : World) : Prop :=
  (q ≠ 0 ∧ p = none) ∨ (q = 0 ∧ Disk.fromErr room fs = 0 ∧ ∃ d, p = some ⟨d, 0, none⟩ ∧ DiskAt w' (btw w.heap.size w'.heap.size) d (Disk.fromSt room fs))
theorem FromPost.v {w w' : World} {room : Int} {fs : List Disk.Fin_} {e : Ending} (h : FromPost w room fs e w') : ∃ p q, e = .returned (.tuple #[.pointer p, .int .i64 q]) ∧ FromV w room fs p q w' ∧ Below w.heap.size w w' := by
  rcases h with ⟨h1, h2, h3⟩ | ⟨h1, d, h2, h3, h4⟩
  · exact ⟨none, _, h2, .inl ⟨h1, rfl⟩, h3⟩
  · exact ⟨_, 0, h2, .inr ⟨rfl, h1, d, rfl, h3⟩, h4⟩
/-- The disk and the run's record, both of the call's own. -/
structure K3 (w0 w : World) (F Z : Blocks) (d : Nat) (s : Disk.St) (x calls : Nat) (wh : List UInt8) : Prop where
  kd : Kd w0 w F d s
  rc : ∃ bv av wv an, RunRec w Z x calls wh bv av wv an true ∧ (calls = 0 → an = [])
  za : ∀ b, Z b → ¬ F b
  zb : ∀ b, Z b → w0.heap.size ≤ b
section
variable {w0 w w' : World} {F Z : Blocks} {d : Nat} {s t : Disk.St} {x calls : Nat} {wh : List UInt8}
theorem K3.lt (h : K3 w0 w F Z d s x calls wh) : ∀ b, Z b → b < w.heap.size := by
  obtain ⟨_, _, _, _, hr, -⟩ := h.rc
  exact hr.lt
theorem K3.far (h : K3 w0 w F Z d s x calls wh) (hb : Below w.heap.size w w') : K3 w0 w' F Z d s x calls wh := by
  obtain ⟨bv, av, wv, an, hr, h0⟩ := h.rc
  exact ⟨h.kd.far hb, ⟨bv, av, wv, an, hr.same (Same.of_below hb hr.lt) hb.size, h0⟩, h.za, h.zb⟩
theorem K3.next (h : K3 w0 w F Z d s x calls wh) (h1 : DiskAt w' (grow F w w') d t) (h2 : Only F w w') : K3 w0 w' (grow F w w') Z d t x calls wh := by
  obtain ⟨bv, av, wv, an, hr, h0⟩ := h.rc
  exact ⟨h.kd.next h1 h2, ⟨bv, av, wv, an, hr.same (h2.same fun b hb => ⟨hr.lt b hb, h.za b hb⟩) h2.size, h0⟩, fun b hb hg => hg.elim (h.za b hb) fun hg => by have := hr.lt b hb; have := hg.1; omega, h.zb⟩
theorem K3.call {r : Disk.St × Int} {e : Ending} (h : K3 w0 w F Z d s x calls wh) (hc : DiskCall w F d r e w') : e = .returned (.int .i64 r.2) ∧ K3 w0 w' (grow F w w') Z d r.1 x calls wh := ⟨hc.1, h.next hc.2.1 hc.2.2⟩
/-- A record that was just made. -/
theorem K3.made (h : Kd w0 w F d s) (hF : ∀ b, F b → b < w.heap.size) : K3 w0 (w.alloc (.cells #[.int .i64 0, .slice none 0 0, .slice none 0 0, .slice none 0 0, .bool true] 54)) F (fun b => b = w.heap.size) d s w.heap.size 0 [] := by
  have hb : Below w.heap.size w (w.alloc (.cells #[.int .i64 0, .slice none 0 0, .slice none 0 0, .slice none 0 0, .bool true] 54)) := Below.alloc (Below.refl _ _) (Nat.le_refl _) _
  refine ⟨h.far hb, ⟨.slice none 0 0, .slice none 0 0, .slice none 0 0, [], ⟨World.alloc_heap_new w _, ⟨_, _, _, rfl⟩, Own.nil _ _ _ _, Own.nil _ _ _ _, rfl, fun b hb => by simp [Value.ownBlock] at hb, fun b hb => by simp [Value.ownBlock] at hb, ?_⟩, fun _ => rfl⟩, ?_, ?_⟩
  · rintro b rfl; simp
  · rintro b rfl hf; have := hF _ hf; omega
  · rintro b rfl; exact h.below.size
theorem K3.edit {N : Disk.Nm} {R : Disk.St → Disk.St × Disk.Ou × Int} {whx : List UInt8} {e : Ending} (h : K3 w0 w F Z d s x 0 []) (hp : EditPost w F Z d s N R (RecP x whx) e w') :
    e = .returned (.int .i64 (s.edit N R).2) ∧ ∃ G Z' calls wh, K3 w0 w' G Z' d (s.edit N R).1 x calls wh ∧ (((s.ahead N).2 ≠ 0 ∧ calls = 0) ∨ ((s.ahead N).2 = 0 ∧ calls = 1 ∧ wh = whx)) := by
  obtain ⟨h1, G, h2, h3, h4, h5⟩ := hp
  have hsz := h.kd.below.size
  have hK : Kd w0 w' G d (s.edit N R).1 := ⟨h2, h.kd.below.trans (h4.below hsz fun b hb => hb.elim (h.kd.base b) (h.zb b)), fun b hb => (h3 b hb).elim (h.kd.base b) fun hb => Nat.le_trans hsz hb⟩
  refine ⟨h1, ?_⟩
  rcases h5 with ⟨h6, h7⟩ | ⟨h6, Z', h7, h8⟩
  · obtain ⟨bv, av, wv, an, hr, h0⟩ := h.rc
    exact ⟨G, Z, 0, [], ⟨hK, ⟨bv, av, wv, an, hr.same (h7.same fun b hb => ⟨hr.lt b hb, h.za b hb⟩) h7.size, h0⟩, fun b hb hg => (h3 b hg).elim (h.za b hb) fun hg => by have := hr.lt b hb; omega, h.zb⟩, .inl ⟨h6, rfl⟩⟩
  · obtain ⟨bv, av, wv, an, hr⟩ := h7
    exact ⟨G, Z', 1, whx, ⟨hK, ⟨bv, av, wv, an, hr, fun h => by cases h⟩, fun b hb => (h8 b hb).2.1, fun b hb => (h8 b hb).1.elim (h.zb b) fun hb => Nat.le_trans hsz hb⟩, .inr ⟨h6, rfl, rfl⟩⟩
end
theorem Within30.wsum {C : CaseP} {fs : List Disk.Fin_} {acts : List Disk.ActV} (h : Within30 C fs acts) (ha : C.an = acts.length) : Disk.wsum acts ≤ 8589934592 := by
  have h1 : ∀ l : List Disk.ActV, Disk.wsum l ≤ 2 * l.length + (l.map wA30).sum := by
    intro l
    induction l with
    | nil => simp [Disk.wsum]
    | cons a r ih =>
      unfold Disk.wsum at ih ⊢
      have e : a.weight ≤ 2 + wA30 a := by
        unfold Disk.ActV.weight wA30
        have h2 : ∀ l : List (List UInt8), l.length + l.flatten.length ≤ (l.map wP30).sum := by
          intro l
          induction l with
          | nil => simp
          | cons p r ih => simp [wP30] at ih ⊢; omega
        have := h2 a.parts
        omega
      simp only [List.map_cons, List.sum_cons, List.length_cons]
      omega
  have := h1 acts
  unfold Within30 at h
  omega
theorem Within30.parts {C : CaseP} {fs : List Disk.Fin_} {acts : List Disk.ActV} (h : Within30 C fs acts) : C.fn ≤ 2147483647 ∧ C.ln ≤ 2147483647 ∧ C.an ≤ 2147483647 ∧ C.kn ≤ 2147483647 ∧ C.name.size ≤ 2147483647 ∧ ∀ f ∈ fs, f.bytes.length ≤ 2147483647 := by
  unfold Within30 at h
  refine ⟨by omega, by omega, by omega, by omega, by omega, fun f hf => ?_⟩
  have := sum30_mem wF30 hf
  unfold wF30 at this h
  omega
end Go.Proofs.Ytfommpbblpnljaa
namespace Go.Proofs.Ytfommpbblpnljaa
open Go.RowKit Go.ChangeShapes Go.WideShapes Go.Deep

theorem two30 {w : World} {g o : Nat} {v0 v1 : Value} (h : CellsAt w g o [v0, v1]) : w.cell? ⟨g, o, none⟩ = some v0 ∧ w.cell? ⟨g, o + 1, none⟩ = some v1 := ⟨h 0 _ rfl, h 1 _ rfl⟩
theorem eqB30 (A B : Option Addr) (n k c d : Nat) (xs ys : List UInt8) (r : Bool) (w : World) (S S' : Blocks) (hn : Hid (n = xs.length)) (hk : Hid (k = ys.length)) (hr : Hid (decide (xs = ys) = r)) (hx : Hid (SliceAt Rep.byte w S A c xs)) (hy : Hid (SliceAt Rep.byte w S' B d ys)) :
    Calls Try.prog 17 #[.slice A n c, .slice B k d] w fun e w' => e = .returned (.bool r) ∧ Below w.heap.size w w' := eqRow' A B n k c d xs ys r w S S' hn hk hr hx hy
section
variable {w : World}
set_option linter.unusedSimpArgs false in
set_option maxRecDepth 100000 in
set_option maxHeartbeats 8000000 in
theorem inplaceRefused_law (C : CaseP) (fs : List Disk.Fin_) (fl : List (Int × Int)) (acts : List Disk.ActV) (keep : List Int) (hn : Hid (C.fn = fs.length)) (hm : Hid (C.ln = fl.length)) (ha : Hid (C.an = acts.length)) (hkn : Hid (C.kn = keep.length))
    (h1 : Hid (SliceAt Rep.fin w (under w.heap.size) C.fA C.fc fs)) (h2 : Hid (SliceAt Rep.fault w (under w.heap.size) C.lA C.lc fl)) (h3 : Hid (SliceAt Rep.actv w (under w.heap.size) C.aA C.ac acts)) (h4 : Hid (SliceAt (Rep.int .i64) w (under w.heap.size) C.kA C.kc keep))
    (hf : Hid (∀ f ∈ fs, finReach30 f)) (hac : Hid (∀ a ∈ acts, actReach30 a)) (hb1 : C.fn ≤ 281474976710656) (hb2 : C.an ≤ 281474976710656) (hb3 : C.ln ≤ 281474976710656) (hb4 : C.kn ≤ 281474976710656) (hb5 : C.name.size ≤ 281474976710656) :
    Calls Try.prog 4 #[C.val] w fun e w' => e = .returned (.bool true) ∧ Below w.heap.size w w' := by
  have hlc : C.ln ≤ C.lc ∧ C.lc ≤ 9223372036854775807 := ⟨by rw [hm.out]; exact h2.out.len, h2.out.max⟩
  have hkc : C.kn ≤ C.kc ∧ C.kc ≤ 9223372036854775807 := ⟨by rw [hkn.out]; exact h4.out.len, h4.out.max⟩
  have hfc : C.fn ≤ C.fc ∧ C.fc ≤ 9223372036854775807 := ⟨by rw [hn.out]; exact h1.out.len, h1.out.max⟩
  obtain ⟨W, hW⟩ : ∃ W, W = w.alloc (.cells C.cells 41) := ⟨_, rfl⟩
  have hbW : Below w.heap.size w W := by rw [hW]; exact Below.alloc (Below.refl _ _) (Nat.le_refl _) _
  have hbox : W.heap[w.heap.size]? = some (.cells C.cells 41 (0, 0)) := by rw [hW]; exact heap_alloc_new _ _
  have hwlt : w.heap.size < W.heap.size := (Array.getElem?_eq_some_iff.1 hbox).1
  have HBX : Hid (∀ u, Below W.heap.size W u → u.cell? ⟨w.heap.size, 0, none⟩ = some (.int .i64 C.room) ∧ u.cell? ⟨w.heap.size, 1, none⟩ = some (.slice C.fA C.fn C.fc) ∧ u.cell? ⟨w.heap.size, 2, none⟩ = some (.slice C.lA C.ln C.lc) ∧ u.cell? ⟨w.heap.size, 3, none⟩ = some (.string C.name) ∧ u.cell? ⟨w.heap.size, 4, none⟩ = some (.slice C.aA C.an C.ac) ∧ u.cell? ⟨w.heap.size, 5, none⟩ = some (.int .i64 C.dir) ∧ u.cell? ⟨w.heap.size, 6, none⟩ = some (.slice C.kA C.kn C.kc)) := Lib.hid fun u hu => seven30 C ((hu.block _ hwlt).trans hbox)
  have HUL : Hid (∀ b, under w.heap.size b → b < W.heap.size) := Lib.hid fun b h => Nat.lt_trans h hwlt
  have HSM : Hid (∀ u, Below W.heap.size W u → Same (under w.heap.size) w u) := Lib.hid fun u hu => (Same.of_below hbW fun _ h => h).trans (Same.of_below hu fun _ h => Nat.lt_trans h hwlt)
  have H1 : Hid (∀ u, Below W.heap.size W u → SliceAt Rep.fin u (under w.heap.size) C.fA C.fc fs) := Lib.hid fun u hu => h1.out.keep (fun _ h => h) (HSM.out u hu)
  have H2 : Hid (∀ u, Below W.heap.size W u → SliceAt Rep.fault u (under w.heap.size) C.lA C.lc fl) := Lib.hid fun u hu => h2.out.keep (fun _ h => h) (HSM.out u hu)
  have H3 : Hid (∀ u, Below W.heap.size W u → SliceAt Rep.actv u (under w.heap.size) C.aA C.ac acts) := Lib.hid fun u hu => h3.out.keep (fun _ h => h) (HSM.out u hu)
  have H4 : Hid (∀ u, Below W.heap.size W u → SliceAt (Rep.int .i64) u (under w.heap.size) C.kA C.kc keep) := Lib.hid fun u hu => h4.out.keep (fun _ h => h) (HSM.out u hu)
  have hback : Hid (∀ u, Below W.heap.size W u → Below w.heap.size w u) := Lib.hid fun u hu => hbW.trans (hu.mono (Nat.le_of_lt hwlt))
  have HBY := Lib.hid (beyond30_any (w := W) C fs acts (under w.heap.size) hn ha (Lib.hid (H1.out W (Below.refl _ _))) (Lib.hid (H3.out W (Below.refl _ _))) HUL hf hac hb1 hb2 hb3 hb4 hb5 hlc hkc)
  obtain ⟨N, hN⟩ : ∃ N : Disk.Nm, N = C.name.data.toList := ⟨_, rfl⟩
  have HN := Lib.hid hN
  have HW := Lib.hid hW
  clear hbW hbox hwlt HSM hW hN
  obtain ⟨c0, c1, c2, c3, c4, c5, c6⟩ := HBX.out W (Below.refl _ _)
  obtain ⟨hlc1, hlc2⟩ := hlc
  obtain ⟨hkc1, hkc2⟩ := hkc
  obtain ⟨hfc1, hfc2⟩ := hfc
  unfold CaseP.val at HBY ⊢
  unfold CaseP.cells at HBY HW ⊢
  go_enter Try.func4, Try.ntmps4
  go_upto_region 1 with fail
  rw [← HW.out]
  obtain ⟨bx, hbx⟩ : ∃ bx, bx = w.heap.size := ⟨_, rfl⟩
  rw [← hbx] at HBX c0 c1 c2 c3 c4 c5 c6 ⊢
  have HBXE := Lib.hid hbx
  clear hbx
  go_wp2_with fail
  refine HBY.out.mono ?_
  rintro e w1 ⟨b, rfl, hwi, hb1⟩
  have HB1 := Lib.hid hb1
  have HWI := Lib.hid hwi
  clear c0 c1 c2 c3 c4 c5 c6 hb1 hwi HBY
  obtain ⟨c0, c1, c2, c3, c4, c5, c6⟩ := HBX.out w1 HB1.out
  cases b
  case true =>
    go_wp2_with fail
    go_ret
    exact ⟨rfl, hback.out _ HB1.out⟩
  obtain ⟨q1, q2, q3, q4, q5, q6⟩ := (HWI.out rfl).parts
  have HQ6 := Lib.hid q6
  have HWS := Lib.hid ((HWI.out rfl).wsum ha.out)
  clear hb1 hb2 hb3 hb4 hb5 q6 HWI
  go_wp2_with fail
  refine editLives_any.mono ?_
  rintro e w2 ⟨rfl, hb2⟩
  have HB2 := Lib.hid (HB1.out.trans (hb2.mono HB1.out.size))
  clear c0 c1 c2 c3 c4 c5 c6 hb2
  obtain ⟨c0, c1, c2, c3, c4, c5, c6⟩ := HBX.out w2 HB2.out
  have HFR := Lib.hid (from_any (w := w2) C.room C.fA C.fn C.fc fs _ hn (Lib.hid (H1.out w2 HB2.out)) (Lib.hid fun b hb => Nat.lt_of_lt_of_le (HUL.out b hb) HB2.out.size) (Lib.hid fun f hf => by have := HQ6.out f hf; omega))
  go_wp2_with fail
  refine HFR.out.mono ?_
  rintro e w3 hfp
  obtain ⟨p, q, rfl, hfv, hb3⟩ := hfp.v
  have HB3 := Lib.hid (HB2.out.trans (hb3.mono HB2.out.size))
  have HFV := Lib.hid hfv
  have HBT : Hid (∀ b, btw w2.heap.size w3.heap.size b → W.heap.size ≤ b) := Lib.hid fun b hb => Nat.le_trans HB2.out.size hb.1
  clear c0 c1 c2 c3 c4 c5 c6 hb3 hfp hfv HFR
  obtain ⟨c0, c1, c2, c3, c4, c5, c6⟩ := HBX.out w3 HB3.out
  go_wp2_with fail
  go_loopg [6] C.ln (fun k iv wr => ∃ (i : Nat), i ≤ C.ln ∧ iv = .int .i64 i ∧ k = C.ln - i ∧ wr = w3 ∧ Hid (∀ f ∈ fl.take i, f.2 ≠ 24))
  case atStart => exact ⟨0, Nat.zero_le _, rfl, rfl, rfl, Lib.hid (by simp)⟩
  case round =>
    obtain ⟨i, hi, rfl, rfl, rfl, HT⟩ := hrel
    by_cases hin : i < C.ln
    · have hil : i < fl.length := by rw [← hm.out]; exact hin
      obtain ⟨g, o, cs, hA, hg, hcs, rfl, -⟩ := (H2.out _ HB3.out).at_ hil
      rw [hA] at c2
      obtain ⟨a0, a1⟩ := two30 hcs
      rw [show Rep.fault.n = 2 from rfl] at a0 a1
      obtain ⟨er, her⟩ : ∃ er, er = (fl[i]).2 := ⟨_, rfl⟩
      rw [← her] at a1
      have HER := Lib.hid her
      have hii : i ≤ 9223372036854775807 := by omega
      clear her hcs hg hA
      by_cases h24 : er = 24
      · subst h24
        go_wp2_with fail
        go_ret
        exact ⟨rfl, hback.out _ HB3.out⟩
      · have h24b : (er == 24) = false := beq_eq_false_iff_ne.2 h24
        have H24 := Lib.hid h24
        clear h24
        go_wp2_with fail
        go_roundg (C.ln - (i + 1))
        case measure => omega
        case rel => exact ⟨i + 1, by omega, by go_num, rfl, rfl, Lib.hid fun f hf => by
          rw [List.take_succ_eq_append_getElem hil] at hf
          rcases List.mem_append.1 hf with hf | hf
          · exact HT.out f hf
          · rw [List.mem_singleton.1 hf, ← HER.out]; exact H24.out⟩
    · obtain rfl : i = C.ln := by omega
      have HFL : Hid (∀ f ∈ fl, f.2 ≠ 24) := Lib.hid fun f hf => HT.out f (by rw [hm.out, List.take_length]; exact hf)
      rcases HFV.out with ⟨hq, rfl⟩ | ⟨rfl, he0, d, rfl, hd⟩
      · have hqb : (q != 0) = true := bne_iff_ne.2 hq
        clear hq
        go_wp2_with fail
        go_ret
        exact ⟨rfl, hback.out _ HB3.out⟩
      have HE0 := Lib.hid he0
      obtain ⟨F, hF⟩ : ∃ F, F = btw w2.heap.size wr.heap.size := ⟨_, rfl⟩
      rw [← hF] at hd HBT
      have K0 : Hid (Kd W wr F d (Disk.fromSt C.room fs)) := Lib.hid ⟨hd, HB3.out, HBT.out⟩
      clear hd hF he0 HFV
      obtain ⟨s, hs⟩ : ∃ s, s = ((Disk.fromSt C.room fs).plan_ fl) := ⟨_, rfl⟩
      have HPL := Lib.hid (plan_any (w := wr) C.lA C.ln C.lc fl _ (Lib.hid K0.out.at_) hm (Lib.hid (H2.out wr HB3.out)) (Lib.hid fun b hb => ⟨Nat.lt_of_lt_of_le (HUL.out b hb) HB3.out.size, fun hf => by have := HUL.out b hb; have := K0.out.base b hf; omega⟩) (by omega))
      rw [← hs] at HPL
      have HS := Lib.hid hs
      clear hs
      obtain ⟨ps, qs⟩ := s
      have HS1 : Hid (ps = ((Disk.fromSt C.room fs).plan_ fl).1) := Lib.hid (by rw [← HS.out])
      by_cases hq0 : qs ≠ 0
      · have hqb : (qs != 0) = true := bne_iff_ne.2 hq0
        clear hq0
        go_wp2_with fail
        refine HPL.out.mono ?_
        rintro e w4 hc
        obtain ⟨he, hk⟩ := K0.out.call hc
        subst he
        have HB4 := Lib.hid hk.below
        clear hc hk
        go_wp2_with fail
        go_ret
        exact ⟨rfl, hback.out _ HB4.out⟩
      obtain rfl : qs = 0 := Decidable.not_not.1 hq0
      clear hq0
      go_wp2_with fail
      refine HPL.out.mono ?_
      rintro e w4 hc
      obtain ⟨he, hk⟩ := K0.out.call hc
      subst he
      obtain ⟨F4, hF4⟩ : ∃ F4, F4 = grow F wr w4 := ⟨_, rfl⟩
      rw [← hF4] at hk
      have K4 := Lib.hid hk
      have HB4 := Lib.hid hk.below
      clear hc hk hF4 c0 c1 c2 c3 c4 c5 c6 HPL
      obtain ⟨c0, c1, c2, c3, c4, c5, c6⟩ := HBX.out w4 HB4.out
      have HBY1 := Lib.hid (bytes30_any (w := w4) C.fA C.fn C.fc fs C.name _ hn (Lib.hid (H1.out w4 HB4.out)))
      rw [← HN.out] at HBY1
      obtain ⟨b0, hb0⟩ : ∃ b0, b0 = Disk.bytesF fs N := ⟨_, rfl⟩
      rw [← hb0] at HBY1
      have HB0 := Lib.hid hb0
      clear hb0
      go_wp2_with fail
      refine HBY1.out.mono ?_
      rintro e w5 ⟨⟨Ao, mo, co, rfl, hmo, hso⟩, rfl⟩
      have HMO := hmo
      have HTN := Lib.hid (tname_any (s := C.name) (w := w4))
      rw [← HN.out] at HTN
      unfold NameAns at HTN
      obtain ⟨tn, htn⟩ : ∃ tn, tn = baT (Disk.tmpOf N) := ⟨_, rfl⟩
      obtain ⟨is, his⟩ : ∃ is, is = Disk.hasTmp N := ⟨_, rfl⟩
      rw [← htn, ← his] at HTN
      have HTE : Hid (tn.data.toList = Disk.tmpOf N) := Lib.hid (by rw [htn]; simp [baT])
      have HIS := Lib.hid his
      clear htn his
      go_wp2_with fail
      refine HTN.out.mono ?_
      rintro e w5 ⟨rfl, hb5⟩
      have K5 := Lib.hid (K4.out.far hb5)
      have HB5 := Lib.hid K5.out.below
      have HSO : Hid (∀ u, Below W.heap.size W u → SliceAt Rep.byte u (under w.heap.size) Ao co (b0.getD [])) := Lib.hid fun u hu => hso.out.keep (fun _ h => h) fun b hb => (hu.block b (HUL.out b hb)).trans (HB4.out.block b (HUL.out b hb)).symm
      clear hb5 hso c0 c1 c2 c3 c4 c5 c6 HBY1 HTN
      obtain ⟨c0, c1, c2, c3, c4, c5, c6⟩ := HBX.out w5 HB5.out
      have HBY2 := Lib.hid (bytes30_any (w := w5) C.fA C.fn C.fc fs tn _ hn (Lib.hid (H1.out w5 HB5.out)))
      rw [HTE.out] at HBY2
      obtain ⟨bt, hbt⟩ : ∃ bt, bt = Disk.bytesF fs (Disk.tmpOf N) := ⟨_, rfl⟩
      rw [← hbt] at HBY2
      have HBTT := Lib.hid hbt
      clear hbt
      go_wp2_with fail
      refine HBY2.out.mono ?_
      rintro e w6 ⟨⟨At, mt, ct, rfl, -, -⟩, rfl⟩
      obtain ⟨stale, hstale⟩ : ∃ b, b = bt.isSome := ⟨_, rfl⟩
      obtain ⟨there, hthere⟩ : ∃ b, b = b0.isSome := ⟨_, rfl⟩
      rw [← hstale]
      rw [← hthere]
      have HSTALE := Lib.hid hstale
      have HTHERE := Lib.hid hthere
      clear hstale hthere HBY2
      obtain ⟨w6, hw6⟩ : ∃ w6, w6 = w5.alloc (.cells #[.int .i64 0, .slice none 0 0, .slice none 0 0, .slice none 0 0, .bool true] 54) := ⟨_, rfl⟩
      have k6 := K3.made K5.out K5.out.at_.lt
      rw [← hw6] at k6
      obtain ⟨x, hx⟩ : ∃ x, x = w5.heap.size := ⟨_, rfl⟩
      rw [← hx] at k6
      obtain ⟨Z, hZ⟩ : ∃ Z : Blocks, Z = fun b => b = x := ⟨_, rfl⟩
      rw [← hZ] at k6
      have K6 := Lib.hid k6
      have HW6 := Lib.hid hw6
      have HX := Lib.hid hx
      clear k6 hw6 hx hZ c0 c1 c2 c3 c4 c5 c6
      go_upto_region 18 with fail
      rw [← HW6.out, ← HX.out]
      have HB6 : Hid (Below W.heap.size W w6) := Lib.hid K6.out.kd.below
      have HK6 : Hid (∀ u, Below w6.heap.size w6 u → u.cell? ⟨bx, 0, none⟩ = some (.int .i64 C.room) ∧ u.cell? ⟨bx, 1, none⟩ = some (.slice C.fA C.fn C.fc) ∧ u.cell? ⟨bx, 2, none⟩ = some (.slice C.lA C.ln C.lc) ∧ u.cell? ⟨bx, 3, none⟩ = some (.string C.name) ∧ u.cell? ⟨bx, 4, none⟩ = some (.slice C.aA C.an C.ac) ∧ u.cell? ⟨bx, 5, none⟩ = some (.int .i64 C.dir) ∧ u.cell? ⟨bx, 6, none⟩ = some (.slice C.kA C.kn C.kc)) := Lib.hid fun u hu => HBX.out u (HB6.out.trans (hu.mono HB6.out.size))
      have HFS := Lib.hid (Disk.fine_from HE0.out)
      have HF4 : Hid (Disk.Fine ps) := Lib.hid (by rw [HS1.out]; exact Disk.fine_act HFS.out (.plan fl))
      have HSM4 : Hid (Disk.Small 1 ps) := Lib.hid (by rw [HS1.out]; exact Disk.small_act (Disk.small_from C.room fs) (.plan fl))
      have HED : Hid (∀ u rB cB xB, Below w6.heap.size w6 u → RunBx u rB cB xB x d C → w6.heap.size ≤ rB ∧ w6.heap.size ≤ cB ∧ w6.heap.size ≤ xB → Calls Try.prog 6 #[.pointer (some ⟨d, 0, none⟩), .string C.name, .func (.func 50) #[] #[.pointer (some ⟨rB, 0, none⟩), .pointer (some ⟨cB, 0, none⟩), .pointer (some ⟨xB, 0, none⟩)]] u (EditPost u F4 Z d ps N (Disk.St.runOf N acts) (RecP x (Disk.wholeOf ps N acts)))) := Lib.hid fun u rB cB xB hu hr hq => by
        have k := K6.out.far hu
        obtain ⟨bv, av, wv, an, hrec, han0⟩ := k.rc
        obtain rfl := han0 rfl
        have hFl : ∀ b, F4 b → b < w6.heap.size := K6.out.kd.at_.lt
        have hZl : ∀ b, Z b → b < w6.heap.size := K6.out.lt
        have hbu := HB6.out.trans (hu.mono HB6.out.size)
        have h9 := editC_any (w := u) C acts (under w.heap.size) rB cB xB x (Lib.hid k.kd.at_) HF4 HSM4 (by omega) (by omega) (Lib.hid (by have := Disk.read_len HF4.out C.name.data.toList; omega)) (bv := bv) (av := av) (wv := wv) (Lib.hid hrec) (Lib.hid k.za) (Lib.hid hr) (Lib.hid fun b hb => by
          rcases hb with hb | rfl | rfl | rfl
          · have := HUL.out b hb
            exact ⟨Nat.lt_of_lt_of_le this hbu.size, fun h => h.elim (fun h => by have := k.kd.base b h; omega) fun h => by have := k.zb b h; omega⟩
          · exact ⟨hr.r.lt, fun h => h.elim (fun h => by have := hFl _ h; omega) fun h => by have := hZl _ h; omega⟩
          · exact ⟨(Array.getElem?_eq_some_iff.1 hr.c).1, fun h => h.elim (fun h => by have := hFl _ h; omega) fun h => by have := hZl _ h; omega⟩
          · exact ⟨hr.x.lt, fun h => h.elim (fun h => by have := hFl _ h; omega) fun h => by have := hZl _ h; omega⟩) (Lib.hid (H3.out u hbu)) ha (by have := HWS.out; omega)
        rw [← HN.out] at h9
        exact h9
      have HD0 : Hid (Below w6.heap.size w6 w6.drew) := Lib.hid ((Below.refl _ _).drew)
      refine wp_region_held_drew (S := fun u => u.cell? ⟨bx, 0, none⟩ = some (.int .i64 C.room) ∧ u.cell? ⟨bx, 1, none⟩ = some (.slice C.fA C.fn C.fc) ∧ u.cell? ⟨bx, 2, none⟩ = some (.slice C.lA C.ln C.lc) ∧ u.cell? ⟨bx, 3, none⟩ = some (.string C.name) ∧ u.cell? ⟨bx, 4, none⟩ = some (.slice C.aA C.an C.ac) ∧ u.cell? ⟨bx, 5, none⟩ = some (.int .i64 C.dir) ∧ u.cell? ⟨bx, 6, none⟩ = some (.slice C.kA C.kn C.kc)) (by kernel_rfl) (HK6.out _ HD0.out) (fun hHeld => ?_)
      refine wpAnyH_take (i := 0) (v := ?_) rfl (by kernel_rfl) (by kernel_rfl) (by kernel_rfl) (fun _ _ _ h => h) (Or.inl ⟨by rfl, ?_⟩) (by assumption) ?_
      rotate_left 1
      · (intro w hSw; (try dsimp only at hSw); (try simp only [List.getElem_toArray, List.getElem_cons_succ, List.getElem_cons_zero]); go_simp <;> (try with_reducible rfl))
      try simp only [Act.put, List.getElem_toArray, List.getElem_cons_succ, List.getElem_cons_zero, List.setIfInBounds_toArray, List.set_cons_zero, List.set_cons_succ]
      refine wpAnyH_take (i := 1) (v := ?_) rfl (by kernel_rfl) (by kernel_rfl) (by kernel_rfl) (fun _ _ _ h => h) (Or.inl ⟨by rfl, ?_⟩) (by assumption) ?_
      rotate_left 1
      · (intro w hSw; (try dsimp only at hSw); (try simp only [List.getElem_toArray, List.getElem_cons_succ, List.getElem_cons_zero]); go_simp <;> (try with_reducible rfl))
      try simp only [Act.put, List.getElem_toArray, List.getElem_cons_succ, List.getElem_cons_zero, List.setIfInBounds_toArray, List.set_cons_zero, List.set_cons_succ]
      refine wpAnyH_take (i := 2) (v := ?_) rfl (by kernel_rfl) (by kernel_rfl) (by kernel_rfl) (fun _ _ _ h => h) (Or.inl ⟨by rfl, ?_⟩) (by assumption) ?_
      rotate_left 1
      · (intro w hSw; (try dsimp only at hSw); (try simp only [List.getElem_toArray, List.getElem_cons_succ, List.getElem_cons_zero]); go_simp <;> (try with_reducible rfl))
      try simp only [Act.put, List.getElem_toArray, List.getElem_cons_succ, List.getElem_cons_zero, List.setIfInBounds_toArray, List.set_cons_zero, List.set_cons_succ]
      refine wpAnyH_take (i := 3) (v := ?_) rfl (by kernel_rfl) (by kernel_rfl) (by kernel_rfl) (fun _ _ _ h => h) (Or.inl ⟨by rfl, ?_⟩) (by assumption) ?_
      rotate_left 1
      · (intro w hSw; (try dsimp only at hSw); (try simp only [List.getElem_toArray, List.getElem_cons_succ, List.getElem_cons_zero]); go_simp <;> (try with_reducible rfl))
      try simp only [Act.put, List.getElem_toArray, List.getElem_cons_succ, List.getElem_cons_zero, List.setIfInBounds_toArray, List.set_cons_zero, List.set_cons_succ]
      refine wpAnyH_take (i := 4) (v := ?_) rfl (by kernel_rfl) (by kernel_rfl) (by kernel_rfl) (fun _ _ _ h => h) (Or.inl ⟨by rfl, ?_⟩) (by assumption) ?_
      rotate_left 1
      · (intro w hSw; (try dsimp only at hSw); (try simp only [List.getElem_toArray, List.getElem_cons_succ, List.getElem_cons_zero]); go_simp <;> (try with_reducible rfl))
      try simp only [Act.put, List.getElem_toArray, List.getElem_cons_succ, List.getElem_cons_zero, List.setIfInBounds_toArray, List.set_cons_zero, List.set_cons_succ]
      refine wpAnyH_take (i := 5) (v := ?_) rfl (by kernel_rfl) (by kernel_rfl) (by kernel_rfl) (fun _ _ _ h => h) (Or.inl ⟨by rfl, ?_⟩) (by assumption) ?_
      rotate_left 1
      · (intro w hSw; (try dsimp only at hSw); (try simp only [List.getElem_toArray, List.getElem_cons_succ, List.getElem_cons_zero]); go_simp <;> (try with_reducible rfl))
      try simp only [Act.put, List.getElem_toArray, List.getElem_cons_succ, List.getElem_cons_zero, List.setIfInBounds_toArray, List.set_cons_zero, List.set_cons_succ]
      refine wpAnyH_ready (rs := [6]) (by kernel_rfl) (by simp) ?_
      refine AllReadyH.cons rfl (fun K hK => ?_) AllReadyH.nil
      have HPG := Lib.hid (prog30_any (w := w6.drew) C d x)
      unfold CaseP.val CaseP.cells at HPG
      go_simp
      refine HPG.out.mono ?_
      rintro e w7 ⟨rB, cB, xB, rfl, hrb, hge, hb7⟩
      have HB7 : Hid (Below w6.heap.size w6 w7) := Lib.hid (HD0.out.trans (hb7.out.mono (Nat.le_refl _)))
      have HRB := hrb
      have HED7 := Lib.hid (HED.out w7 rB cB xB HB7.out hrb.out hge.out)
      clear HPG hb7 hrb hge
      go_wp2_with fail
      refine hK.out _ _ (HK6.out _ HB7.out) (fun hHeld => ?_)
      clear hK K
      try simp only [Act.put, List.getElem_toArray, List.getElem_cons_succ, List.getElem_cons_zero, List.setIfInBounds_toArray, List.set_cons_zero, List.set_cons_succ]
      refine wpAnyH_ready (rs := [7]) (by kernel_rfl) (by simp) ?_
      refine AllReadyH.cons rfl (fun K hK => ?_) AllReadyH.nil
      go_simp
      refine HED7.out.mono ?_
      rintro e w8 hp
      obtain ⟨he8, G8, Z8, calls, wh, k8, hah⟩ := (K6.out.far HB7.out).edit hp
      obtain ⟨r, hr⟩ : ∃ r, r = ps.edit N (Disk.St.runOf N acts) := ⟨_, rfl⟩
      rw [← hr] at he8 k8
      have K8 := Lib.hid k8
      have HR := Lib.hid hr
      have HAH := Lib.hid hah
      have HK8 : Hid (∀ u, Below w8.heap.size w8 u → u.cell? ⟨bx, 0, none⟩ = some (.int .i64 C.room) ∧ u.cell? ⟨bx, 1, none⟩ = some (.slice C.fA C.fn C.fc) ∧ u.cell? ⟨bx, 2, none⟩ = some (.slice C.lA C.ln C.lc) ∧ u.cell? ⟨bx, 3, none⟩ = some (.string C.name) ∧ u.cell? ⟨bx, 4, none⟩ = some (.slice C.aA C.an C.ac) ∧ u.cell? ⟨bx, 5, none⟩ = some (.int .i64 C.dir) ∧ u.cell? ⟨bx, 6, none⟩ = some (.slice C.kA C.kn C.kc)) := Lib.hid fun u hu => HBX.out u (k8.kd.below.trans (hu.mono k8.kd.below.size))
      obtain ⟨f, hf9⟩ : ∃ f, f = r.2 := ⟨_, rfl⟩
      rw [← hf9] at he8
      subst he8
      have HFE := Lib.hid hf9
      clear hp k8 hr hah hf9
      go_wp2_with fail
      refine hK.out _ _ (HK8.out _ (Below.refl _ _)) (fun hHeld => ?_)
      clear hK K
      try simp only [Act.put, List.getElem_toArray, List.getElem_cons_succ, List.getElem_cons_zero, List.setIfInBounds_toArray, List.set_cons_zero, List.set_cons_succ]
      refine wpAnyH_take (i := 8) (v := ?_) rfl (by kernel_rfl) (by kernel_rfl) (by kernel_rfl) (fun _ _ _ h => h) (Or.inl ⟨by rfl, ?_⟩) (by assumption) ?_
      rotate_left 1
      · (intro w hSw; (try dsimp only at hSw); (try simp only [List.getElem_toArray, List.getElem_cons_succ, List.getElem_cons_zero]); go_simp <;> (try with_reducible rfl))
      try simp only [Act.put, List.getElem_toArray, List.getElem_cons_succ, List.getElem_cons_zero, List.setIfInBounds_toArray, List.set_cons_zero, List.set_cons_succ]
      refine wpAnyH_done (by kernel_rfl) ?_ _
      have HLAW := Lib.hid (Disk.refused_law (room := C.room) (fs := fs) (fl := fl) HE0.out HFL.out acts HS1.out HR.out)
      have HF8 : Hid (Disk.Fine r.1) := Lib.hid (by rw [HR.out]; exact Disk.fine_edit HF4.out (Disk.fine_runGo acts (Disk.fine_ahead HF4.out N)))
      obtain ⟨c0, c1, c2, c3, c4, c5, c6⟩ := HK8.out w8 (Below.refl _ _)
      clear c0 c1 c2 c4 c5 c6
      have HFI : Hid (∀ u, Below w8.heap.size w8 u → Calls Try.prog 15 #[.pointer (some ⟨d, 0, none⟩)] u (FilesPost u r.1.files)) := Lib.hid fun u hu => files_any (Lib.hid (K8.out.far hu).kd.at_) HF8
      have HBT8 : Hid (∀ (u : World) (A : Option Addr) (n c : Nat) (B : Nat) (M : ByteArray), FilesOwn u B (.slice A n c) r.1.files → Calls Try.prog 12 #[.slice A n c, .string M] u fun e w' => (∃ A' m c', e = .returned (.tuple #[.slice A' m c', .bool (Disk.bytesOf r.1.files M.data.toList).isSome]) ∧ Hid (m = ((Disk.bytesOf r.1.files M.data.toList).getD []).length) ∧ Hid (SliceAt Rep.byte u (btw B u.heap.size) A' c' ((Disk.bytesOf r.1.files M.data.toList).getD []))) ∧ u = w') := Lib.hid fun u A n c B M h => by
        obtain ⟨h5, h6⟩ := h.slice
        have := bytes30_any (w := u) A n c (r.1.files.map Disk.toFin) M _ (Lib.hid (by rw [List.length_map]; exact h5)) (Lib.hid h6)
        rw [Disk.bytesF_told] at this
        exact this
      obtain ⟨b9, hb9⟩ : ∃ b9, b9 = Disk.bytesOf r.1.files N := ⟨_, rfl⟩
      have HB9 := Lib.hid hb9
      clear hb9
      have HTH : Hid (b9.isSome = there) := Lib.hid (by rw [HB9.out, HTHERE.out, HB0.out]; exact HLAW.out.2.1)
      go_upto_region 19 with fail
      go_cut [15, 16] from 99 (fun v15 v16 wc => ∃ (A9 : Option Addr) (m9 n9 : Nat) (U9 : Blocks), v15 = .slice A9 m9 n9 ∧ v16 = .bool there ∧ Hid (m9 = (b9.getD []).length) ∧ Hid (SliceAt Rep.byte wc U9 A9 n9 (b9.getD [])) ∧ Hid (∀ b, U9 b → b < wc.heap.size) ∧ Hid (Below w8.heap.size w8 wc))
      case first =>
        have HD8 : Hid (Below w8.heap.size w8 w8.drew) := Lib.hid ((Below.refl _ _).drew)
        refine wp_region_held_drew (S := fun u => u.cell? ⟨bx, 3, none⟩ = some (.string C.name)) (by kernel_rfl) c3 (fun hHeld => ?_)
        refine wpAnyH_take (i := 0) (v := ?_) rfl (by kernel_rfl) (by kernel_rfl) (by kernel_rfl) (fun _ _ _ h => h) (Or.inl ⟨by rfl, ?_⟩) (by assumption) ?_
        rotate_left 1
        · (intro w hSw; (try dsimp only at hSw); (try simp only [List.getElem_toArray, List.getElem_cons_succ, List.getElem_cons_zero]); go_simp <;> (try with_reducible rfl))
        try simp only [Act.put, List.getElem_toArray, List.getElem_cons_succ, List.getElem_cons_zero, List.setIfInBounds_toArray, List.set_cons_zero, List.set_cons_succ]
        refine wpAnyH_take (i := 2) (v := ?_) rfl (by kernel_rfl) (by kernel_rfl) (by kernel_rfl) (fun _ _ _ h => h) (Or.inl ⟨by rfl, ?_⟩) (by assumption) ?_
        rotate_left 1
        · (intro w hSw; (try dsimp only at hSw); (try simp only [List.getElem_toArray, List.getElem_cons_succ, List.getElem_cons_zero]); go_simp <;> (try with_reducible rfl))
        try simp only [Act.put, List.getElem_toArray, List.getElem_cons_succ, List.getElem_cons_zero, List.setIfInBounds_toArray, List.set_cons_zero, List.set_cons_succ]
        refine wpAnyH_take (i := 3) (v := ?_) rfl (by kernel_rfl) (by kernel_rfl) (by kernel_rfl) (fun _ _ _ h => h) (Or.inl ⟨by rfl, ?_⟩) (by assumption) ?_
        rotate_left 1
        · (intro w hSw; (try dsimp only at hSw); (try simp only [List.getElem_toArray, List.getElem_cons_succ, List.getElem_cons_zero]); go_simp <;> (try with_reducible rfl))
        try simp only [Act.put, List.getElem_toArray, List.getElem_cons_succ, List.getElem_cons_zero, List.setIfInBounds_toArray, List.set_cons_zero, List.set_cons_succ]
        refine wpAnyH_ready (rs := [1]) (by kernel_rfl) (by simp) ?_
        refine AllReadyH.cons rfl (fun K hK => ?_) AllReadyH.nil
        go_simp
        refine (HFI.out _ HD8.out).mono ?_
        rintro e w9 ⟨A, n, c, rfl, hn9, hnc9, hcm9, ho9, hb9⟩
        have HB9B : Hid (Below w8.heap.size w8 w9) := Lib.hid (HD8.out.trans (hb9.mono HD8.out.size))
        have HBT9 := Lib.hid (HBT8.out w9 A n c _ C.name ho9)
        rw [← HN.out, ← HB9.out] at HBT9
        clear hn9 ho9 hb9
        have d3 := (HK8.out w9 HB9B.out).2.2.2.1
        go_wp2_with fail
        refine hK.out _ _ d3 (fun hHeld => ?_)
        clear hK K
        try simp only [Act.put, List.getElem_toArray, List.getElem_cons_succ, List.getElem_cons_zero, List.setIfInBounds_toArray, List.set_cons_zero, List.set_cons_succ]
        refine wpAnyH_ready (rs := [4]) (by kernel_rfl) (by simp) ?_
        refine AllReadyH.cons rfl (fun K hK => ?_) AllReadyH.nil
        go_simp
        refine HBT9.out.mono ?_
        rintro e w10 ⟨⟨A', m', c', rfl, hm', hs'⟩, rfl⟩
        rw [HTH.out]
        go_wp2_with fail
        refine hK.out _ _ d3 (fun hHeld => ?_)
        clear hK K
        try simp only [Act.put, List.getElem_toArray, List.getElem_cons_succ, List.getElem_cons_zero, List.setIfInBounds_toArray, List.set_cons_zero, List.set_cons_succ]
        refine wpAnyH_take (i := 5) (v := ?_) rfl (by kernel_rfl) (by kernel_rfl) (by kernel_rfl) (fun _ _ _ h => h) (Or.inl ⟨by rfl, ?_⟩) (by assumption) ?_
        rotate_left 1
        · (intro w hSw; (try dsimp only at hSw); (try simp only [List.getElem_toArray, List.getElem_cons_succ, List.getElem_cons_zero]); go_simp <;> (try with_reducible rfl))
        try simp only [Act.put, List.getElem_toArray, List.getElem_cons_succ, List.getElem_cons_zero, List.setIfInBounds_toArray, List.set_cons_zero, List.set_cons_succ]
        refine wpAnyH_take (i := 6) (v := ?_) rfl (by kernel_rfl) (by kernel_rfl) (by kernel_rfl) (fun _ _ _ h => h) (Or.inl ⟨by rfl, ?_⟩) (by assumption) ?_
        rotate_left 1
        · (intro w hSw; (try dsimp only at hSw); (try simp only [List.getElem_toArray, List.getElem_cons_succ, List.getElem_cons_zero]); go_simp <;> (try with_reducible rfl))
        try simp only [Act.put, List.getElem_toArray, List.getElem_cons_succ, List.getElem_cons_zero, List.setIfInBounds_toArray, List.set_cons_zero, List.set_cons_succ]
        refine wpAnyH_take (i := 7) (v := ?_) rfl (by kernel_rfl) (by kernel_rfl) (by kernel_rfl) (fun _ _ _ h => h) (Or.inl ⟨by rfl, ?_⟩) (by assumption) ?_
        rotate_left 1
        · (intro w hSw; (try dsimp only at hSw); (try simp only [List.getElem_toArray, List.getElem_cons_succ, List.getElem_cons_zero]); go_simp <;> (try with_reducible rfl))
        try simp only [Act.put, List.getElem_toArray, List.getElem_cons_succ, List.getElem_cons_zero, List.setIfInBounds_toArray, List.set_cons_zero, List.set_cons_succ]
        refine wpAnyH_take (i := 8) (v := ?_) rfl (by kernel_rfl) (by kernel_rfl) (by kernel_rfl) (fun _ _ _ h => h) (Or.inl ⟨by rfl, ?_⟩) (by assumption) ?_
        rotate_left 1
        · (intro w hSw; (try dsimp only at hSw); (try simp only [List.getElem_toArray, List.getElem_cons_succ, List.getElem_cons_zero]); go_simp <;> (try with_reducible rfl))
        try simp only [Act.put, List.getElem_toArray, List.getElem_cons_succ, List.getElem_cons_zero, List.setIfInBounds_toArray, List.set_cons_zero, List.set_cons_succ]
        refine wpAnyH_take (i := 9) (v := ?_) rfl (by kernel_rfl) (by kernel_rfl) (by kernel_rfl) (fun _ _ _ h => h) (Or.inl ⟨by rfl, ?_⟩) (by assumption) ?_
        rotate_left 1
        · (intro w hSw; (try dsimp only at hSw); (try simp only [List.getElem_toArray, List.getElem_cons_succ, List.getElem_cons_zero]); go_simp <;> (try with_reducible rfl))
        try simp only [Act.put, List.getElem_toArray, List.getElem_cons_succ, List.getElem_cons_zero, List.setIfInBounds_toArray, List.set_cons_zero, List.set_cons_succ]
        refine wpAnyH_done (by kernel_rfl) ?_ _
        go_wp2_with fail
        go_meet
        case rel => exact ⟨A', m', c', _, rfl, rfl, hm', hs', Lib.hid fun b hb => hb.2, HB9B⟩
      case rest =>
        obtain ⟨A9, m9, n9, U9, rfl, rfl, HM9, HS9, HU9, HC9⟩ := hcut
        have HFI2 := Lib.hid (HFI.out wc HC9.out)
        go_wp2_with fail
        refine HFI2.out.mono ?_
        rintro e w10 ⟨A, n, c, rfl, hn10, hnc10, hcm10, ho10, hb10⟩
        have HBT10 := Lib.hid (HBT8.out w10 A n c _ tn ho10)
        rw [HTE.out] at HBT10
        have HC10 := Lib.hid (HC9.out.trans (hb10.mono HC9.out.size))
        have HS10 : Hid (∀ u, Below w10.heap.size w10 u → SliceAt Rep.byte u U9 A9 n9 (b9.getD [])) := Lib.hid fun u hu => HS9.out.keep (fun _ h => h) ((Same.of_below hb10 HU9.out).trans (Same.of_below hu fun b hb => Nat.lt_of_lt_of_le (HU9.out b hb) hb10.size))
        clear hn10 ho10 hb10
        obtain ⟨left, hleft⟩ : ∃ left, left = (Disk.bytesOf r.1.files (Disk.tmpOf N)).isSome := ⟨_, rfl⟩
        rw [← hleft] at HBT10
        have HLEFT := Lib.hid hleft
        clear hleft
        go_wp2_with fail
        refine HBT10.out.mono ?_
        rintro e w11 ⟨⟨A', m', c', rfl, -, -⟩, rfl⟩
        have K10 := Lib.hid (K8.out.far HC10.out)
        have HPW := Lib.hid (power_any (w := w10) (Lib.hid K10.out.kd.at_))
        rw [HLAW.out.1] at HPW
        have HEQO : Hid (∀ u, Below w10.heap.size w10 u → ∀ q, decide ((b9.getD []) = (b0.getD [])) = q → Calls Try.prog 17 #[.slice A9 m9 n9, .slice Ao mo co] u fun e w' => e = .returned (.bool q) ∧ Below u.heap.size u w') := Lib.hid fun u hu q hq => eqB30 A9 Ao m9 mo n9 co _ _ q u _ _ HM9 HMO (Lib.hid hq) (Lib.hid (HS10.out u hu)) (Lib.hid (HSO.out u (K10.out.far hu).kd.below))
        obtain ⟨wv, Aw, nw, cw, Uw, HWV⟩ : ∃ wv Aw nw cw Uw, Hid (wv = .slice Aw nw cw ∧ nw = wh.length ∧ ∀ u, Below w10.heap.size w10 u → u.cell? ⟨x, 0, none⟩ = some (.int .i64 (calls : Int)) ∧ u.cell? ⟨x, 3, none⟩ = some wv ∧ SliceAt Rep.byte u Uw Aw cw wh) := by
          obtain ⟨bv, av, wv, an, hrec, -⟩ := K10.out.rc
          obtain ⟨Aw, cw, rfl, hsw⟩ := hrec.who.slice
          have key : ∀ u, Below w10.heap.size w10 u → u.cell? ⟨x, 0, none⟩ = some (.int .i64 (calls : Int)) ∧ u.cell? ⟨x, 3, none⟩ = some (.slice Aw wh.length cw) ∧ SliceAt Rep.byte u _ Aw cw wh := fun u hu => by
            have h9 := hrec.same (Same.of_below hu hrec.lt) hu.size
            exact ⟨h9.cell 0, h9.cell 3, hsw.keep (fun _ h => h) (Same.of_below hu fun b hb => hb.elim (fun h => h.2.1) fun h => h.elim)⟩
          exact ⟨_, Aw, wh.length, cw, _, Lib.hid ⟨rfl, rfl, key⟩⟩
        obtain ⟨hwv, hnw, hwx⟩ := HWV.out
        subst hwv
        have HWX := Lib.hid hwx
        have HNW := Lib.hid hnw
        clear HWV hwx hnw
        have HEQW : Hid (b9.getD [] = wh → ∀ u, Below w10.heap.size w10 u → Calls Try.prog 17 #[.slice A9 m9 n9, .slice Aw nw cw] u fun e w' => e = .returned (.bool true) ∧ Below u.heap.size u w') := Lib.hid fun hq u hu => eqB30 A9 Aw m9 nw n9 cw _ _ true u _ _ HM9 HNW (Lib.hid (by rw [decide_eq_true hq])) (Lib.hid (HS10.out u hu)) (Lib.hid (HWX.out u hu).2.2)
        have HPD : Hid (∀ u, Below w10.heap.size w10 u → Calls Try.prog 18 #[.pointer (some ⟨d, 0, none⟩)] u fun e w' => e = .returned (.int .i64 (r.1.row.length : Nat)) ∧ u = w') := Lib.hid fun u hu => pending_any (Lib.hid (K10.out.far hu).kd.at_)
        have HEND : Hid (∀ u, Below w10.heap.size w10 u → Below w.heap.size w u) := Lib.hid fun u hu => hback.out u (K10.out.far hu).kd.below
        obtain ⟨x0, x3, -⟩ := HWX.out w10 (Below.refl _ _)
        have hthb : (there != there) = false := by simp
        rcases HAH.out with ⟨hah, hcl⟩ | ⟨hah, hcl, hwe⟩
        · subst hcl
          obtain ⟨l1, l2, l3⟩ := HLAW.out.2.2.1 hah
          have hfb : (f != 0) = true := bne_iff_ne.2 (by rw [HFE.out]; exact l1)
          have HEQ := Lib.hid (HEQO.out w10 (Below.refl _ _) true (by rw [decide_eq_true (by rw [HB9.out, HB0.out, l2])]))
          have HLS : Hid (left = true → stale = true) := Lib.hid fun h => by rw [HSTALE.out, HBTT.out]; exact l3 _ (by rw [← HLEFT.out]; exact h)
          have x0b : w10.cell? ⟨x, 0, none⟩ = some (.int .i64 0) := x0
          clear l1 l2 l3 hah x0
          cases is <;> cases left
          all_goals
            have hst := HLS.out
            simp only [forall_const, reduceCtorEq, false_imp_iff, true_imp_iff] at hst
            (try subst hst)
            go_wp2_with fail
            refine HPW.out.mono ?_
            rintro e w11 ⟨rfl, rfl⟩
            go_wp2_with fail
            refine HEQ.out.mono ?_
            rintro e w12 ⟨rfl, hb12⟩
            have HB12 := Lib.hid (HEND.out _ hb12)
            clear hb12
            go_wp2_with fail
            go_ret
            exact ⟨rfl, HB12.out⟩
        subst hcl
        subst hwe
        obtain ⟨l1, l2, l3, l4⟩ := HLAW.out.2.2.2 hah
        have hisT : is = true := by rw [HIS.out]; exact l1
        have hleF : left = false := by rw [HLEFT.out, l2]; rfl
        subst hisT
        subst hleF
        have x0b : w10.cell? ⟨x, 0, none⟩ = some (.int .i64 1) := x0
        have L3 := Lib.hid l3
        have L4 := Lib.hid l4
        clear l1 l2 l3 l4 hah x0
        by_cases hf0 : f = 0
        · obtain ⟨m1, m2⟩ := L3.out (by rw [← HFE.out]; exact hf0)
          have HEQ := Lib.hid (HEQW.out (by rw [HB9.out, m1]; rfl))
          have HPE : Hid (∀ u, Below w10.heap.size w10 u → Calls Try.prog 18 #[.pointer (some ⟨d, 0, none⟩)] u fun e w' => e = .returned (.int .i64 0) ∧ u = w') := Lib.hid fun u hu => by have h := HPD.out u hu; rw [m2] at h; exact h
          have hfb : (f == 0) = true := beq_iff_eq.2 hf0
          clear m1 m2 hf0
          go_wp2_with fail
          refine HPW.out.mono ?_
          rintro e w11 ⟨rfl, rfl⟩
          go_wp2_with fail
          refine (HEQ.out _ (Below.refl _ _)).mono ?_
          rintro e w12 ⟨rfl, hb12⟩
          have HB12 := Lib.hid hb12
          clear hb12
          go_wp2_with fail
          refine (HPE.out _ HB12.out).mono ?_
          rintro e w13 ⟨rfl, rfl⟩
          go_wp2_with fail
          go_ret
          exact ⟨rfl, HEND.out _ HB12.out⟩
        have hfb : (f == 0) = false := beq_eq_false_iff_ne.2 hf0
        obtain ⟨q, hq⟩ : ∃ q, decide ((b9.getD []) = (b0.getD [])) = q := ⟨_, rfl⟩
        have HEQ := Lib.hid (HEQO.out w10 (Below.refl _ _) q hq)
        cases q
        case true =>
          clear hq hf0
          go_wp2_with fail
          refine HPW.out.mono ?_
          rintro e w11 ⟨rfl, rfl⟩
          go_wp2_with fail
          refine HEQ.out.mono ?_
          rintro e w12 ⟨rfl, hb12⟩
          have HB12 := Lib.hid hb12
          clear hb12
          go_wp2_with fail
          go_ret
          exact ⟨rfl, HEND.out _ HB12.out⟩
        obtain ⟨m1, m2⟩ := (L4.out (by rw [← HFE.out]; exact hf0)).resolve_left (fun h => of_decide_eq_false hq (by rw [HB9.out, HB0.out, h]))
        have HEQ2 := Lib.hid (HEQW.out (by rw [HB9.out, m1]; rfl))
        obtain ⟨pl, hpl⟩ : ∃ pl, pl = r.1.row.length := ⟨_, rfl⟩
        rw [← hpl] at HPD
        have hpp : 0 < pl := by rw [hpl]; exact List.length_pos_iff.2 m2
        clear m1 m2 hq hf0 hpl
        go_wp2_with fail
        refine HPW.out.mono ?_
        rintro e w11 ⟨rfl, rfl⟩
        go_wp2_with fail
        refine HEQ.out.mono ?_
        rintro e w12 ⟨rfl, hb12⟩
        have HB12 := Lib.hid hb12
        obtain ⟨y0, y3, -⟩ := HWX.out w12 hb12
        clear hb12
        go_wp2_with fail
        refine (HEQ2.out _ HB12.out).mono ?_
        rintro e w13 ⟨rfl, hb13⟩
        have HB13 := Lib.hid (HB12.out.trans (hb13.mono HB12.out.size))
        clear hb13
        go_wp2_with fail
        refine (HPD.out _ HB13.out).mono ?_
        rintro e w14 ⟨rfl, rfl⟩
        go_wp2_with fail
        go_ret
        exact ⟨rfl, HEND.out _ HB13.out⟩
end
end Go.Proofs.Ytfommpbblpnljaa
