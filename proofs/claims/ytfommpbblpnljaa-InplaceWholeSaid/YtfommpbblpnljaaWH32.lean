/- Texts that lead to the claim, one behind the other: What Edit holds from its output's making on; the walks of its closures. Condition: the counts are below 2^40. | What Edit's run promises, and what Edit holds behind it. Condition: the counts are below 2^40. | The walk of inplace.first over Edit's four calls, with what it does of the disk. Condition: the counts are below 2^40. | The walk of inplace.Edit. Condition: the counts are below 2^40. -/
import Derived.Test.YtfommpbblpnljaaWH28
import Derived.Test.YtfommpbblpnljaaWH22
import Derived.Test.YtfommpbblpnljaaWH23
import Derived.StillTailTactics
import Derived.Test.YtfommpbblpnljaaWH12
import Derived.Test.YtfommpbblpnljaaWH29
import Derived.Test.YtfommpbblpnljaaWH30
import Derived.Test.YtfommpbblpnljaaWH31
import Derived.Test.YtfommpbblpnljaaWH21
namespace Go.Proofs.Ytfommpbblpnljaa
open Go.RowKit Go.ChangeShapes Go.WideShapes Go.Deep

structure Ed2 (w W : World) (H F G : Blocks) (d : Nat) (s : Disk.St) (t : Disk.Nm) (o dB tB : Nat) (ou : Disk.Ou) (v : Value) (bs : List UInt8) (l : List Bx) : Prop where
  out : OutS W G d s t o dB tB ou
  gs : ∀ b, G b → F b ∨ w.heap.size ≤ b
  only : Only H w W
  hf : ∀ b, F b → H b
  row : Own Rep.byte 5 W w.heap.size nob v bs
  rg : ∀ b, v.ownBlock = some b → ¬ G b
  box : ∀ x ∈ l, x.at_ W ∧ ¬ G x.1 ∧ w.heap.size ≤ x.1
section
variable {w W W' : World} {H F G : Blocks} {d : Nat} {s : Disk.St} {t : Disk.Nm} {o dB tB : Nat} {ou : Disk.Ou} {v : Value} {bs : List UInt8} {l : List Bx}
theorem OutS.lt (h : OutS W G d s t o dB tB ou) : ∀ b, G b → b < W.heap.size := by
  obtain ⟨F, X, A, c, cnt, h⟩ := h
  exact h.lt
theorem OutS.disk (h : OutS W G d s t o dB tB ou) : ∃ F, DiskAt W F d s ∧ ∀ b, F b → G b := by
  obtain ⟨F, X, A, c, cnt, h⟩ := h
  exact ⟨F, h.disk, h.gf⟩
theorem OutS.up {G' : Blocks} (h : OutS W G d s t o dB tB ou) (hg : ∀ b, G b → G' b) (hl : ∀ b, G' b → b < W.heap.size) : OutS W G' d s t o dB tB ou := by
  obtain ⟨F, X, A, c, cnt, h⟩ := h
  exact (h.up hg hl).at_
theorem OutS.far (h : OutS W G d s t o dB tB ou) (hb : Below W.heap.size W W') : OutS W' G d s t o dB tB ou := by
  obtain ⟨F, X, A, c, cnt, h⟩ := h
  exact OutB.at_ (A := A) (c := c) (cnt := cnt) { (h.far hb) with gf := h.gf, gx := h.gx, lt := fun b hb' => Nat.lt_of_lt_of_le (h.lt b hb') hb.size }
theorem OutS.bd (h : OutS W G d s t o dB tB ou) : W.cell? ⟨dB, 0, none⟩ = some (.pointer (some ⟨d, 0, none⟩)) := by
  obtain ⟨F, X, A, c, cnt, h⟩ := h
  exact h.bd.cell
theorem OutS.bt (h : OutS W G d s t o dB tB ou) : W.cell? ⟨tB, 0, none⟩ = some (.string (ba t)) := by
  obtain ⟨F, X, A, c, cnt, h⟩ := h
  exact h.bt.cell
theorem OutS.calls (h : OutS W G d s t o dB tB ou) {f : FuncId} {args : Array Value} {r : Disk.St × Int} (hc : ∀ F, DiskAt W F d s → Calls Try.prog f args W (DiskCall W F d r)) : Calls Try.prog f args W (OutCall W G d t o dB tB (r.1, ou, r.2)) := by
  obtain ⟨F, X, A, c, cnt, h⟩ := h
  refine (hc F h.disk).mono ?_
  rintro e w' hd
  obtain ⟨h1, h2, h3⟩ := h.call hd
  exact ⟨h1, h2.at_, h3⟩
theorem Ed2.far (h : Ed2 w W H F G d s t o dB tB ou v bs l) (hb : Below W.heap.size W W') : Ed2 w W' H F G d s t o dB tB ou v bs l :=
  ⟨h.out.far hb, h.gs, h.only.trans (Only.of_below hb (fun _ => False)) (fun _ h => h.elim), h.hf, h.row.far hb, h.rg, fun x hx => ⟨Bx.keep (h.box x hx).1 (Only.of_below hb (fun _ => False)) (fun h => h), (h.box x hx).2⟩⟩
theorem Ed2.call (h : Ed2 w W H F G d s t o dB tB ou v bs l) {r : Disk.St × Disk.Ou × Int} {e : Ending} (hc : OutCall W G d t o dB tB r e W') : e = .returned (.int .i64 r.2.2) ∧ Ed2 w W' H F (grow G W W') d r.1 t o dB tB r.2.1 v bs l := by
  refine ⟨hc.1, hc.2.1, fun b hb => hb.elim (h.gs b) fun hb => .inr (Nat.le_trans h.only.size hb.1), h.only.trans hc.2.2 fun b hb => (h.gs b hb).imp (h.hf b) id, h.hf, h.row.only hc.2.2 h.rg, fun b hb hg => hg.elim (h.rg b hb) fun hg => ?_, fun x hx => ?_⟩
  · have := (h.row.block_lt hb).2; have := hg.1; omega
  · obtain ⟨h1, h2, h3⟩ := h.box x hx
    exact ⟨Bx.keep h1 hc.2.2 h2, fun hg => hg.elim h2 fun hg => by have := Bx.lt h1; have := hg.1; omega, h3⟩
theorem Ed2.push (h : Ed2 w W H F G d s t o dB tB ou v bs l) (cs : Array Value) (ty : TypeId) : Ed2 w (W.alloc (.cells cs ty)) H F G d s t o dB tB ou v bs ((W.heap.size, cs, ty) :: l) := by
  have h1 := h.far (Below.alloc (Below.refl _ W) (Nat.le_refl _) (.cells cs ty))
  refine { h1 with box := fun x hx => ?_ }
  rcases List.mem_cons.1 hx with rfl | hx
  · exact ⟨World.alloc_heap_new W _, fun hg => Nat.lt_irrefl _ (h.out.lt _ hg), h.only.size⟩
  · exact h1.box x hx
theorem Ed2.c0 (h : Ed2 w W H F G d s t o dB tB ou v bs l) {b : Nat} {u : Value} {ty : TypeId} (hx : (b, #[u], ty) ∈ l) : W.cell? ⟨b, 0, none⟩ = some u := (cell_of_row W b 0 _ _ (0, 0) (h.box _ hx).1).trans rfl
/-- The output has been made. -/
theorem Ed.out {N : ByteArray} (h : Ed w W F G d s v bs ((o, #[.int .i64 64, sinkV dB tB, .slice none 0 0, .int .i64 0, .int .i64 0], 106) :: (dB, #[.pointer (some ⟨d, 0, none⟩)], 22) :: (tB, #[.string N], 9) :: l)) (hN : N = ba t)
    (hv : ∀ b, v.ownBlock = some b → b ≠ o ∧ b ≠ dB ∧ b ≠ tB) (hl : ∀ x ∈ l, x.1 ≠ o ∧ x.1 ≠ dB ∧ x.1 ≠ tB) : Ed2 w W F F (fun b => G b ∨ b = o ∨ b = dB ∨ b = tB) d s t o dB tB ⟨[], 0⟩ v bs l := by
  obtain ⟨o1, o2, o3⟩ := h.box (o, _, _) List.mem_cons_self
  obtain ⟨d1, d2, d3⟩ := h.box (dB, _, _) (List.mem_cons_of_mem _ List.mem_cons_self)
  obtain ⟨t1, t2, t3⟩ := h.box (tB, _, _) (List.mem_cons_of_mem _ (List.mem_cons_of_mem _ List.mem_cons_self))
  refine ⟨OutB.at_ (F := G) (X := fun b => b = o ∨ b = dB ∨ b = tB) (A := none) (c := 0) (cnt := 0) { disk := h.disk, out := o1, held := Own.nil _ _ _ _, bd := d1, bt := by rw [← hN]; exact t1, Xo := .inl rfl, Xd := .inr (.inl rfl), Xt := .inr (.inr rfl), Xh := fun b hb => by simp [Value.ownBlock] at hb, ub := ?_, gf := fun b hb => .inl hb, gx := fun b hb => .inr hb, lt := ?_ }, ?_, h.only, fun _ h => h, h.row, fun b hb hg => ?_, fun x hx => ?_⟩
  · rintro b (rfl | rfl | rfl)
    · exact ⟨Bx.lt o1, o2⟩
    · exact ⟨Bx.lt d1, d2⟩
    · exact ⟨Bx.lt t1, t2⟩
  · rintro b (hb | rfl | rfl | rfl)
    · exact h.lt b hb
    · exact Bx.lt o1
    · exact Bx.lt d1
    · exact Bx.lt t1
  · rintro b (hb | rfl | rfl | rfl)
    · exact h.gs b hb
    · exact .inr o3
    · exact .inr d3
    · exact .inr t3
  · obtain ⟨e1, e2, e3⟩ := hv b hb
    rcases hg with hg | hg | hg | hg
    · exact h.rg b hb hg
    · exact e1 hg
    · exact e2 hg
    · exact e3 hg
  · obtain ⟨h1, h2, h3⟩ := h.box x (by simp [hx])
    obtain ⟨e1, e2, e3⟩ := hl x hx
    refine ⟨h1, fun hg => ?_, h3⟩
    rcases hg with hg | hg | hg | hg
    · exact h2 hg
    · exact e1 hg
    · exact e2 hg
    · exact e3 hg
/-! ### The closures -/
set_option maxRecDepth 100000 in
theorem run3_any (b2 b7 b11 : Nat) (fn : FuncId) (cap : Array Value) (he : ∀ args w, (callFunc fn args).run Try.prog w = .ok (.enter fn args) w) (A : Option Addr) (m c : Nat) (c0 : w.cell? ⟨b2, 0, none⟩ = some (.func (.func fn) #[] cap)) (c1 : w.cell? ⟨b7, 0, none⟩ = some (.slice A m c)) (c2 : w.cell? ⟨b11, 0, none⟩ = some (.pointer (some ⟨o, 0, none⟩)))
    {Φ : Ending → World → Prop} (hK : Hid (Calls Try.prog fn (#[.slice A m c, .pointer (some ⟨o, 0, none⟩)] ++ cap) w Φ)) (hΦ : ∀ e w', Φ e w' → ∃ q, e = .returned (.int .i64 q)) :
    Calls Try.prog 34 #[.pointer (some ⟨b2, 0, none⟩), .pointer (some ⟨b7, 0, none⟩), .pointer (some ⟨b11, 0, none⟩)] w Φ := by
  go_enter Try.func34, Try.ntmps34
  go_wp2_with fail
  refine hK.out.mono ?_
  intro e w1 h
  obtain ⟨q, rfl⟩ := hΦ e w1 h
  have HH := Lib.hid h
  clear h
  go_wp2_with fail
  exact HH.out
set_option maxRecDepth 100000 in
theorem sync_out (h : Hid (OutS w G d s t o dB tB ou)) (hf : Hid (Disk.Fine s)) {k : Nat} (hk : Hid (Disk.Small k s)) (hkb : k ≤ 1099511627776) (ht : t.length ≤ maxLen) :
    Calls Try.prog 36 #[.pointer (some ⟨dB, 0, none⟩), .pointer (some ⟨tB, 0, none⟩)] w (OutCall w G d t o dB tB ((s.sync t).1, ou, (s.sync t).2)) := by
  have c0 := h.out.bd
  have c1 := h.out.bt
  have HC := Lib.hid (h.out.calls (f := 37) (args := #[.pointer (some ⟨d, 0, none⟩), .string (ba t)]) (r := s.sync t) fun F hF => sync_any (ba t) (by rw [ba_size]; exact ht) (Lib.hid hF) hf hk hkb)
  go_enter Try.func36, Try.ntmps36
  go_wp2_with fail
  refine HC.out.mono ?_
  rintro e w1 ⟨rfl, h1⟩
  have H1 := Lib.hid h1
  clear h1
  go_wp2_with fail
  go_ret
  exact ⟨rfl, H1.out⟩
set_option maxRecDepth 100000 in
theorem rename_out (n : ByteArray) (hn : n.size ≤ maxLen) (nB : Nat) (c2 : w.cell? ⟨nB, 0, none⟩ = some (.string n)) (h : Hid (OutS w G d s t o dB tB ou)) (hf : Hid (Disk.Fine s)) {k : Nat} (hk : Hid (Disk.Small k s)) (hkb : k ≤ 1099511627776) (ht : t.length ≤ maxLen) :
    Calls Try.prog 38 #[.pointer (some ⟨dB, 0, none⟩), .pointer (some ⟨tB, 0, none⟩), .pointer (some ⟨nB, 0, none⟩)] w (OutCall w G d t o dB tB ((s.rename t n.data.toList).1, ou, (s.rename t n.data.toList).2)) := by
  have c0 := h.out.bd
  have c1 := h.out.bt
  have HC := Lib.hid (h.out.calls (f := 39) (args := #[.pointer (some ⟨d, 0, none⟩), .string (ba t), .string n]) (r := s.rename t n.data.toList) fun F hF => rename_any (ba t) n (by rw [ba_size]; exact ht) hn (Lib.hid hF) hf hk hkb)
  go_enter Try.func38, Try.ntmps38
  go_wp2_with fail
  refine HC.out.mono ?_
  rintro e w1 ⟨rfl, h1⟩
  have H1 := Lib.hid h1
  clear h1
  go_wp2_with fail
  go_ret
  exact ⟨rfl, H1.out⟩
set_option maxRecDepth 100000 in
/-- The deferred closure: the temporary file is taken away, where it was not renamed. -/
theorem undo_out (bR : Nat) (c2 : w.cell? ⟨bR, 0, none⟩ = some (.bool false)) (h : Hid (OutS w G d s t o dB tB ou)) (hf : Hid (Disk.Fine s)) {k : Nat} (hk : Hid (Disk.Small k s)) (hkb : k ≤ 1099511627776) (ht : t.length ≤ maxLen) (u : FrameMode) :
    CallsD Try.prog 29 #[.pointer (some ⟨bR, 0, none⟩), .pointer (some ⟨dB, 0, none⟩), .pointer (some ⟨tB, 0, none⟩)] u w fun e u' w' => u' = u ∧ e = .returned (.tuple #[]) ∧ OutS w' (grow G w w') d (s.remove t).1 t o dB tB ou ∧ Only G w w' := by
  have c0 := h.out.bd
  have c1 := h.out.bt
  have HC := Lib.hid (h.out.calls (f := 27) (args := #[.pointer (some ⟨d, 0, none⟩), .string (ba t)]) (r := s.remove t) fun F hF => by
    obtain ⟨loc, blk, bn, bo, rowv, pA, pC, hB⟩ := hF
    refine (remove_at (ba t) (by rw [ba_size]; exact ht) (Lib.hid hB) hf hk hkb).mono ?_
    rintro e w' ⟨h1, ⟨rowv', h2⟩, h3⟩
    exact ⟨h1, h2.at_, h3⟩)
  go_enter_d Try.func29, Try.ntmps29
  go_wp2_with fail
  refine HC.out.mono ?_
  rintro e w1 ⟨rfl, h1⟩
  have H1 := Lib.hid h1
  clear h1
  go_wp2_with fail
  go_end0
  exact ⟨rfl, H1.out⟩
set_option maxRecDepth 100000 in
theorem undo_not (bR : Nat) (c2 : w.cell? ⟨bR, 0, none⟩ = some (.bool true)) (u : FrameMode) :
    CallsD Try.prog 29 #[.pointer (some ⟨bR, 0, none⟩), .pointer (some ⟨dB, 0, none⟩), .pointer (some ⟨tB, 0, none⟩)] u w fun e u' w' => u' = u ∧ e = .returned (.tuple #[]) ∧ Below w.heap.size w w' := by
  go_enter_d Try.func29, Try.ntmps29
  go_wp2_with fail
  go_end0
  exact ⟨rfl, Below.refl _ _⟩
end
end Go.Proofs.Ytfommpbblpnljaa
namespace Go.Proofs.Ytfommpbblpnljaa
open Go.RowKit Go.ChangeShapes Go.WideShapes Go.Deep

/-- Behind the run: its answer, the disk and the output, what it kept of its own. -/
def RunPost (W : World) (Z G : Blocks) (d : Nat) (t : Disk.Nm) (o dB tB : Nat) (rb : Option Nat) (r : Disk.St × Disk.Ou × Int) (P : Blocks → World → Prop) (e : Ending) (w' : World) : Prop :=
  e = .returned (.int .i64 r.2.2) ∧ ∃ G' Z', OutS w' G' d r.1 t o dB tB r.2.1 ∧ P Z' w' ∧ (∀ b, G' b → G b ∨ W.heap.size ≤ b) ∧ (∀ b, Z' b → (Z b ∨ W.heap.size ≤ b) ∧ ¬ G' b ∧ b < w'.heap.size) ∧ Only (fun b => G b ∨ Z b ∨ rb = some b) W w'
/-- The run's contract. -/
def RunK (w : World) (F Z : Blocks) (d : Nat) (t : Disk.Nm) (fn : FuncId) (cap : Array Value) (s1 : Disk.St) (bb : List UInt8) (R : Disk.St → Disk.St × Disk.Ou × Int) (P : Blocks → World → Prop) : Prop :=
  ∀ W G A m c o dB tB, Only F w W → (∀ b, G b → F b ∨ w.heap.size ≤ b) → OutS W G d s1 t o dB tB ⟨[], 0⟩ → m = bb.length → Own Rep.byte 5 W w.heap.size nob (.slice A m c) bb → (∀ b, (Value.slice A m c).ownBlock = some b → ¬ G b) →
    Calls Try.prog fn (#[.slice A m c, .pointer (some ⟨o, 0, none⟩)] ++ cap) W (RunPost W Z G d t o dB tB (Value.slice A m c).ownBlock (R s1) P)
/-- What the caller keeps stays, where its blocks stay. -/
def Stays (P : Blocks → World → Prop) : Prop := ∀ Z u u', P Z u → Same Z u u' → u.heap.size ≤ u'.heap.size → P Z u'
/-- Behind the run: the disk and the output so, the caller's own, the boxes. -/
def EdJ (w : World) (F Z : Blocks) (d : Nat) (t : Disk.Nm) (o dB tB : Nat) (l : List Bx) (P : Blocks → World → Prop) (s : Disk.St) (ou : Disk.Ou) (W : World) : Prop :=
  ∃ G Z', Ed2 w W (fun b => F b ∨ Z b) F G d s t o dB tB ou (.slice none 0 0) [] l ∧ P Z' W ∧ (∀ b, Z' b → (Z b ∨ w.heap.size ≤ b) ∧ ¬ G b ∧ b < W.heap.size) ∧ ∀ x ∈ l, ¬ Z' x.1
section
variable {w W W' : World} {H F Z G : Blocks} {d : Nat} {s : Disk.St} {t : Disk.Nm} {o dB tB : Nat} {ou : Disk.Ou} {v : Value} {bs : List UInt8} {l : List Bx} {P : Blocks → World → Prop}
theorem OutS.only {K : Blocks} (h : OutS W G d s t o dB tB ou) (ho : Only K W W') (hk : ∀ b, K b → ¬ G b) : OutS W' G d s t o dB tB ou := by
  obtain ⟨F, X, A, c, cnt, h⟩ := h
  have hs : ∀ b, X b → W'.heap[b]? = W.heap[b]? := fun b hb => ho.block b (h.ub b hb).1 fun e => hk b e (h.gx b hb)
  obtain ⟨loc, blk, bn, bo, rowv, pA, pC, hB⟩ := h.disk
  exact OutB.at_ (F := F) (X := X) (A := A) (c := c) (cnt := cnt) { disk := (hB.only ho fun b hb e => hk b e (h.gf b hb)).at_, out := (hs o h.Xo).trans h.out, held := h.held.only ho fun b hb e => hk b e (h.gx b (h.Xh b hb)), bd := (hs _ h.Xd).trans h.bd, bt := (hs _ h.Xt).trans h.bt, Xo := h.Xo, Xd := h.Xd, Xt := h.Xt, Xh := h.Xh, ub := fun b hb => ⟨Nat.lt_of_lt_of_le (h.ub b hb).1 ho.size, (h.ub b hb).2⟩, gf := h.gf, gx := h.gx, lt := fun b hb => Nat.lt_of_lt_of_le (h.lt b hb) ho.size }
theorem EdJ.far (h : EdJ w F Z d t o dB tB l P s ou W) (hP : Stays P) (hb : Below W.heap.size W W') : EdJ w F Z d t o dB tB l P s ou W' := by
  obtain ⟨G, Z', h1, h2, h3, hz⟩ := h
  exact ⟨G, Z', h1.far hb, hP Z' _ _ h2 (Same.of_below hb fun b hb => (h3 b hb).2.2) hb.size, fun b hb' => ⟨(h3 b hb').1, (h3 b hb').2.1, Nat.lt_of_lt_of_le (h3 b hb').2.2 hb.size⟩, hz⟩
theorem EdJ.calls (h : EdJ w F Z d t o dB tB l P s ou W) (hP : Stays P) {r : Disk.St × Disk.Ou × Int} {f : FuncId} {args : Array Value} (hc : ∀ G, OutS W G d s t o dB tB ou → Calls Try.prog f args W (OutCall W G d t o dB tB r)) :
    Calls Try.prog f args W fun e w' => e = .returned (.int .i64 r.2.2) ∧ EdJ w F Z d t o dB tB l P r.1 r.2.1 w' := by
  obtain ⟨G, Z', h1, h2, h3, hz⟩ := h
  refine (hc G h1.out).mono ?_
  rintro e w' h
  obtain ⟨h4, h5⟩ := h1.call h
  refine ⟨h4, _, Z', h5, hP Z' _ _ h2 (h.2.2.same fun b hb => ⟨(h3 b hb).2.2, (h3 b hb).2.1⟩) h.2.2.size, fun b hb => ⟨(h3 b hb).1, fun hg => hg.elim (h3 b hb).2.1 fun hg => ?_, Nat.lt_of_lt_of_le (h3 b hb).2.2 h.2.2.size⟩, hz⟩
  have := (h3 b hb).2.2; have := hg.1; omega
theorem EdJ.step (h : EdJ w F Z d t o dB tB l P s ou W) (hP : Stays P) {r : Disk.St × Disk.Ou × Int} {f : FuncId} {args : Array Value} (hc : ∀ G, OutS W G d s t o dB tB ou → Calls Try.prog f args W (OutCall W G d t o dB tB r)) {I : World → Prop} {Q : Int → World → Prop}
    (hI : r.2.2 = 0 → ∀ W', EdJ w F Z d t o dB tB l P r.1 r.2.1 W' → I W') (hQ : r.2.2 ≠ 0 → ∀ W', EdJ w F Z d t o dB tB l P r.1 r.2.1 W' → Q r.2.2 W') : Calls Try.prog f args W (Step I Q) := by
  refine (h.calls hP hc).mono ?_
  rintro e w' ⟨rfl, h1⟩
  exact ⟨_, rfl, fun e => hI e _ h1, fun e => hQ e _ h1⟩
/-- The run, called. -/
theorem Ed2.run (h : Ed2 w W F F G d s t o dB tB ou v bs l) (hZ : ∀ b, Z b → b < w.heap.size) (hl : ∀ x ∈ l, x.2.2 ≠ 5) {r : Disk.St × Disk.Ou × Int} {e : Ending} (hr : RunPost W Z G d t o dB tB v.ownBlock r P e W') : e = .returned (.int .i64 r.2.2) ∧ EdJ w F Z d t o dB tB l P r.1 r.2.1 W' := by
  obtain ⟨h1, G', Z', h2, h3, h4, h5, h6⟩ := hr
  have hws := h.only.size
  refine ⟨h1, G', Z', ⟨h2, fun b hb => ?_, ?_, fun _ hb => .inl hb, Own.nil _ _ _ _, fun b hb => by simp [Value.ownBlock] at hb, fun x hx => ?_⟩, h3, fun b hb => ⟨(h5 b hb).1.imp id (Nat.le_trans hws), (h5 b hb).2⟩, fun x hx hz => ?_⟩
  · exact (h4 b hb).elim (h.gs b) fun hb => .inr (Nat.le_trans hws hb)
  · refine (h.only.mono fun b hb => .inl hb).trans h6 fun x hx => ?_
    rcases hx with hx | hx | hx
    · exact (h.gs x hx).imp .inl id
    · exact .inl (.inr hx)
    · exact .inr (h.row.block_lt hx).1
  · obtain ⟨h7, h8, h9⟩ := h.box x hx
    refine ⟨Bx.keep h7 h6 fun hg => ?_, fun hg => (h4 _ hg).elim h8 fun hg => ?_, h9⟩
    · rcases hg with hg | hg | hg
      · exact h8 hg
      · have := hZ _ hg; omega
      · obtain ⟨cur, hc⟩ := h.row.content hg
        exact ne_cells h7 hc (hl x hx) rfl
    · have := Bx.lt h7; omega
  · obtain ⟨h7, h8, h9⟩ := h.box x hx
    have := Bx.lt h7
    rcases (h5 _ hz).1 with hg | hg
    · have := hZ _ hg; omega
    · omega
/-- A box is written. -/
theorem EdJ.set {b : Nat} {u : Value} {ty : TypeId} (h : EdJ w F Z d t o dB tB ((b, #[u], ty) :: l) P s ou W) (hP : Stays P) (hl : ∀ x ∈ l, x.1 ≠ b) (u' : Value) : EdJ w F Z d t o dB tB ((b, #[u'], ty) :: l) P s ou (W.setCell ⟨b, 0, none⟩ u') := by
  obtain ⟨G, Z', h1, h2, h3, hz⟩ := h
  obtain ⟨b1, b2, b3⟩ := h1.box _ List.mem_cons_self
  have ho : Only (fun x => x = b) W (W.setCell ⟨b, 0, none⟩ u') := Only.setCell (Only.refl (fun x => x = b) W) (.inl rfl) _
  refine ⟨G, Z', ⟨h1.out.only ho fun x hx e => b2 (hx ▸ e), h1.gs, h1.only.trans ho fun x hx => .inr (hx ▸ b3), h1.hf, Own.nil _ _ _ _, h1.rg, fun x hx => ?_⟩, hP Z' _ _ h2 (ho.same fun x hx => ⟨(h3 x hx).2.2, fun e => hz _ List.mem_cons_self (e ▸ hx)⟩) ho.size, fun x hx => ⟨(h3 x hx).1, (h3 x hx).2.1, Nat.lt_of_lt_of_le (h3 x hx).2.2 ho.size⟩, fun x hx => ?_⟩
  rcases List.mem_cons.1 hx with rfl | hx
  · refine ⟨?_, b2, b3⟩
    have h4 : W.heap[b]? = some (.cells #[u] ty (0, 0)) := b1
    simp [Bx.at_, World.setCell, Array.getElem?_modify, h4]
  · obtain ⟨h5, h6, h7⟩ := h1.box x (List.mem_cons_of_mem _ hx)
    exact ⟨Bx.keep h5 ho (hl x hx), h6, h7⟩
  · rcases List.mem_cons.1 hx with rfl | hx
    · exact hz (b, #[u], ty) List.mem_cons_self
    · exact hz x (List.mem_cons_of_mem _ hx)
end
end Go.Proofs.Ytfommpbblpnljaa
namespace Go.Proofs.Ytfommpbblpnljaa
open Go.RowKit Go.ChangeShapes Go.WideShapes Go.Deep

namespace Disk
theorem fine_handOn {s : St} (h : Fine s) (t : Nm) (o : Ou) : Fine (s.handOn t o).1 := by
  unfold St.handOn
  split
  · exact h
  · exact fine_act h (.append t o.held)
theorem fine_ouFlush {s : St} (h : Fine s) (t : Nm) (o : Ou) : Fine (s.ouFlush t o).1 := by
  unfold St.ouFlush
  split
  · exact h
  · exact fine_handOn h t o
theorem fine_ouWrite {s : St} (h : Fine s) (t : Nm) (o : Ou) (l : List UInt8) : Fine (s.ouWrite t o l).1 := by
  unfold St.ouWrite
  split
  · exact h
  · split
    · exact h
    · exact fine_handOn h t _
theorem small_handOn {k : Nat} {s : St} (h : Small k s) (t : Nm) (o : Ou) : Small (k + 1) (s.handOn t o).1 := by
  unfold St.handOn
  split
  · exact small_mono h (by omega)
  · exact small_act h (.append t o.held)
theorem small_ouFlush {k : Nat} {s : St} (h : Small k s) (t : Nm) (o : Ou) : Small (k + 1) (s.ouFlush t o).1 := by
  unfold St.ouFlush
  split
  · exact small_mono h (by omega)
  · exact small_handOn h t o
theorem small_ouWrite {k : Nat} {s : St} (h : Small k s) (t : Nm) (o : Ou) (l : List UInt8) : Small (k + 1) (s.ouWrite t o l).1 := by
  unfold St.ouWrite
  split
  · exact small_mono h (by omega)
  · split
    · exact small_mono h (by omega)
    · exact small_handOn h t _
theorem held_handOn (s : St) (t : Nm) (o : Ou) : (s.handOn t o).2.1.held = [] := by
  unfold St.handOn
  split
  · assumption
  · rfl
theorem held_ouFlush (s : St) (t : Nm) (o : Ou) : (s.ouFlush t o).2.1.held.length ≤ o.held.length := by
  unfold St.ouFlush
  split
  · exact Nat.le_refl _
  · rw [held_handOn]; exact Nat.zero_le _
theorem held_ouWrite (s : St) (t : Nm) (o : Ou) (l : List UInt8) : (s.ouWrite t o l).2.1.held.length ≤ o.held.length + l.length := by
  unfold St.ouWrite
  split
  · exact Nat.le_add_right _ _
  · split
    · simp
    · rw [held_handOn]; exact Nat.zero_le _
/-- The steps behind the run, one by one. -/
theorem behind_1 {t n : Nm} {r : St × Ou × Int} (h : r.2.2 ≠ 0) : St.behindRun t n r = (r.1, r.2.2) := by unfold St.behindRun; rw [if_pos h]
theorem behind_2 {t n : Nm} {r : St × Ou × Int} (h : r.2.2 = 0) {f : St × Ou × Int} (hf : f = r.1.ouFlush t r.2.1) (h2 : f.2.2 ≠ 0) : St.behindRun t n r = (f.1, f.2.2) := by
  unfold St.behindRun St.rest; rw [if_neg (by rw [h]; simp), if_pos (by rw [← hf]; exact h2), ← hf]
theorem behind_3 {t n : Nm} {r : St × Ou × Int} (h : r.2.2 = 0) {f : St × Ou × Int} (hf : f = r.1.ouFlush t r.2.1) (h2 : f.2.2 = 0) (h3 : (f.1.sync t).2 ≠ 0) : St.behindRun t n r = f.1.sync t := by
  unfold St.behindRun St.rest; rw [if_neg (by rw [h]; simp), if_neg (by rw [← hf, h2]; simp), if_pos (by rw [← hf]; exact h3), ← hf]
theorem behind_4 {t n : Nm} {r : St × Ou × Int} (h : r.2.2 = 0) {f : St × Ou × Int} (hf : f = r.1.ouFlush t r.2.1) (h2 : f.2.2 = 0) (h3 : (f.1.sync t).2 = 0) : St.behindRun t n r = (f.1.sync t).1.rename t n := by
  unfold St.behindRun St.rest; rw [if_neg (by rw [h]; simp), if_neg (by rw [← hf, h2]; simp), if_neg (by rw [← hf, h3]; simp), ← hf]
theorem fine_behind {t n : Nm} {r : St × Ou × Int} (h : Fine r.1) : Fine (St.behindRun t n r).1 := by
  have h1 := fine_ouFlush h t r.2.1
  have h2 := fine_act h1 (.sync t)
  have h3 := fine_act h2 (.rename t n)
  unfold St.behindRun St.rest
  split
  · exact h
  · split
    · exact h1
    · split
      · exact h2
      · exact h3
theorem small_behind {k : Nat} {t n : Nm} {r : St × Ou × Int} (h : Small k r.1) : Small (k + 3) (St.behindRun t n r).1 := by
  have h1 := small_ouFlush h t r.2.1
  have h2 := small_act h1 (.sync t)
  have h3 := small_act h2 (.rename t n)
  unfold St.behindRun St.rest
  split
  · exact small_mono h (by omega)
  · split
    · exact small_mono h1 (by omega)
    · split
      · exact small_mono h2 (by omega)
      · exact small_mono h3 (by omega)
theorem fine_ahead {s : St} (h : Fine s) (n : Nm) : Fine (s.ahead n).1 := by
  have h1 := fine_act h (.remove (tmpOf n))
  unfold St.ahead
  split
  · exact h
  · split
    · exact h
    · split
      · exact h1
      · split
        · exact fine_act h1 (.make (tmpOf n))
        · exact fine_act h (.make (tmpOf n))
theorem small_ahead {k : Nat} {s : St} (h : Small k s) (n : Nm) : Small (k + 2) (s.ahead n).1 := by
  have h1 := small_act h (.remove (tmpOf n))
  unfold St.ahead
  split
  · exact small_mono h (by omega)
  · split
    · exact small_mono h (by omega)
    · split
      · exact small_mono h1 (by omega)
      · split
        · exact small_act h1 (.make (tmpOf n))
        · exact small_mono (small_act h (.make (tmpOf n))) (by omega)
theorem fine_edit {s : St} {n : Nm} {R : St → St × Ou × Int} (h : Fine s) (hR : Fine (R (s.ahead n).1).1) : Fine (s.edit n R).1 := by
  have h1 := fine_behind (t := tmpOf n) (n := n) hR
  unfold St.edit
  split
  · exact fine_ahead h n
  · unfold St.ends
    split
    · exact fine_act h1 (.remove (tmpOf n))
    · exact fine_act h1 .syncDir
theorem small_edit {k l : Nat} {s : St} {n : Nm} {R : St → St × Ou × Int} (h : Small k s) (hR : Small l (R (s.ahead n).1).1) : Small (k + l + 4) (s.edit n R).1 := by
  have h1 := small_behind (t := tmpOf n) (n := n) hR
  unfold St.edit
  split
  · exact small_mono (small_ahead h n) (by omega)
  · unfold St.ends
    split
    · exact small_mono (small_act h1 (.remove (tmpOf n))) (by omega)
    · exact small_mono (small_act h1 .syncDir) (by omega)
end Disk
section
variable {w W W' : World} {H F Z G : Blocks} {d : Nat} {s : Disk.St} {t : Disk.Nm} {o dB tB : Nat} {ou : Disk.Ou} {v : Value} {bs : List UInt8} {l : List Bx} {P : Blocks → World → Prop}
theorem EdJ.c0 (h : EdJ w F Z d t o dB tB l P s ou W) {b : Nat} {u : Value} {ty : TypeId} (hx : (b, #[u], ty) ∈ l) : W.cell? ⟨b, 0, none⟩ = some u := by
  obtain ⟨G, Z', h1, -⟩ := h
  exact h1.c0 hx
theorem EdJ.at_ (h : EdJ w F Z d t o dB tB l P s ou W) {x : Bx} (hx : x ∈ l) : x.at_ W := by
  obtain ⟨G, Z', h1, -⟩ := h
  exact (h1.box x hx).1
theorem EdJ.sub {l' : List Bx} (h : EdJ w F Z d t o dB tB l P s ou W) (hl : ∀ x ∈ l', x ∈ l) : EdJ w F Z d t o dB tB l' P s ou W := by
  obtain ⟨G, Z', h1, h2, h3, h4⟩ := h
  exact ⟨G, Z', { h1 with box := fun x hx => h1.box x (hl x hx) }, h2, h3, fun x hx => h4 x (hl x hx)⟩
/-- The deferred closure, behind a call that was refused. -/
theorem EdJ.undo (h : EdJ w F Z d t o dB tB l P s ou W) (hP : Stays P) {bR : Nat} (hb : (bR, #[.bool false], 4) ∈ l) (hf : Disk.Fine s) {k : Nat} (hk : Disk.Small k s) (hkb : k ≤ 1099511627776) (ht : t.length ≤ maxLen) (u : FrameMode) :
    CallsD Try.prog 29 #[.pointer (some ⟨bR, 0, none⟩), .pointer (some ⟨dB, 0, none⟩), .pointer (some ⟨tB, 0, none⟩)] u W fun e u' w' => u' = u ∧ e = .returned (.tuple #[]) ∧ EdJ w F Z d t o dB tB l P (s.remove t).1 ou w' := by
  have c2 := h.c0 hb
  obtain ⟨G, Z', h1, h2, h3, h4⟩ := h
  refine (undo_out bR c2 (Lib.hid h1.out) (Lib.hid hf) (Lib.hid hk) hkb ht u).mono ?_
  rintro e u' w' ⟨h5, h6, h7, h8⟩
  obtain ⟨-, h9⟩ := h1.call (r := ((s.remove t).1, ou, 0)) (e := .returned (.int .i64 0)) ⟨rfl, h7, h8⟩
  refine ⟨h5, h6, _, Z', h9, hP Z' _ _ h2 (h8.same fun b hb => ⟨(h3 b hb).2.2, (h3 b hb).2.1⟩) h8.size, fun b hb => ⟨(h3 b hb).1, fun hg => hg.elim (h3 b hb).2.1 fun hg => ?_, Nat.lt_of_lt_of_le (h3 b hb).2.2 h8.size⟩, h4⟩
  have := (h3 b hb).2.2; have := hg.1; omega
theorem EdJ.bd (h : EdJ w F Z d t o dB tB l P s ou W) : W.cell? ⟨dB, 0, none⟩ = some (.pointer (some ⟨d, 0, none⟩)) := by
  obtain ⟨G, Z', h1, -⟩ := h
  exact h1.out.bd
theorem EdJ.free (h : EdJ w F Z d t o dB tB l P s ou W) {x : Bx} (hx : x ∈ l) (i : Nat) : W.frozen? ⟨x.1, i, none⟩ = false := by
  have := h.at_ hx
  unfold Bx.at_ at this
  simp [World.frozen?, this]
theorem Ed.sub {l' : List Bx} (h : Ed w W F G d s v bs l) (hl : ∀ x ∈ l', x ∈ l) : Ed w W F G d s v bs l' := { h with box := fun x hx => h.box x (hl x hx) }
/-- The output and what stands about it have been made. -/
theorem Ed.made {b0 b1 b2 B7 B8 : Nat} {N n : ByteArray} {v' fv : Value} (cs : Array Value) (h : Ed w W F G d s v bs [(B8, #[.string N], 9), (B7, #[v'], 32), (b2, #[fv], 34), (b1, #[.string n], 9), (b0, #[.pointer (some ⟨d, 0, none⟩)], 22)]) (hN : N = ba t) (h1 : b1 ≠ B8) :
    Ed2 w ((((W.alloc (.cells #[.bool false] 4)).alloc (.cells #[.int .i64 64, sinkV b0 B8, .slice none 0 0, .int .i64 0, .int .i64 0] 106)).alloc (.cells #[.pointer (some ⟨W.heap.size + 1, 0, none⟩)] 33)).alloc (.cells cs 77)) F F (fun b => G b ∨ b = W.heap.size + 1 ∨ b = b0 ∨ b = B8) d s t (W.heap.size + 1) b0 B8 ⟨[], 0⟩ v bs
      [(W.heap.size + 1 + 1 + 1, cs, 77), (W.heap.size + 1 + 1, #[.pointer (some ⟨W.heap.size + 1, 0, none⟩)], 33), (W.heap.size, #[.bool false], 4), (B7, #[v'], 32), (b2, #[fv], 34), (b1, #[.string n], 9)] := by
  have k8 : W.heap[B8]? = some (.cells #[.string N] 9 (0, 0)) := (h.box (B8, #[.string N], 9) (by simp)).1
  have k7 : W.heap[B7]? = some (.cells #[v'] 32 (0, 0)) := (h.box (B7, #[v'], 32) (by simp)).1
  have k2 : W.heap[b2]? = some (.cells #[fv] 34 (0, 0)) := (h.box (b2, #[fv], 34) (by simp)).1
  have k1 : W.heap[b1]? = some (.cells #[.string n] 9 (0, 0)) := (h.box (b1, #[.string n], 9) (by simp)).1
  have k0 : W.heap[b0]? = some (.cells #[.pointer (some ⟨d, 0, none⟩)] 22 (0, 0)) := (h.box (b0, #[.pointer (some ⟨d, 0, none⟩)], 22) (by simp)).1
  have l8 := (Array.getElem?_eq_some_iff.1 k8).1
  have l7 := (Array.getElem?_eq_some_iff.1 k7).1
  have l2 := (Array.getElem?_eq_some_iff.1 k2).1
  have l1 := (Array.getElem?_eq_some_iff.1 k1).1
  have l0 := (Array.getElem?_eq_some_iff.1 k0).1
  have h2 := (h.push #[.bool false] 4).push #[.int .i64 64, sinkV b0 B8, .slice none 0 0, .int .i64 0, .int .i64 0] 106
  rw [World.size_alloc] at h2
  have h3 := (h2.sub (l' := (W.heap.size + 1, #[.int .i64 64, sinkV b0 B8, .slice none 0 0, .int .i64 0, .int .i64 0], 106) :: (b0, #[.pointer (some ⟨d, 0, none⟩)], 22) :: (B8, #[.string N], 9) :: [(W.heap.size, #[.bool false], 4), (B7, #[v'], 32), (b2, #[fv], 34), (b1, #[.string n], 9)]) (by
    intro x hx
    simp only [List.mem_cons, List.not_mem_nil, or_false] at hx ⊢
    rcases hx with hx | hx | hx | hx | hx | hx | hx <;> simp [hx])).out (t := t) hN (fun b hb => by
      obtain ⟨cur, hc⟩ := h.row.content hb
      have := (h.row.block_lt hb).2
      exact ⟨by omega, fun e => ne_cells hc k0 (by decide) e, fun e => ne_cells hc k8 (by decide) e⟩) (fun x hx => by
      simp only [List.mem_cons, List.not_mem_nil, or_false] at hx
      rcases hx with rfl | rfl | rfl | rfl
      · exact ⟨by simp, by dsimp only; omega, by dsimp only; omega⟩
      · exact ⟨by dsimp only; omega, fun e => ne_cells k7 k0 (by decide) e, fun e => ne_cells k7 k8 (by decide) e⟩
      · exact ⟨by dsimp only; omega, fun e => ne_cells k2 k0 (by decide) e, fun e => ne_cells k2 k8 (by decide) e⟩
      · exact ⟨by dsimp only; omega, fun e => ne_cells k1 k0 (by decide) e, h1⟩)
  have h4 := (h3.push #[.pointer (some ⟨W.heap.size + 1, 0, none⟩)] 33).push cs 77
  simpa only [World.size_alloc] using h4
set_option maxRecDepth 100000 in
theorem edFirst_any (g b2 b7 b11 nB : Nat) (n : ByteArray) (hn : n.size ≤ maxLen) (fn : FuncId) (cap : Array Value) (he : ∀ args w, (callFunc fn args).run Try.prog w = .ok (.enter fn args) w) (A : Option Addr) (m c : Nat) (hm : m = bs.length)
    (hE : Ed2 w W F F G d s t o dB tB ⟨[], 0⟩ (.slice A m c) bs l) (hg : (g, #[f0V b2 b7 b11, f1V o, f2V dB tB, f3V dB tB nB], 77) ∈ l) (h2 : (b2, #[.func (.func fn) #[] cap], 34) ∈ l) (h7 : (b7, #[.slice A m c], 32) ∈ l) (h11 : (b11, #[.pointer (some ⟨o, 0, none⟩)], 33) ∈ l) (hnB : (nB, #[.string n], 9) ∈ l)
    (hl : ∀ x ∈ l, x.2.2 ≠ 5) (hZ : ∀ b, Z b → b < w.heap.size) (ht : t.length ≤ maxLen) (R : Disk.St → Disk.St × Disk.Ou × Int) (hP : Stays P)
    (hR : RunK w F Z d t fn cap s bs R P) (hRf : Disk.Fine (R s).1) {kr : Nat} (hRk : Disk.Small kr (R s).1) (hkr : kr + 10 ≤ 1099511627776) (hRl : (R s).2.1.held.length ≤ 1099511627776) :
    Calls Try.prog 33 #[.slice (some ⟨g, 0, none⟩) 4 4] W fun e w' => e = .returned (.int .i64 (Disk.St.behindRun t n.data.toList (R s)).2) ∧ ∃ ou', EdJ w F Z d t o dB tB l P (Disk.St.behindRun t n.data.toList (R s)).1 ou' w' := by
  obtain ⟨r, hr⟩ : ∃ r, r = R s := ⟨_, rfl⟩
  obtain ⟨f, hf⟩ : ∃ f, f = r.1.ouFlush t r.2.1 := ⟨_, rfl⟩
  rw [← hr] at hRf hRk hRl ⊢
  have ff : Disk.Fine f.1 := by rw [hf]; exact Disk.fine_ouFlush hRf _ _
  have fk : Disk.Small (kr + 1) f.1 := by rw [hf]; exact Disk.small_ouFlush hRk _ _
  have sf : Disk.Fine (f.1.sync t).1 := Disk.fine_act ff (.sync t)
  have sk : Disk.Small (kr + 2) (f.1.sync t).1 := Disk.small_act fk (.sync t)
  refine (first_any g b2 b7 b11 o dB tB nB W (fun i W' => match i with
    | 0 => W' = W
    | 1 => r.2.2 = 0 ∧ EdJ w F Z d t o dB tB l P r.1 r.2.1 W'
    | 2 => r.2.2 = 0 ∧ f.2.2 = 0 ∧ EdJ w F Z d t o dB tB l P f.1 f.2.1 W'
    | 3 => r.2.2 = 0 ∧ f.2.2 = 0 ∧ (f.1.sync t).2 = 0 ∧ EdJ w F Z d t o dB tB l P (f.1.sync t).1 f.2.1 W'
    | _ => (Disk.St.behindRun t n.data.toList r).2 = 0 ∧ EdJ w F Z d t o dB tB l P (Disk.St.behindRun t n.data.toList r).1 f.2.1 W')
    (fun q W' => q = (Disk.St.behindRun t n.data.toList r).2 ∧ ∃ ou', EdJ w F Z d t o dB tB l P (Disk.St.behindRun t n.data.toList r).1 ou' W') rfl (Lib.hid ?_) (Lib.hid ?_) (Lib.hid ?_) (Lib.hid ?_) (Lib.hid ?_) (Lib.hid ?_)).mono ?_
  · intro i W' h
    match i, h with
    | 0, h => rw [show W' = W from h]; exact (hE.box _ hg).1
    | 1, h => exact h.2.at_ hg
    | 2, h => exact h.2.2.at_ hg
    | 3, h => exact h.2.2.2.at_ hg
    | (i + 4), h => exact h.2.at_ hg
  · rintro W' rfl
    refine run3_any b2 b7 b11 fn cap he A m c (hE.c0 h2) (hE.c0 h7) (hE.c0 h11) (Lib.hid ((hR W' G A m c o dB tB hE.only hE.gs hE.out hm hE.row hE.rg).mono fun e w' h => ?_)) fun e w' h => ?_
    · obtain ⟨h1, h2⟩ := hE.run hZ hl h
      rw [← hr] at h1 h2
      exact ⟨_, h1, fun e => ⟨e, h2⟩, fun e => by rw [Disk.behind_1 e]; exact ⟨rfl, _, h2⟩⟩
    · obtain ⟨q, h, -⟩ := h
      exact ⟨q, h⟩
  · rintro W' ⟨h1, h2⟩
    refine h2.step hP (r := f) (fun G hG => by rw [hf]; exact flush_any (Lib.hid hG) (Lib.hid hRf) (Lib.hid hRk) (by omega) ht hRl) (fun e W' h => ⟨h1, e, h⟩) fun e W' h => ?_
    rw [Disk.behind_2 h1 hf e]
    exact ⟨rfl, _, h⟩
  · rintro W' ⟨h1, h2, h3⟩
    refine h3.step hP (r := ((f.1.sync t).1, f.2.1, (f.1.sync t).2)) (fun G hG => sync_out (Lib.hid hG) (Lib.hid ff) (Lib.hid fk) (by omega) ht) (fun e W' h => ⟨h1, h2, e, h⟩) fun e W' h => ?_
    rw [Disk.behind_3 h1 hf h2 e]
    exact ⟨rfl, _, h⟩
  · rintro W' ⟨h1, h2, h3, h4⟩
    have hb := Disk.behind_4 (n := n.data.toList) h1 hf h2 h3
    refine h4.step hP (r := (((f.1.sync t).1.rename t n.data.toList).1, f.2.1, ((f.1.sync t).1.rename t n.data.toList).2)) (fun G hG => rename_out n hn nB (h4.c0 hnB) (Lib.hid hG) (Lib.hid sf) (Lib.hid sk) (by omega) ht) (fun e W' h => ?_) fun e W' h => ?_
    · rw [hb]; exact ⟨e, h⟩
    · rw [hb]; exact ⟨rfl, _, h⟩
  · rintro W' ⟨h1, h2⟩
    exact ⟨h1.symm, _, h2⟩
  · rintro e w' ⟨q, rfl, rfl, h⟩
    exact ⟨rfl, h⟩
end
end Go.Proofs.Ytfommpbblpnljaa
namespace Go.Proofs.Ytfommpbblpnljaa
open Go.RowKit Go.ChangeShapes Go.WideShapes Go.Deep

section
variable {w W W' : World} {F G : Blocks} {d : Nat} {s : Disk.St} {v : Value} {bs : List UInt8} {l : List Bx}
theorem Ed.c0 (h : Ed w W F G d s v bs l) {b : Nat} {u : Value} {t : TypeId} (hx : (b, #[u], t) ∈ l) : W.cell? ⟨b, 0, none⟩ = some u := (h.cell _ hx 0).trans rfl
theorem rm_any (n : ByteArray) (hn : n.size ≤ maxLen) (HA : Hid (DiskAt w F d s)) (hf : Hid (Disk.Fine s)) {k : Nat} (hk : Hid (Disk.Small k s)) (hkb : k ≤ 1099511627776) :
    Calls Try.prog 27 #[.pointer (some ⟨d, 0, none⟩), .string n] w (DiskCall w F d (s.remove n.data.toList)) := by
  obtain ⟨loc, blk, bn, bo, rowv, pA, pC, hB⟩ := HA.out
  refine (remove_at n hn (Lib.hid hB) hf hk hkb).mono ?_
  rintro e w' ⟨h1, ⟨rowv', h2⟩, h3⟩
  exact ⟨h1, h2.at_, h3⟩
theorem tmp_size {N : Disk.Nm} (h : true = Disk.hasTmp N) : (baT (Disk.tmpOf N)).size ≤ maxLen := by
  have h0 : Disk.tmpOf N = Disk.tmpPre ++ N := by unfold Disk.tmpOf; rw [← h]; rfl
  have h1 : N.length ≤ 56 := by
    unfold Disk.hasTmp at h
    have h2 := h.symm
    simp only [Bool.and_eq_true, decide_eq_true_eq] at h2
    exact h2.1.2
  show (Disk.tmpOf N).toArray.size ≤ maxLen
  rw [h0]
  simp [Disk.tmpPre, maxLen]
  omega
theorem ahead_2 {s : Disk.St} {N tn : Disk.Nm} {r2 : Disk.St × Int} {q : Int} (h1 : Disk.hasTmp N = true) (h2 : (s.read N).2 = 0) (ht : tn = Disk.tmpOf N) (hr : r2 = s.remove tn) (hin : tn ∈ s.names) (hq : q = r2.2) (h0 : q ≠ 0) : s.ahead N = (r2.1, q) := by
  unfold Disk.St.ahead
  rw [if_neg (by rw [h1]; simp), if_neg (by simpa using h2), if_pos (by rw [← ht, ← hr, ← hq]; exact ⟨hin, h0⟩), ← ht, ← hr, hq]
theorem ahead_3 {s s2 : Disk.St} {N tn : Disk.Nm} {r2 : Disk.St × Int} (h1 : Disk.hasTmp N = true) (h2 : (s.read N).2 = 0) (ht : tn = Disk.tmpOf N) (hr : r2 = s.remove tn) (hn : ¬ (tn ∈ s.names ∧ r2.2 ≠ 0)) (hs : s2 = if tn ∈ s.names then r2.1 else s) : s.ahead N = s2.make tn := by
  unfold Disk.St.ahead
  rw [if_neg (by rw [h1]; simp), if_neg (by simpa using h2), if_neg (by rw [← ht, ← hr]; exact hn), ← ht, ← hr, ← hs]
/-- What Edit leaves behind. -/
def EditPost (w : World) (F Z : Blocks) (d : Nat) (s : Disk.St) (N : Disk.Nm) (R : Disk.St → Disk.St × Disk.Ou × Int) (P : Blocks → World → Prop) (e : Ending) (w' : World) : Prop :=
  e = .returned (.int .i64 (s.edit N R).2) ∧ ∃ G, DiskAt w' G d (s.edit N R).1 ∧ (∀ b, G b → F b ∨ w.heap.size ≤ b) ∧ Only (fun b => F b ∨ Z b) w w' ∧
    (((s.ahead N).2 ≠ 0 ∧ Only F w w') ∨ ((s.ahead N).2 = 0 ∧ ∃ Z', P Z' w' ∧ ∀ b, Z' b → (Z b ∨ w.heap.size ≤ b) ∧ ¬ G b ∧ b < w'.heap.size))
theorem Ed.refused {s0 : Disk.St} {N : Disk.Nm} {q : Int} (h : Ed w W F G d s v bs l) (ha : s0.ahead N = (s, q)) (hq : q ≠ 0) (Z : Blocks) (R : Disk.St → Disk.St × Disk.Ou × Int) (P : Blocks → World → Prop) : EditPost w F Z d s0 N R P (.returned (.int .i64 q)) W := by
  have he : s0.edit N R = (s, q) := by unfold Disk.St.edit; rw [if_pos (by rw [ha]; exact hq), ha]
  unfold EditPost
  rw [he, ha]
  exact ⟨rfl, G, h.disk, h.gs, h.only.mono fun _ h => .inl h, .inl ⟨hq, h.only⟩⟩
theorem EdJ.post {Z : Blocks} {t : Disk.Nm} {o dB tB : Nat} {P : Blocks → World → Prop} {ou : Disk.Ou} {s9 : Disk.St} {N : Disk.Nm} {q : Int} {R : Disk.St → Disk.St × Disk.Ou × Int} (h : EdJ w F Z d t o dB tB l P s9 ou W) (ha : (s.ahead N).2 = 0) (he : s.edit N R = (s9, q)) : EditPost w F Z d s N R P (.returned (.int .i64 q)) W := by
  obtain ⟨G, Z', h1, h2, h3, -⟩ := h
  obtain ⟨F', h4, h5⟩ := h1.out.disk
  unfold EditPost
  rw [he]
  exact ⟨rfl, F', h4, fun b hb => h1.gs b (h5 b hb), h1.only, .inr ⟨ha, Z', h2, fun b hb => ⟨(h3 b hb).1, fun hg => (h3 b hb).2.1 (h5 b hg), (h3 b hb).2.2⟩⟩⟩
theorem edit_0 {s : Disk.St} {N : Disk.Nm} {R : Disk.St → Disk.St × Disk.Ou × Int} (ha : (s.ahead N).2 = 0) : s.edit N R = Disk.St.ends (Disk.tmpOf N) (Disk.St.behindRun (Disk.tmpOf N) N (R (s.ahead N).1)) := by
  unfold Disk.St.edit; rw [if_neg (by rw [ha]; simp)]
theorem read_not_1 (s : Disk.St) (N : Disk.Nm) : (s.read N).2 ≠ 1 := by
  have hl : ∀ a b, s.looked a b ≠ 1 := fun a b => by by_cases h1 : s.on <;> by_cases h2 : (b.any fun n => !Disk.isName n) = true <;> by_cases h3 : a ≠ [] ∧ Disk.find s.now a = none <;> simp [Disk.St.looked, h1, h2, h3]
  unfold Disk.St.read
  split
  · unfold Disk.St.there; split
    · exact hl _ _
    · exact hl _ _
  · split <;> simp
set_option linter.unusedSimpArgs false in
set_option maxRecDepth 100000 in
set_option maxHeartbeats 4000000 in
theorem edit_any (HA : Hid (DiskAt w F d s)) (hf : Hid (Disk.Fine s)) {k : Nat} (hk : Hid (Disk.Small k s)) (hkb : k + 10 ≤ 1099511627776) (n : ByteArray) (hn : n.size ≤ maxLen) (fn : FuncId) (cap : Array Value) (he : ∀ args w, (callFunc fn args).run Try.prog w = .ok (.enter fn args) w) (Z : Blocks) (hZ : ∀ b, Z b → b < w.heap.size) (R : Disk.St → Disk.St × Disk.Ou × Int) (P : Blocks → World → Prop) (hP : Stays P)
    (hR : Hid (RunK w F Z d (Disk.tmpOf n.data.toList) fn cap (s.ahead n.data.toList).1 (s.read n.data.toList).1 R P)) (hRf : Hid (Disk.Fine (R (s.ahead n.data.toList).1).1)) {kr : Nat} (hRk : Hid (Disk.Small kr (R (s.ahead n.data.toList).1).1)) (hkr : kr + 10 ≤ 1099511627776) (hRl : (R (s.ahead n.data.toList).1).2.1.held.length ≤ 1099511627776) :
    Calls Try.prog 6 #[.pointer (some ⟨d, 0, none⟩), .string n, .func (.func fn) #[] cap] w (EditPost w F Z d s n.data.toList R P) := by
  obtain ⟨W0, hW0⟩ : ∃ W0, W0 = ((w.alloc (.cells #[.pointer (some ⟨d, 0, none⟩)] 22)).alloc (.cells #[.string n] 9)).alloc (.cells #[.func (.func fn) #[] cap] 34) := ⟨_, rfl⟩
  have h0 : Ed w W0 F F d s (.slice none 0 0) [] [(w.heap.size + 1 + 1, #[.func (.func fn) #[] cap], 34), (w.heap.size + 1, #[.string n], 9), (w.heap.size, #[.pointer (some ⟨d, 0, none⟩)], 22)] := by
    have h1 := (((Ed.start HA.out).push #[.pointer (some ⟨d, 0, none⟩)] 22).push #[.string n] 9).push #[.func (.func fn) #[] cap] 34
    rw [hW0]; simpa using h1
  have HRD := Lib.hid (read_any n hn (Lib.hid h0.disk) hf)
  have HTN := Lib.hid (fun W => tname_any (s := n) (w := W))
  have H0 := Lib.hid h0
  obtain ⟨N, hN⟩ : ∃ N, N = n.data.toList := ⟨_, rfl⟩
  rw [← hN] at HRD HTN
  obtain ⟨r1, hr1⟩ : ∃ r, r = s.read N := ⟨_, rfl⟩
  rw [← hr1] at HRD
  obtain ⟨q1, hq1⟩ : ∃ q, q = r1.2 := ⟨_, rfl⟩
  have HN := Lib.hid hN
  have HR1 := Lib.hid hr1
  have HQ1 := Lib.hid hq1
  clear hN hr1 hq1 h0 HA
  go_enter_defers Try.func6, Try.ntmps6
  go_wp2_with fail
  rw [← hW0]
  refine HRD.out.mono ?_
  rintro e w1 ⟨A, m, c, rfl, hm, -, -, ho1, hb1⟩
  have H1 := Lib.hid (H0.out.read ho1 hb1)
  have HM := Lib.hid hm
  rw [← HQ1.out]
  clear ho1 hb1 hm hW0
  have hq : (q1 == 1) = false := beq_eq_false_iff_ne.2 (by rw [HQ1.out, HR1.out]; exact read_not_1 _ _)
  have H2 := Lib.hid (H1.out.push #[.slice A m c] 32)
  have c4 := H2.out.c0 (b := w.heap.size + 1) (u := .string n) (t := 9) (by simp)
  have HT := Lib.hid (HTN.out (w1.alloc (.cells #[.slice A m c] 32)))
  obtain ⟨B7, hB7⟩ : ∃ B7, B7 = w1.heap.size := ⟨_, rfl⟩
  clear HRD HTN
  obtain ⟨t, ht⟩ : ∃ t, t = baT (Disk.tmpOf N) := ⟨_, rfl⟩
  obtain ⟨ok, hok⟩ : ∃ ok, ok = Disk.hasTmp N := ⟨_, rfl⟩
  have HTT := Lib.hid ht
  have HOK := Lib.hid hok
  have hans : Hid (∀ e, NameAns N e → e = .returned (.tuple #[.string t, .bool ok])) := Lib.hid fun e h => by rw [ht, hok]; exact h
  rw [← HN.out]
  clear ht hok
  go_wp2_with fail
  refine HT.out.mono ?_
  rintro e w2 ⟨he, hb⟩
  obtain rfl := hans.out e he
  have HB1 : w.heap.size + 1 < w2.heap.size := Nat.lt_of_lt_of_le (Bx.lt (H2.out.box (w.heap.size + 1, #[.string n], 9) (by simp)).1) hb.size
  have H3 := Lib.hid ((H2.out.far hb).push #[.string t] 9)
  obtain ⟨B8, hB8⟩ : ∃ B8, B8 = w2.heap.size := ⟨_, rfl⟩
  have HB8 := Lib.hid hB8
  have HB : Hid (w.heap.size + 1 < B8) := Lib.hid (by rw [hB8]; exact HB1)
  have HB7 := Lib.hid hB7
  clear he hb HT hans c4 hB7 hB8 HB1
  cases ok
  · go_wp2_with fail
    refine ⟨_, results_tmp rfl _ _ _, ?_⟩
    rw [← HN.out]
    exact H3.out.refused (by unfold Disk.St.ahead; rw [if_pos HOK.out.symm]) (by decide) Z R P
  by_cases hq0 : q1 = 0
  · have hq0b : (q1 != 0) = false := by rw [hq0]; rfl
    obtain ⟨W, hW⟩ : ∃ W, W = w2.alloc (.cells #[.string t] 9) := ⟨_, rfl⟩
    rw [← hW, ← HB8.out, ← HB7.out] at H3
    have HL : Hid (∀ u, Below W.heap.size W u → u.cell? ⟨w.heap.size, 0, none⟩ = some (.pointer (some ⟨d, 0, none⟩)) ∧ u.cell? ⟨B8, 0, none⟩ = some (.string t)) := Lib.hid fun u hu => ⟨(H3.out.far hu).c0 (t := 22) (by simp), (H3.out.far hu).c0 (t := 9) (by simp)⟩
    have HNM : Hid (∀ u, Below W.heap.size W u → Calls Try.prog 26 #[.pointer (some ⟨d, 0, none⟩)] u (StrsPost u s.names)) := Lib.hid fun u hu => diskNames_any (Lib.hid (H3.out.far hu).disk) hf
    have HCT : Hid (∀ A2 n2 c2 w2, Hid (n2 = s.names.length) → Hid (Own Rep.str 9 w2 W.drew.heap.size nob (.slice A2 n2 c2) (s.names.map ba)) → Calls Try.prog 25 #[.slice A2 n2 c2, .string t] w2 fun e w' => (∃ q, e = .returned (.bool q) ∧ (q = true ↔ t ∈ s.names.map ba)) ∧ w2 = w') := Lib.hid fun A2 n2 c2 w2 hn2 ho2 => by
      obtain ⟨A3, c3, he, hs⟩ := ho2.out.slice
      simp only [Value.slice.injEq] at he
      obtain ⟨rfl, -, rfl⟩ := he
      exact strContains_any A2 n2 c2 (s.names.map ba) t w2 _ (Lib.hid (by rw [hn2.out]; simp)) (Lib.hid hs)
    go_upto_region 9 with fail
    rw [← hW, ← HB8.out, ← HB7.out]
    clear hW
    go_cut [34] from 31 (fun v34 wc => ∃ qc, v34 = .bool qc ∧ Hid (qc = true ↔ t ∈ s.names.map ba) ∧ Hid (Below W.heap.size W wc))
    case first =>
      have HS0 := Lib.hid (HL.out W.drew ((Below.refl _ _).drew))
      refine wp_region_noPanic ?_
      refine wp_region_held_drew (S := fun u => u.cell? ⟨w.heap.size, 0, none⟩ = some (.pointer (some ⟨d, 0, none⟩)) ∧ u.cell? ⟨B8, 0, none⟩ = some (.string t)) (by kernel_rfl) HS0.out (fun hHeld => ?_)
      refine wpAnyH_take (i := 0) (v := ?_) rfl (by kernel_rfl) (by kernel_rfl) (by kernel_rfl) (fun _ _ _ h => h) (Or.inl ⟨by rfl, ?_⟩) (by assumption) ?_
      rotate_left 1
      · (intro w hSw; (try dsimp only at hSw); go_simp <;> (try with_reducible rfl))
      try simp only [Act.put, List.setIfInBounds_toArray, List.set_cons_zero, List.set_cons_succ]
      refine wpAnyH_take (i := 2) (v := ?_) rfl (by kernel_rfl) (by kernel_rfl) (by kernel_rfl) (fun _ _ _ h => h) (Or.inl ⟨by rfl, ?_⟩) (by assumption) ?_
      rotate_left 1
      · (intro w hSw; (try dsimp only at hSw); go_simp <;> (try with_reducible rfl))
      try simp only [Act.put, List.setIfInBounds_toArray, List.set_cons_zero, List.set_cons_succ]
      refine wpAnyH_ready (rs := [1]) (by kernel_rfl) (by simp) ?_
      refine AllReadyH.cons rfl (fun K hK => ?_) AllReadyH.nil
      go_simp
      refine (HNM.out W.drew ((Below.refl _ _).drew)).mono ?_
      rintro e w2 ⟨A2, n2, c2, rfl, hn2, -, -, ho2, hb2⟩
      have HB2 := Lib.hid (((Below.refl _ W).drew).trans (hb2.mono (Nat.le_refl _)))
      have HO2 := Lib.hid ho2
      have HN2 := Lib.hid hn2
      clear ho2 hb2 hn2
      have HS2 := Lib.hid (HL.out w2 HB2.out)
      go_wp2_with fail
      refine hK.out _ _ HS2.out (fun hHeld => ?_)
      clear hK K
      try simp only [Act.put, List.setIfInBounds_toArray, List.set_cons_zero, List.set_cons_succ]
      refine wpAnyH_ready (rs := [3]) (by kernel_rfl) (by simp) ?_
      refine AllReadyH.cons rfl (fun K hK => ?_) AllReadyH.nil
      go_simp
      refine (HCT.out A2 n2 c2 w2 HN2 HO2).mono ?_
      rintro e w3 ⟨⟨qc, rfl, hqc⟩, rfl⟩
      have HQC := Lib.hid hqc
      clear hqc
      go_wp2_with fail
      refine hK.out _ _ HS2.out (fun hHeld => ?_)
      clear hK K
      try simp only [Act.put, List.setIfInBounds_toArray, List.set_cons_zero, List.set_cons_succ]
      refine wpAnyH_done (by kernel_rfl) ?_ _
      refine NoPanic.normal ?_
      go_wp2_with fail
      go_meet
      case rel => exact ⟨_, rfl, HQC, HB2⟩
    case rest =>
      obtain ⟨qc, rfl, HQC, HBC⟩ := hcut
      obtain ⟨tn, htn⟩ : ∃ tn, tn = Disk.tmpOf N := ⟨_, rfl⟩
      rw [← htn] at HTT
      have htt : t.data.toList = tn := by rw [HTT.out]; rfl
      have hts : t.size ≤ maxLen := by rw [HTT.out, htn]; exact tmp_size (by rw [← HOK.out])
      have H4 := Lib.hid (H3.out.far HBC.out)
      have HIN : Hid (qc = true ↔ tn ∈ s.names) := Lib.hid (HQC.out.trans ⟨fun h => by obtain ⟨x, hx, he⟩ := List.mem_map.1 h; rw [← htt, ← he]; exact hx, fun h => List.mem_map.2 ⟨tn, h, by rw [HTT.out]; rfl⟩⟩)
      have HRM := Lib.hid (rm_any t hts (Lib.hid H4.out.disk) hf hk (by omega))
      rw [htt] at HRM
      obtain ⟨r2, hr2⟩ : ∃ r, r = s.remove tn := ⟨_, rfl⟩
      rw [← hr2] at HRM
      obtain ⟨s2, hs2⟩ : ∃ s2, s2 = if tn ∈ s.names then r2.1 else s := ⟨_, rfl⟩
      have HTN := Lib.hid htn
      have HTD := Lib.hid htt
      have HR2 := Lib.hid hr2
      have HS2 := Lib.hid hs2
      clear htn htt hr2 hs2 HQC HNM HCT HL
      go_upto_if 34 with fail
      go_cut [6] from 31 (fun v6 wc => v6 = .int .i64 0 ∧ (¬ (tn ∈ s.names ∧ r2.2 ≠ 0)) ∧ ∃ G2, Hid (Ed w wc F G2 d s2 (.slice A m c) r1.1 [(B8, #[.string t], 9), (B7, #[.slice A m c], 32), (w.heap.size + 1 + 1, #[.func (.func fn) #[] cap], 34), (w.heap.size + 1, #[.string n], 9), (w.heap.size, #[.pointer (some ⟨d, 0, none⟩)], 22)]))
      case first =>
        have c3 := H4.out.c0 (b := w.heap.size) (u := .pointer (some ⟨d, 0, none⟩)) (t := 22) (by simp)
        have c8 := H4.out.c0 (b := B8) (u := .string t) (t := 9) (by simp)
        cases qc
        · have hni : tn ∉ s.names := fun h => by have := HIN.out.2 h; revert this; simp
          go_wp2_with fail
          go_meet
          case rel => exact ⟨rfl, fun h => hni h.1, F, by rw [HS2.out, if_neg hni]; exact H4⟩
        · go_wp2_with fail
          refine HRM.out.mono ?_
          rintro e w4 hdc
          obtain ⟨he5, h5⟩ := H4.out.call hdc
          have H5 := Lib.hid h5
          obtain ⟨q2, hq2⟩ : ∃ q, q = r2.2 := ⟨_, rfl⟩
          rw [← hq2] at he5
          subst he5
          have HQ2 := Lib.hid hq2
          clear h5 hdc hq2
          by_cases hq20 : q2 = 0
          · have hq2b : (q2 != 0) = false := by rw [hq20]; rfl
            have hin : tn ∈ s.names := HIN.out.1 (by trivial)
            have HH5 : Hid (q2 = r2.2 ∧ s2 = r2.1) := Lib.hid ⟨HQ2.out, by rw [HS2.out, if_pos hin]⟩
            go_wp2_with fail
            go_meet
            case rel => exact ⟨rfl, fun h => h.2 (by rw [← HH5.out.1]; exact hq20), _, by rw [HH5.out.2]; exact H5⟩
          · have hq2b : (q2 != 0) = true := bne_iff_ne.2 hq20
            have hin : tn ∈ s.names := HIN.out.1 (by trivial)
            have HH5 := HQ2
            go_wp2_with fail
            refine ⟨_, results_tmp rfl _ _ _, ?_⟩
            rw [← HN.out]
            exact H5.out.refused (ahead_2 HOK.out.symm (by rw [← HR1.out, ← HQ1.out]; exact hq0) HTN.out HR2.out hin HH5.out hq20) hq20 Z R P
      case rest =>
        obtain ⟨rfl, HNR, G2, H5⟩ := hcut
        have hmf : ∀ (fn : Fn) (first cap : Array Value) (w : World), (Instr.makeFunc fn first cap).run Try.prog w = .ok (.func fn first cap) w := fun _ _ _ _ => rfl
        have HA3 := Lib.hid (ahead_3 HOK.out.symm (by rw [← HR1.out, ← HQ1.out]; exact hq0) HTN.out HR2.out HNR HS2.out)
        have hf2 : Hid (Disk.Fine s2) := Lib.hid (by rw [HS2.out, HR2.out]; split; exact Disk.fine_act hf.out (.remove tn); exact hf.out)
        have hk2 : Hid (Disk.Small (k + 1) s2) := Lib.hid (by rw [HS2.out, HR2.out]; split; exact Disk.small_act hk.out (.remove tn); exact Disk.small_mono hk.out (by omega))
        have HMK := Lib.hid (make_any t hts (Lib.hid H5.out.disk) hf2 hk2 (by omega))
        rw [HTD.out] at HMK
        have c3 := H5.out.c0 (b := w.heap.size) (u := .pointer (some ⟨d, 0, none⟩)) (t := 22) (by simp)
        have c8 := H5.out.c0 (b := B8) (u := .string t) (t := 9) (by simp)
        obtain ⟨r3, hr3⟩ : ∃ r, r = s2.make tn := ⟨_, rfl⟩
        rw [← hr3] at HMK HA3
        have hf3 : Hid (Disk.Fine r3.1) := Lib.hid (by rw [hr3]; exact Disk.fine_act hf2.out (.make tn))
        have hk3 : Hid (Disk.Small (k + 2) r3.1) := Lib.hid (by rw [hr3]; exact Disk.small_act hk2.out (.make tn))
        have HNR' := Lib.hid HNR
        clear hr3 HNR HRM HBC H4 H3
        go_wp2_with fail
        refine HMK.out.mono ?_
        rintro e w5 hdc
        obtain ⟨he5, h5⟩ := H5.out.call hdc
        have H6 := Lib.hid h5
        obtain ⟨q3, hq3⟩ : ∃ q, q = r3.2 := ⟨_, rfl⟩
        rw [← hq3] at he5
        subst he5
        have HQ3 := Lib.hid hq3
        clear h5 hdc hq3 c3 c8
        by_cases hq30 : q3 = 0
        · have hq3b : (q3 != 0) = false := by rw [hq30]; rfl
          rw [hq30] at HQ3
          have HA0 : (s.ahead N).2 = 0 := by rw [HA3.out]; exact HQ3.out.symm
          have HS1 : (s.ahead N).1 = r3.1 := by rw [HA3.out]
          rw [← HN.out, HS1] at hR hRf hRk
          rw [← HN.out, HS1] at hRl
          rw [← HR1.out, ← HTN.out] at hR
          have htl : tn.length ≤ maxLen := by rw [← HTD.out]; exact hts
          have HMADE := Lib.hid (H6.out.made (t := tn) #[f0V (w.heap.size + 1 + 1) B7 (w5.heap.size + 1 + 1), f1V (w5.heap.size + 1), f2V w.heap.size B8, f3V w.heap.size B8 (w.heap.size + 1)] HTT.out (Nat.ne_of_lt HB.out))
          have HF := Lib.hid (edFirst_any (w5.heap.size + 1 + 1 + 1) (w.heap.size + 1 + 1) B7 (w5.heap.size + 1 + 1) (w.heap.size + 1) n hn fn cap he A m c HM.out HMADE.out (by simp) (by simp) (by simp) (by simp) (by simp) (by simp) hZ htl R hP hR.out hRf.out hRk.out hkr hRl)
          unfold f0V f1V f2V f3V sinkV at HF
          have HA00 := Lib.hid HA0
          clear HA0
          have HNW := Lib.hid (outsNew_any w.heap.size B8 (w5.alloc (.cells #[.bool false] 4)))
          unfold sinkV at HNW
          go_wp2_with fail
          refine HNW.out.mono ?_
          rintro e w6 ⟨rfl, rfl⟩
          go_wp2_with fail
          refine HF.out.mono ?_
          rintro e w7 ⟨he7, ou7, hj⟩
          have HJ := Lib.hid hj
          obtain ⟨q7, hq7⟩ : ∃ q, q = (Disk.St.behindRun tn n.data.toList (R r3.1)).2 := ⟨_, rfl⟩
          rw [← hq7] at he7
          subst he7
          have HQ7 := Lib.hid hq7
          clear hj hq7 HF HMADE HNW
          by_cases hq70 : q7 = 0
          · have hq7b : (q7 != 0) = false := by rw [hq70]; rfl
            have c10 := HJ.out.c0 (b := w5.heap.size) (u := .bool false) (ty := 4) (by simp)
            have f10 := HJ.out.free (x := (w5.heap.size, #[.bool false], 4)) (by simp) 0
            have HJ8 := Lib.hid ((HJ.out.sub (l' := [(w5.heap.size, #[.bool false], 4)]) (by simp)).set hP (by simp) (.bool true))
            have c3 := HJ8.out.bd
            have HSD := Lib.hid (HJ8.out.calls hP (f := 40) (args := #[.pointer (some ⟨d, 0, none⟩)]) (r := ((Disk.St.behindRun tn n.data.toList (R r3.1)).1.syncDir.1, ou7, (Disk.St.behindRun tn n.data.toList (R r3.1)).1.syncDir.2)) fun G hG => hG.calls fun F' hF' => syncDir_any (Lib.hid hF') (Lib.hid (Disk.fine_behind hRf.out)) (Lib.hid (Disk.small_behind hRk.out)) (by omega))
            go_wp2_with fail
            refine HSD.out.mono ?_
            rintro e w8 ⟨rfl, h8⟩
            have H8 := Lib.hid h8
            clear h8
            go_wp2_with fail
            refine leaves_cons (f := 29) (args := #[.pointer (some ⟨w5.heap.size, 0, none⟩), .pointer (some ⟨w.heap.size, 0, none⟩), .pointer (some ⟨B8, 0, none⟩)]) (by simp) (by simp [go_sem]) ?_
            refine (undo_not w5.heap.size (H8.out.c0 (b := w5.heap.size) (u := .bool true) (ty := 4) (by simp)) _).mono ?_
            rintro e u' w9 ⟨rfl, rfl, h9⟩
            refine ⟨_, results_tmp rfl _ _ _, ?_⟩
            refine (H8.out.far hP h9).post (by rw [← HN.out]; exact HA00.out) ?_
            rw [← HN.out, edit_0 HA00.out, HA3.out, ← HTN.out]
            unfold Disk.St.ends
            rw [if_neg (by rw [HN.out, ← HQ7.out, hq70]; simp), HN.out]
          · have hq7b : (q7 != 0) = true := bne_iff_ne.2 hq70
            go_wp2_with fail
            refine leaves_cons (f := 29) (args := #[.pointer (some ⟨w5.heap.size, 0, none⟩), .pointer (some ⟨w.heap.size, 0, none⟩), .pointer (some ⟨B8, 0, none⟩)]) (by simp) (by simp [go_sem]) ?_
            refine (HJ.out.undo hP (bR := w5.heap.size) (by simp) (Disk.fine_behind hRf.out) (Disk.small_behind hRk.out) (by omega) htl _).mono ?_
            rintro e u' w9 ⟨rfl, rfl, h9⟩
            refine ⟨_, results_tmp rfl _ _ _, ?_⟩
            refine h9.post (by rw [← HN.out]; exact HA00.out) ?_
            rw [← HN.out, edit_0 HA00.out, HA3.out, ← HTN.out]
            unfold Disk.St.ends
            rw [if_pos (by rw [HN.out, ← HQ7.out]; exact hq70), HN.out, ← HQ7.out]
        · have hq3b : (q3 != 0) = true := bne_iff_ne.2 hq30
          go_wp2_with fail
          refine ⟨_, results_tmp rfl _ _ _, ?_⟩
          rw [← HN.out]
          exact H6.out.refused (by rw [HA3.out, HQ3.out]) hq30 Z R P
  · have hq0b : (q1 != 0) = true := bne_iff_ne.2 hq0
    go_wp2_with fail
    refine ⟨_, results_tmp rfl _ _ _, ?_⟩
    rw [← HN.out]
    exact H3.out.refused (by unfold Disk.St.ahead; rw [if_neg (by rw [← HOK.out]; simp), if_pos (by rw [← HR1.out, ← HQ1.out]; exact hq0), ← HR1.out, ← HQ1.out]) hq0 Z R P
end
end Go.Proofs.Ytfommpbblpnljaa
