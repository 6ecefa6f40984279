/- Texts that lead to the claim, one behind the other: What a run of galleylaw30.Case holds: its record, the disk and the output. No conditions. | Rows of bytes in memory of their own that are read and turned one by one. No conditions. | Bounds of a run's steps, in lists. No program in sight. No conditions. -/
import Derived.Test.YtfommpbblpnljaaWH35
import Derived.Test.YtfommpbblpnljaaWH40
import Derived.Test.YtfommpbblpnljaaWH42
import Derived.Test.YtfommpbblpnljaaWH32
namespace Go.Proofs.Ytfommpbblpnljaa
open Go.RowKit Go.ChangeShapes Go.WideShapes Go.Deep

/-- The record at x: how often it was called, all that it has written; its blocks Z. -/
structure RunRec (w : World) (Z : Blocks) (x : Nat) (calls : Nat) (whole : List UInt8) (bv av wv : Value) (an : List Value) (sp : Bool) : Prop where
  at_ : w.heap[x]? = some (.cells #[.int .i64 calls, bv, av, wv, .bool sp] 54 (0, 0))
  bone : ∃ A n c, bv = .slice A n c
  ans : Own Rep.one1 30 w 0 nob av an
  who : Own Rep.byte 5 w 0 nob wv whole
  zx : Z x
  za : ∀ b, av.ownBlock = some b → Z b
  zw : ∀ b, wv.ownBlock = some b → Z b
  lt : ∀ b, Z b → b < w.heap.size
section
variable {w w' : World} {Z : Blocks} {x : Nat} {calls : Nat} {whole : List UInt8} {bv av wv : Value} {an : List Value} {sp : Bool}
theorem RunRec.same (h : RunRec w Z x calls whole bv av wv an sp) (hs : Same Z w w') (hz : w.heap.size ≤ w'.heap.size) : RunRec w' Z x calls whole bv av wv an sp := by
  have hr : ∀ {α : Type} {r : Rep α} {e : TypeId} {v : Value} {l : List α}, Own r e w 0 nob v l → (∀ b, v.ownBlock = some b → Z b) → Own r e w' 0 nob v l := by
    intro α r e v l h2 hb
    obtain ⟨xs, hx, hS, h1, hr⟩ := h2
    refine ⟨xs, ⟨hx.1, ?_⟩, fun _ h => h.elim, h1, fun i hi => r.keep (hr i hi) (fun _ h => h) fun _ h => h.elim⟩
    rcases hx.2 with h | ⟨g, cap, cur, rfl, hb', hg, rest⟩
    · exact .inl h
    · exact .inr ⟨g, cap, cur, rfl, hb', (hs g (hb g rfl)).trans hg, rest⟩
  exact { h with at_ := (hs x h.zx).trans h.at_, ans := hr h.ans h.za, who := hr h.who h.zw, lt := fun b hb => Nat.lt_of_lt_of_le (h.lt b hb) hz }
theorem RunRec.cell (h : RunRec w Z x calls whole bv av wv an sp) (i : Nat) : w.cell? ⟨x, i, none⟩ = (#[.int .i64 calls, bv, av, wv, .bool sp] : Array Value)[i]? := cell_of_row w x i _ _ (0, 0) h.at_
theorem RunRec.free (h : RunRec w Z x calls whole bv av wv an sp) (i : Nat) : w.frozen? ⟨x, i, none⟩ = false := by simp [World.frozen?, h.at_]
theorem RunRec.ne {α : Type} {r : Rep α} {e : TypeId} {v : Value} {l : List α} (h : RunRec w Z x calls whole bv av wv an sp) (ho : Own r e w 0 nob v l) (he : e ≠ 54) : v.ownBlock ≠ some x := fun hb => by
  obtain ⟨cur, hc⟩ := ho.content hb
  exact ne_cells hc h.at_ he rfl
theorem RunRec.av_wv (h : RunRec w Z x calls whole bv av wv an sp) : ∀ b, av.ownBlock = some b → wv.ownBlock ≠ some b := fun _ h1 h2 => by
  obtain ⟨cur, hc⟩ := h.ans.content h1
  obtain ⟨cur', hc'⟩ := h.who.content h2
  exact ne_cells hc hc' (by decide) rfl
theorem own_setx {α : Type} {r : Rep α} {e : TypeId} {v : Value} {l : List α} (ho : Own r e w 0 nob v l) (hn : v.ownBlock ≠ some x) (i : Nat) (u : Value) : Own r e (w.setCell ⟨x, i, none⟩ u) 0 nob v l :=
  ho.only (Only.setCell (Only.refl (fun b => b = x) w) (.inl rfl) u) fun _ hb e => hn (e ▸ hb)
/-- A cell of the record is written. -/
theorem RunRec.setCalls (h : RunRec w Z x calls whole bv av wv an sp) (k : Nat) : RunRec (w.setCell ⟨x, 0, none⟩ (.int .i64 k)) Z x k whole bv av wv an sp :=
  { h with at_ := by simp [World.setCell, Array.getElem?_modify, h.at_], ans := own_setx h.ans (h.ne h.ans (by decide)) _ _, who := own_setx h.who (h.ne h.who (by decide)) _ _, lt := fun b hb => by simpa [World.setCell] using h.lt b hb }
theorem RunRec.setBytes (h : RunRec w Z x calls whole bv av wv an sp) (A : Option Addr) (n c : Nat) : RunRec (w.setCell ⟨x, 1, none⟩ (.slice A n c)) Z x calls whole (.slice A n c) av wv an sp :=
  { h with at_ := by simp [World.setCell, Array.getElem?_modify, h.at_], bone := ⟨A, n, c, rfl⟩, ans := own_setx h.ans (h.ne h.ans (by decide)) _ _, who := own_setx h.who (h.ne h.who (by decide)) _ _, lt := fun b hb => by simpa [World.setCell] using h.lt b hb }
theorem RunRec.setSpare (h : RunRec w Z x calls whole bv av wv an sp) (q : Bool) : RunRec (w.setCell ⟨x, 4, none⟩ (.bool q)) Z x calls whole bv av wv an q :=
  { h with at_ := by simp [World.setCell, Array.getElem?_modify, h.at_], ans := own_setx h.ans (h.ne h.ans (by decide)) _ _, who := own_setx h.who (h.ne h.who (by decide)) _ _, lt := fun b hb => by simpa [World.setCell] using h.lt b hb }
/-- More has been written. -/
theorem RunRec.setWhole (h : RunRec w Z x calls whole bv av wv an sp) {w1 : World} {l : List UInt8} {A : Option Addr} {n c : Nat} (ho : Own Rep.byte 5 w1 0 nob (.slice A n c) (whole ++ l)) (hg : w.grownBy w1 wv.ownBlock) (hat : (Value.slice A n c).ownBlock = wv.ownBlock ∨ (Value.slice A n c).ownBlock = some w.heap.size) :
    RunRec (w1.setCell ⟨x, 3, none⟩ (.slice A n c)) (fun b => Z b ∨ (w.heap.size ≤ b ∧ b < w1.heap.size)) x calls (whole ++ l) bv av (.slice A n c) an sp ∧ Only Z w (w1.setCell ⟨x, 3, none⟩ (.slice A n c)) := by
  have hx1 : w1.heap[x]? = w.heap[x]? := hg.block x (h.lt x h.zx) fun e => h.ne h.who (by decide) e.symm
  have hat1 : w1.heap[x]? = some (.cells #[.int .i64 calls, bv, av, wv, .bool sp] 54 (0, 0)) := hx1.trans h.at_
  have hans1 : Own Rep.one1 30 w1 0 nob av an := h.ans.mono hg (by
    cases e : av.ownBlock with
    | none => exact .inl rfl
    | some b => exact .inr fun e2 => h.av_wv b e e2.symm) fun _ h => h.elim
  have hne1 : av.ownBlock ≠ some x := h.ne h.ans (by decide)
  have hne2 : (Value.slice A n c).ownBlock ≠ some x := fun hb => by
    obtain ⟨cur, hc⟩ := ho.content hb
    exact ne_cells hc hat1 (by decide) rfl
  refine ⟨⟨by simp [World.setCell, Array.getElem?_modify, hat1], h.bone, own_setx hans1 hne1 _ _, own_setx ho hne2 _ _, .inl h.zx, fun b hb => .inl (h.za b hb), fun b hb => ?_, fun b hb => ?_⟩, ?_⟩
  · rcases hat with e | e
    · exact .inl (h.zw b (e ▸ hb))
    · have := (ho.block_lt hb).2
      rw [e] at hb; cases hb; exact .inr ⟨Nat.le_refl _, this⟩
  · rcases hb with hb | hb
    · simpa [World.setCell] using Nat.lt_of_lt_of_le (h.lt b hb) hg.size
    · simpa [World.setCell] using hb.2
  · exact (Only.of_grown hg Z fun b hb => h.zw b hb.symm).setCell (.inl h.zx) _
/-- One more answer. -/
theorem RunRec.setAns (h : RunRec w Z x calls whole bv av wv an sp) {w1 : World} {u : Value} {A : Option Addr} {n c : Nat} (ho : Own Rep.one1 30 w1 0 nob (.slice A n c) (an ++ [u])) (hg : w.grownBy w1 av.ownBlock) (hat : (Value.slice A n c).ownBlock = av.ownBlock ∨ ∃ b, (Value.slice A n c).ownBlock = some b ∧ w.heap.size ≤ b) :
    RunRec (w1.setCell ⟨x, 2, none⟩ (.slice A n c)) (fun b => Z b ∨ (w.heap.size ≤ b ∧ b < w1.heap.size)) x calls whole bv (.slice A n c) wv (an ++ [u]) sp ∧ Only Z w (w1.setCell ⟨x, 2, none⟩ (.slice A n c)) := by
  have hx1 : w1.heap[x]? = w.heap[x]? := hg.block x (h.lt x h.zx) fun e => h.ne h.ans (by decide) e.symm
  have hat1 : w1.heap[x]? = some (.cells #[.int .i64 calls, bv, av, wv, .bool sp] 54 (0, 0)) := hx1.trans h.at_
  have hwho1 : Own Rep.byte 5 w1 0 nob wv whole := h.who.mono hg (by
    cases e : wv.ownBlock with
    | none => exact .inl rfl
    | some b => exact .inr fun e2 => h.av_wv b e2.symm e) fun _ h => h.elim
  have hne1 : wv.ownBlock ≠ some x := h.ne h.who (by decide)
  have hne2 : (Value.slice A n c).ownBlock ≠ some x := fun hb => by
    obtain ⟨cur, hc⟩ := ho.content hb
    exact ne_cells hc hat1 (by decide) rfl
  refine ⟨⟨by simp [World.setCell, Array.getElem?_modify, hat1], h.bone, own_setx ho hne2 _ _, own_setx hwho1 hne1 _ _, .inl h.zx, fun b hb => ?_, fun b hb => .inl (h.zw b hb), fun b hb => ?_⟩, ?_⟩
  · rcases hat with e | ⟨b', e, hb'⟩
    · exact .inl (h.za b (e ▸ hb))
    · have := (ho.block_lt hb).2
      rw [e] at hb; cases hb; exact .inr ⟨hb', this⟩
  · rcases hb with hb | hb
    · simpa [World.setCell] using Nat.lt_of_lt_of_le (h.lt b hb) hg.size
    · simpa [World.setCell] using hb.2
  · exact (Only.of_grown hg Z fun b hb => h.za b hb.symm).setCell (.inl h.zx) _
end
/-- A run under way: since its call the blocks G0 (disk, output), Z0 (record) and rb (the bytes that it was handed) may have turned. -/
structure RS (W0 W : World) (G0 Z0 G Z : Blocks) (rb : Option Nat) (d : Nat) (s : Disk.St) (t : Disk.Nm) (o dB tB : Nat) (ou : Disk.Ou) (x calls : Nat) (whole : List UInt8) (bv av wv : Value) (an : List Value) (sp : Bool) : Prop where
  out : OutS W G d s t o dB tB ou
  rc : RunRec W Z x calls whole bv av wv an sp
  gs : ∀ b, G b → G0 b ∨ W0.heap.size ≤ b
  zs : ∀ b, Z b → Z0 b ∨ W0.heap.size ≤ b
  apart : ∀ b, Z b → ¬ G b
  only : Only (fun b => G0 b ∨ Z0 b ∨ rb = some b) W0 W
section
variable {W0 W W' : World} {G0 Z0 G Z : Blocks} {rb : Option Nat} {d : Nat} {s : Disk.St} {t : Disk.Nm} {o dB tB : Nat} {ou : Disk.Ou} {x calls : Nat} {whole : List UInt8} {bv av wv : Value} {an : List Value} {sp : Bool}
theorem OutS.calls' (h : OutS W G d s t o dB tB ou) {f : FuncId} {args : Array Value} {r : Disk.St × Int} (hc : ∀ F, DiskAt W F d s → (∀ b, F b → G b) → Calls Try.prog f args W (DiskCall W F d r)) : Calls Try.prog f args W (OutCall W G d t o dB tB (r.1, ou, r.2)) := by
  obtain ⟨F, X, A, c, cnt, h⟩ := h
  refine (hc F h.disk h.gf).mono ?_
  rintro e w' hd
  obtain ⟨h1, h2, h3⟩ := h.call hd
  exact ⟨h1, h2.at_, h3⟩
theorem RS.else_ (h : RS W0 W G0 Z0 G Z rb d s t o dB tB ou x calls whole bv av wv an sp) {K : Blocks} (ho : Only K W W') (hk : ∀ b, K b → ¬ G b ∧ ¬ Z b ∧ (rb = some b ∨ W0.heap.size ≤ b)) : RS W0 W' G0 Z0 G Z rb d s t o dB tB ou x calls whole bv av wv an sp :=
  ⟨h.out.only ho fun b hb => (hk b hb).1, h.rc.same (ho.same fun b hb => ⟨h.rc.lt b hb, fun e => (hk b e).2.1 hb⟩) ho.size, h.gs, h.zs, h.apart, h.only.trans ho fun b hb => (hk b hb).2.2.imp (fun e => .inr (.inr e)) id⟩
theorem RS.mid (h : RS W0 W G0 Z0 G Z rb d s t o dB tB ou x calls whole bv av wv an sp) (ho : Only Z W W') : Only (fun b => G0 b ∨ Z0 b ∨ rb = some b) W0 W' := h.only.trans ho fun b hb => (h.zs b hb).imp (fun e => .inr (.inl e)) id
theorem RunRec.stay {w w1 : World} (h : RunRec w Z x calls whole bv av wv an sp) {row : Option Nat} (hg : w.grownBy w1 row) (hr : row ≠ some x) : w1.heap[x]? = some (.cells #[.int .i64 calls, bv, av, wv, .bool sp] 54 (0, 0)) :=
  (hg.block x (h.lt x h.zx) fun e => hr e.symm).trans h.at_
theorem RS.far (h : RS W0 W G0 Z0 G Z rb d s t o dB tB ou x calls whole bv av wv an sp) (hb : Below W.heap.size W W') : RS W0 W' G0 Z0 G Z rb d s t o dB tB ou x calls whole bv av wv an sp :=
  h.else_ (Only.of_below hb (fun _ => False)) fun _ h => h.elim
theorem RS.out_ (h : RS W0 W G0 Z0 G Z rb d s t o dB tB ou x calls whole bv av wv an sp) {r : Disk.St × Disk.Ou × Int} {e : Ending} (hc : OutCall W G d t o dB tB r e W') : e = .returned (.int .i64 r.2.2) ∧ RS W0 W' G0 Z0 (grow G W W') Z rb d r.1 t o dB tB r.2.1 x calls whole bv av wv an sp := by
  refine ⟨hc.1, hc.2.1, h.rc.same (hc.2.2.same fun b hb => ⟨h.rc.lt b hb, h.apart b hb⟩) hc.2.2.size, fun b hb => hb.elim (h.gs b) fun hb => .inr (Nat.le_trans h.only.size hb.1), h.zs, fun b hb hg => hg.elim (h.apart b hb) fun hg => ?_, h.only.trans hc.2.2 fun b hb => (h.gs b hb).imp .inl id⟩
  have := h.rc.lt b hb; have := hg.1; omega
theorem RS.rec_ (h : RS W0 W G0 Z0 G Z rb d s t o dB tB ou x calls whole bv av wv an sp) {Z' : Blocks} {calls' : Nat} {whole' : List UInt8} {bv' av' wv' : Value} {an' : List Value} {sp' : Bool} (hr : RunRec W' Z' x calls' whole' bv' av' wv' an' sp') (ho : Only Z W W') (hz : ∀ b, Z' b → Z b ∨ W.heap.size ≤ b) : RS W0 W' G0 Z0 G Z' rb d s t o dB tB ou x calls' whole' bv' av' wv' an' sp' := by
  refine ⟨h.out.only ho h.apart, hr, h.gs, fun b hb => (hz b hb).elim (h.zs b) fun hb => .inr (Nat.le_trans h.only.size hb), fun b hb hg => (hz b hb).elim (fun hb => h.apart b hb hg) fun hb => ?_, h.only.trans ho fun b hb => (h.zs b hb).imp (fun e => .inr (.inl e)) id⟩
  have := h.out.lt b hg; omega
end
end Go.Proofs.Ytfommpbblpnljaa
namespace Go.Proofs.Ytfommpbblpnljaa
open Go.RowKit Go.ChangeShapes Go.WideShapes Go.Deep

/-- The rows of ps with marks behind them, of which the first k may have turned; row i lies in block blk i, the list of rows in block g; all of them between base and hi. -/
structure WX (w : World) (base hi g : Nat) (ps : List (List UInt8)) (blk : Nat → Nat) (k : Nat) : Prop where
  typed : ∃ cur, w.heap[g]? = some (.cells cur 32 (0, 0))
  gin : base ≤ g ∧ g < hi
  at_ : ∀ i (hp : i < ps.length), w.cell? ⟨g, i, none⟩ = some (.slice (some ⟨blk i, 0, none⟩) ps[i].length (ps[i].length + 64)) ∧ base ≤ blk i ∧ blk i < hi
  row : ∀ i (hp : i < ps.length), ∃ l, l.length = ps[i].length + 64 ∧ Own Rep.byte 5 w 0 nob (.slice (some ⟨blk i, 0, none⟩) (ps[i].length + 64) (ps[i].length + 64)) l ∧ (k ≤ i → l = ps[i] ++ marksW ps[i].length)
  inj : ∀ i j, i < ps.length → j < ps.length → blk i = blk j → i = j
section
variable {w w' : World} {base hi g n k : Nat} {ps : List (List UInt8)} {rs : List WR} {blk : Nat → Nat}
theorem Wides.wx (h : Wides w base g n ps rs (n + 64)) (hn : n = ps.length) : WX w base w.heap.size g ps (fun i => ((rs[i]?).getD (0, 0, [])).1) 0 := by
  have hl : ∀ i, i < ps.length → i < rs.length := fun i hi => by rw [h.len]; omega
  have he : ∀ i (hi : i < ps.length), (rs[i]?).getD (0, 0, []) = rs[i]'(hl i hi) := fun i hi => by rw [List.getElem?_eq_getElem (hl i hi)]; rfl
  have hw := fun i (hi : i < ps.length) => h.wide i (hl i hi) (by omega) hi
  have hfl : ∀ i (hi : i < ps.length), (rs[i]'(hl i hi)).2.2.length = ps[i].length + 64 := fun i hi => by rw [(hw i hi).2, List.length_append, marksW_len]
  refine ⟨h.row.content rfl, h.lt, fun i hi => ?_, fun i hi => ?_, fun i j hi hj e => ?_⟩
  · skip
    rw [he i hi]
    have hc := h.cell i (hl i hi)
    unfold WR.val at hc
    rw [(hw i hi).1, hfl i hi] at hc
    exact ⟨hc, (h.rows _ (List.getElem_mem _)).lt⟩
  · have hr := (h.rows _ (List.getElem_mem (hl i hi))).1

    rw [he i hi]
    rw [hfl i hi] at hr
    exact ⟨_, hfl i hi, hr.low (Nat.zero_le _), fun _ => (hw i hi).2⟩
  · skip
    rw [he i hi, he j hj] at e
    have h1 : (rs.map (·.1))[i]'(by simpa using hl i hi) = (rs.map (·.1))[j]'(by simpa using hl j hj) := by simpa using e
    exact (List.getElem_inj h.apart).1 h1
/-- Blocks of other things turned. -/
theorem WX.only (h : WX w base hi g ps blk k) {F : Blocks} (ho : Only F w w') (hF : ∀ b, base ≤ b → b < hi → ¬ F b) (hhi : hi ≤ w.heap.size) : WX w' base hi g ps blk k := by
  have hb : ∀ b, base ≤ b → b < hi → w'.heap[b]? = w.heap[b]? := fun b h1 h2 => ho.block b (Nat.lt_of_lt_of_le h2 hhi) (hF b h1 h2)
  obtain ⟨cur, hc⟩ := h.typed
  refine ⟨⟨cur, (hb g h.gin.1 h.gin.2).trans hc⟩, h.gin, fun i hp => ?_, fun i hp => ?_, h.inj⟩
  · obtain ⟨h1, h2, h3⟩ := h.at_ i hp
    refine ⟨?_, h2, h3⟩
    rw [← h1]
    simp [World.cell?, hb g h.gin.1 h.gin.2]
  · obtain ⟨l, h1, h2, h3⟩ := h.row i hp
    obtain ⟨-, h4, h5⟩ := h.at_ i hp
    exact ⟨l, h1, h2.only ho fun b e => by simp only [Value.ownBlock, Option.some.injEq] at e; subst e; exact hF _ h4 h5, h3⟩
theorem WX.far (h : WX w base hi g ps blk k) (hb : Below w.heap.size w w') (hhi : hi ≤ w.heap.size) : WX w' base hi g ps blk k :=
  h.only (Only.of_below hb (fun _ => False)) (fun _ _ _ h => h) hhi
/-- A row that has not turned yet reads as it was handed in. -/
theorem WX.slice (h : WX w base hi g ps blk k) (i : Nat) (hp : i < ps.length) (hk : k ≤ i) : SliceAt Rep.byte w (fun b => b = blk i) (some ⟨blk i, 0, none⟩) (ps[i].length + 64) ps[i] := by
  obtain ⟨l, h1, h2, h3⟩ := h.row i hp
  obtain ⟨A3, c3, he3, hs3⟩ := h2.slice
  simp only [Value.slice.injEq] at he3
  obtain ⟨rfl, -, rfl⟩ := he3
  have h4 := hs3.cutTo (j := ps[i].length) (by omega)
  rw [h3 hk, List.take_left'  rfl] at h4
  exact h4.up fun b hb => by
    rcases hb with ⟨-, -, e⟩ | hb
    · simpa [Value.ownBlock] using e
    · exact hb.elim
/-- One row turned. -/
theorem WX.turn (h : WX w base hi g ps blk k) (hk : k < ps.length) (hhi : hi ≤ w.heap.size) (ho : Only (fun b => b = blk k) w w') (hr : ∃ l, l.length = ps[k].length + 64 ∧ Own Rep.byte 5 w' 0 nob (.slice (some ⟨blk k, 0, none⟩) (ps[k].length + 64) (ps[k].length + 64)) l) : WX w' base hi g ps blk (k + 1) := by
  obtain ⟨cur, hc⟩ := h.typed
  obtain ⟨l0, -, ho0, -⟩ := h.row k hk
  obtain ⟨cur2, hc2⟩ := ho0.content (b := blk k) rfl
  have hne : g ≠ blk k := fun e => by
    rw [e, hc2] at hc
    injection hc with hc
    injection hc with _ e2
    exact absurd e2 (by decide)
  have hg : w'.heap[g]? = w.heap[g]? := ho.block g (Nat.lt_of_lt_of_le h.gin.2 hhi) hne
  refine ⟨⟨cur, hg.trans hc⟩, h.gin, fun i hp => ?_, fun i hp => ?_, h.inj⟩
  · obtain ⟨h1, h2, h3⟩ := h.at_ i hp
    refine ⟨?_, h2, h3⟩
    rw [← h1]
    simp [World.cell?, hg]
  · by_cases hik : i = k
    · subst hik
      obtain ⟨l, h1, h2⟩ := hr
      exact ⟨l, h1, h2, fun e => absurd e (by omega)⟩
    · obtain ⟨l, h1, h2, h3⟩ := h.row i hp
      exact ⟨l, h1, h2.only ho fun b e e2 => by
        simp only [Value.ownBlock, Option.some.injEq] at e
        exact hik (h.inj i k hp hk (e.trans e2)), fun e => h3 (by omega)⟩
theorem WX.other (h : WX w base hi g ps blk k) (hk : k < ps.length) (hhi : hi ≤ w.heap.size) (ho : Only (fun b => b = blk k) w w') {i : Nat} (hp : i < ps.length) : w'.cell? ⟨g, i, none⟩ = some (.slice (some ⟨blk i, 0, none⟩) ps[i].length (ps[i].length + 64)) := by
  obtain ⟨cur, hc⟩ := h.typed
  obtain ⟨l0, -, ho0, -⟩ := h.row k hk
  obtain ⟨cur2, hc2⟩ := ho0.content (b := blk k) rfl
  have hne : g ≠ blk k := fun e => by
    rw [e, hc2] at hc
    injection hc with hc
    injection hc with _ e2
    exact absurd e2 (by decide)
  have hg : w'.heap[g]? = w.heap[g]? := ho.block g (Nat.lt_of_lt_of_le h.gin.2 hhi) hne
  rw [← (h.at_ i hp).1]
  simp [World.cell?, hg]
end
end Go.Proofs.Ytfommpbblpnljaa
namespace Go.Proofs.Ytfommpbblpnljaa
namespace Disk

/-- What a step costs at most. -/
def ActV.weight (a : ActV) : Nat := 2 + a.parts.length + a.parts.flatten.length
def wsum (l : List ActV) : Nat := (l.map ActV.weight).sum
theorem wsum_take {l : List ActV} {i : Nat} (hi : i < l.length) : wsum (l.take (i + 1)) = wsum (l.take i) + l[i].weight := by
  unfold wsum
  rw [List.take_add_one, List.getElem?_eq_getElem hi, List.map_append, List.sum_append]
  simp
theorem wsum_ge : ∀ l : List ActV, l.length ≤ wsum l
  | [] => Nat.le_refl _
  | a :: r => by
    have := wsum_ge r
    unfold wsum ActV.weight at *
    simp only [List.map_cons, List.sum_cons, List.length_cons]
    omega
theorem part_le {l : List (List UInt8)} {p : List UInt8} (h : p ∈ l) : p.length ≤ l.flatten.length := (List.sublist_flatten_of_mem h).length_le
theorem weight_le {a : ActV} {l : List ActV} {i : Nat} (hi : i < l.length) (h : l[i] = a) : a.weight + wsum (l.take i) ≤ wsum l := by
  have h1 := wsum_take hi
  have h2 : wsum (l.take (i + 1)) ≤ wsum l := by
    unfold wsum
    conv => rhs; rw [← List.take_append_drop (i + 1) l, List.map_append, List.sum_append]
    omega
  rw [h] at h1
  omega
theorem wsum_le (l : List ActV) (i : Nat) : wsum (l.take i) ≤ wsum l := by
  unfold wsum
  conv => rhs; rw [← List.take_append_drop i l, List.map_append, List.sum_append]
  omega
theorem fine_putGo {n : Nm} : ∀ (l : List (List UInt8)) {s : St}, Fine s → Fine (s.putGo n l).1
  | [], _, h => h
  | p :: r, s, h => by
    have h1 := fine_act h (.append n p)
    unfold St.putGo
    split
    · exact h1
    · exact fine_putGo r h1
theorem small_putGo {n : Nm} : ∀ (l : List (List UInt8)) {k : Nat} {s : St}, Small k s → Small (k + l.length) (s.putGo n l).1
  | [], _, _, h => h
  | p :: r, k, s, h => by
    have h1 := small_act h (.append n p)
    unfold St.putGo
    split
    · exact small_mono h1 (by rw [List.length_cons]; omega)
    · have : Small (k + 1 + r.length) ((s.append n p).1.putGo n r).1 := small_putGo r h1
      rw [List.length_cons, show k + (r.length + 1) = k + 1 + r.length by omega]
      exact this
theorem fine_puts {s : St} {n : Nm} {l : List (List UInt8)} (h : Fine s) : Fine (s.puts n l).1 := by
  have h1 := fine_act h (.make n)
  unfold St.puts
  split
  · split
    · exact h1
    · exact fine_putGo l h1
  · exact fine_putGo l h
theorem small_puts {s : St} {n : Nm} {l : List (List UInt8)} {k : Nat} (h : Small k s) : Small (k + 1 + l.length) (s.puts n l).1 := by
  have h1 := small_act h (.make n)
  unfold St.puts
  split
  · split
    · exact small_mono h1 (by omega)
    · exact small_putGo l h1
  · exact small_mono (small_putGo l h) (by omega)
section
variable {s : St} {c t : Nm} {ou : Ou} {w : List UInt8} {a : ActV}
theorem fine_step (h : Fine s) : Fine (s.actStep c t ou w a).1 := by
  unfold St.actStep
  split
  · exact fine_ouWrite h _ _ _
  · split
    · exact fine_ouFlush h _ _
    · split
      · exact fine_puts h
      · split
        · exact fine_act h (.sync (other c a.name))
        · split
          · exact h
          · split <;> exact h
theorem small_step {k : Nat} (h : Small k s) : Small (k + a.weight) (s.actStep c t ou w a).1 := by
  have hw : 2 + a.parts.length ≤ a.weight := by unfold ActV.weight; omega
  unfold St.actStep
  split
  · exact small_mono (small_ouWrite h _ _ _) (by omega)
  · split
    · exact small_mono (small_ouFlush h _ _) (by omega)
    · split
      · exact small_mono (small_puts h) (by omega)
      · split
        · exact small_mono (small_act h (.sync (other c a.name))) (by omega)
        · split
          · exact small_mono h (by omega)
          · split <;> exact small_mono h (by omega)
theorem held_step : (s.actStep c t ou w a).2.1.held.length ≤ ou.held.length + a.weight := by
  have hw : a.parts.flatten.length ≤ a.weight := by unfold ActV.weight; omega
  unfold St.actStep
  split
  · exact Nat.le_trans (held_ouWrite _ _ _ _) (by omega)
  · split
    · exact Nat.le_trans (held_ouFlush _ _ _) (by omega)
    · split
      · exact Nat.le_add_right _ _
      · split
        · exact Nat.le_add_right _ _
        · split
          · exact Nat.le_add_right _ _
          · split <;> exact Nat.le_add_right _ _
theorem whole_step : (s.actStep c t ou w a).2.2.1.length ≤ w.length + a.weight := by
  have hw : a.parts.flatten.length ≤ a.weight := by unfold ActV.weight; omega
  unfold St.actStep
  split
  · rw [List.length_append]; omega
  · split
    · exact Nat.le_add_right _ _
    · split
      · exact Nat.le_add_right _ _
      · split
        · exact Nat.le_add_right _ _
        · split
          · exact Nat.le_add_right _ _
          · split <;> exact Nat.le_add_right _ _
theorem runGo_next {l : List ActV} {i : Nat} (hi : i < l.length) (h : (s.actStep c t ou w l[i]).2.2.2 = none) :
    St.runGo c t (l.drop i) s ou w = St.runGo c t (l.drop (i + 1)) (s.actStep c t ou w l[i]).1 (s.actStep c t ou w l[i]).2.1 (s.actStep c t ou w l[i]).2.2.1 := by
  rw [List.drop_eq_getElem_cons hi, St.runGo, h]
theorem runGo_stop {l : List ActV} {i : Nat} (hi : i < l.length) {q : Int} (h : (s.actStep c t ou w l[i]).2.2.2 = some q) :
    St.runGo c t (l.drop i) s ou w = ((s.actStep c t ou w l[i]).1, (s.actStep c t ou w l[i]).2.1, (s.actStep c t ou w l[i]).2.2.1, q) := by
  rw [List.drop_eq_getElem_cons hi, St.runGo, h]
end
end Disk
end Go.Proofs.Ytfommpbblpnljaa
