/- 'galleylaw28.OptsBack': there and back. Condition: the tables of UTF-8 lie as their initialisers lay them (the card ties that to the program's text). -/
import Derived.Test.YtmjagjcaepbklaaDoorCards
import Derived.Test.YtmjagjcaepbklaaDoorTie
import Derived.Test.YtmjagjcaepbklaaDoorChecked
import Derived.Test.YtmjagjcaepbklaaDoorOptsBack
import Derived.Test.YtmjagjcaepbklaaDoorSaid
import Derived.Test.YtmjagjcaepbklaaDoorSaidR
import Derived.Deep.DeepHandedRow
import Derived.Lib.LaidTab
import Derived.Lib.LaidU8
import Derived.Stop.LaidErr
namespace Go.Proofs.YtmjagjcaepbklaaDoor.optsBack
open Go.RowKit Go.ChangeShapes Go.WideShapes Go.Deep Go.ChangeAt

theorem openStrs : OpensR Tryd.prog 22 Rep.str.slice (fun N l => l.length * Tryd.prog.bytesOf 9 ≤ N ∧ ∀ x ∈ l, x.size ≤ N) := OpensR.slice (e := 9) Tryd.underlying22 (by kernel_rfl) (by decide) (OpensR.str Tryd.underlying9)
theorem openPrts : OpensR Tryd.prog 23 Rep.prt.slice (fun N l => l.length * Tryd.prog.bytesOf 38 ≤ N ∧ ∀ x ∈ l, True) := OpensR.slice (e := 38) Tryd.underlying23 (by kernel_rfl) (by decide) (OpensR.of (Opens.pair Prod.mk (fun _ _ => rfl) Tryd.underlying38 (by kernel_rfl) (by kernel_rfl) rfl rfl (by kernel_rfl) (Opens.bool Tryd.underlying4) (Opens.str Tryd.underlying9)))
set_option maxRecDepth 100000 in
theorem open_options {H : Type} {enc : TypeId × Value → H} {w : World} {base : Nat} {spare : Nat → Bool} {held : Bool} {v : Value} {d : DataW H} {p : List MemPlace} (h : DataW.Trod enc Tryd.prog w base spare held 25 v d p) :
    ∃ (q e a i : Bool) (P F : Option Addr) (pc fc : Nat) (ps : List Opts.Prt) (fs : List ByteArray), v = .agg #[.bool q, .bool e, .bool a, .bool i, .slice P ps.length pc, .slice F fs.length fc] ∧ SliceAt Rep.prt w (under w.heap.size) P pc ps ∧ SliceAt Rep.str w (under w.heap.size) F fc fs ∧ ∀ N, (d.weights Tryd.prog 25).all (· ≤ N) = true → ps.length ≤ N ∧ fs.length ≤ N := by
  obtain ⟨fuel, h⟩ := h
  obtain ⟨ys, n', hn', hx, hlen, hyl, hf⟩ := DataW.trod_struct Tryd.underlying25 h
  have e0 := hf 0 _ rfl
  have e1 := hf 1 _ rfl
  have e2 := hf 2 _ rfl
  have e3 := hf 3 _ rfl
  have e4 := hf 4 _ rfl
  have e5 := hf 5 _ rfl
  simp at hyl
  match ys, hyl with
  | [y0, y1, y2, y3, y4, y5], _ =>
  have hl6 : v.cells.toList.length = 6 := hlen.trans (by kernel_rfl)
  generalize hcs : v.cells.toList = cs at *
  match cs, hl6 with
  | [c0, c1, c2, c3, c4, c5], _ =>
  obtain ⟨q, r0⟩ := Opens.bool Tryd.underlying4 enc w base spare held _ [c0] y0 (by simpa [show Tryd.prog.cellsOf 4 = 1 by kernel_rfl] using e0)
  obtain ⟨e, r1⟩ := Opens.bool Tryd.underlying4 enc w base spare held _ [c1] y1 (by simpa [show Tryd.prog.cellsOf 4 = 1 by kernel_rfl] using e1)
  obtain ⟨a, r2⟩ := Opens.bool Tryd.underlying4 enc w base spare held _ [c2] y2 (by simpa [show Tryd.prog.cellsOf 4 = 1 by kernel_rfl] using e2)
  obtain ⟨i, r3⟩ := Opens.bool Tryd.underlying4 enc w base spare held _ [c3] y3 (by simpa [show Tryd.prog.cellsOf 4 = 1 by kernel_rfl] using e3)
  obtain ⟨ps, ⟨P, pc, r4, hp⟩, w4⟩ := openPrts enc w base spare held _ [c4] y4 (by simpa [show Tryd.prog.cellsOf 23 = 1 by kernel_rfl] using e4)
  obtain ⟨fs, ⟨F, fc, r5, hq⟩, w5⟩ := openStrs enc w base spare held _ [c5] y5 (by simpa [show Tryd.prog.cellsOf 22 = 1 by kernel_rfl] using e5)
  simp only [Rep.bool, List.cons.injEq, and_true] at r0 r1 r2 r3 r4 r5
  subst r0 r1 r2 r3 r4 r5
  refine ⟨q, e, a, i, P, F, pc, fc, ps, fs, ?_, hp, hq, ?_⟩
  · cases v with
    | agg cells =>
      obtain rfl : cells = #[.bool q, .bool e, .bool a, .bool i, .slice P ps.length pc, .slice F fs.length fc] := by
        cases cells
        simpa [Value.cells] using hcs
      rfl
    | _ => simp [Value.cells] at hcs
  · intro N hN
    simp only [Prod.mk.injEq] at hx
    obtain ⟨rfl, -⟩ := hx
    simp only [DataW.weights, Tryd.underlying25, List.map_cons, List.map_nil, DataW.weightsEach, List.all_append, Bool.and_eq_true] at hN
    obtain ⟨-, -, -, -, h4, h5, -⟩ := hN
    have k4 := (w4 N h4).1
    have k5 := (w5 N h5).1
    rw [show Tryd.prog.bytesOf 38 = 24 by kernel_rfl] at k4
    rw [show Tryd.prog.bytesOf 9 = 16 by kernel_rfl] at k5
    exact ⟨by omega, by omega⟩
theorem own : ownKnob Tryd.prog.godebug = none := by kernel_rfl
theorem laidOut : laidOutB Tryd.prog = true := by kernel_rfl
theorem d3 : Lib.firstData = Rows.laid_unicode_utf8_first := by kernel_rfl
theorem d4 : Lib.acceptData = Rows.laid_unicode_utf8_acceptRanges := by kernel_rfl
theorem tabs {W : World} (h : laidMetH Tryd.prog Rows.optsBackRow.laid W) : Lib.Utf8Tabs 0 1 W :=
  utf8Tabs_of_reads (ρ := Tryd.lays260_ren) Tryd.lays260 ⟨by kernel_rfl, by kernel_rfl, by kernel_rfl, by kernel_rfl, by kernel_rfl, by kernel_rfl, by kernel_rfl⟩ (by rw [d3]; exact Lib.laidMet.reads h (.tail _ (.head _))) (by rw [d4]; exact Lib.laidMet.reads h (.head _))

set_option maxRecDepth 100000 in
theorem contract (H : Type) (enc : TypeId × Value → H) (W : World) (base : Nat) (args : Array Value) (ds gs : List (DataW H)) (before : List MemPlace)
    (hval : ∀ (j : Nat) t v, Tryd.f3.params[j]? = some t → args[j]? = some v → Value.okWide Tryd.prog W .any base t v)
    (hW : DataW.Whole enc Tryd.prog Tryd.f3.params.toList Rows.optsBackSpec.vars false W args.toList ds gs before) (hsz : ∃ ts, (DataW.weightsEach Tryd.prog (Tryd.f3.params.toList ++ ts) (ds ++ gs)).all (· ≤ reachBytes) = true) (hL : laidMetH Tryd.prog Rows.optsBackRow.laid W) :
    Calls Tryd.prog 3 args W fun e W' => ∃ v, e = .returned v ∧ Rows.optsBackSpec.post enc Tryd.prog Tryd.f3 false true false false W args v W' := by
  have hW' := hW
  obtain ⟨p, q, hA0, hV, rfl, hfz, hnd⟩ := hW
  have hA : DataW.TrodAll enc Tryd.prog W 0 (fun _ => true) true Tryd.f3.params.toList args.toList ds p := hA0
  rw [Tryd.params3] at hA hval
  obtain ⟨v0, vs0, d0, ds0, p0, q0, hargs, rfl, rfl, h0, r0⟩ := trodAll_cons hA
  obtain ⟨v1, vs1, d1, ds1, p1, q1, rfl, rfl, rfl, h1, r1⟩ := trodAll_cons r0
  obtain ⟨rfl, rfl, rfl⟩ := trodAll_nil r1
  obtain rfl : args = #[v0, v1] := by cases args; simp_all
  obtain ⟨A, ca, l, rfl, hl, w0⟩ := openStrs.sliceArg (fun cs e => by subst e; have := hval 0 _ _ rfl rfl; simp [Value.okWide, Tryd.underlying22, Cell.okWide, Cell.ok] at this) h0
  obtain ⟨q, e, a, i, P, F, pc, fc, ps, fs, rfl, hp, hq, w1⟩ := open_options h1
  obtain ⟨rfl, rfl⟩ := trodVars_none hV
  obtain ⟨ts, hsz⟩ := hsz
  rw [Tryd.params3] at hsz
  simp only [List.cons_append, List.nil_append, List.append_nil, DataW.weightsEach, List.all_append, Bool.and_eq_true] at hsz
  have b0 := w0 reachBytes hsz.1
  have b1 := w1 reachBytes hsz.2
  simp only [reachBytes] at b0 b1
  refine (optsBack_any q e a i l ps fs A P F l.length ca ps.length pc fs.length fc W (Lib.hid rfl) (Lib.hid hl) (Lib.hid rfl) (Lib.hid hp) (Lib.hid rfl) (Lib.hid hq) (Lib.hid (tabs hL)) (Lib.hid fun x hx => b0.2 x hx) (by omega) (by omega)).mono fun e W' ⟨he, hb⟩ => ?_
  subst he
  refine ⟨_, rfl, post_of_below (pa := _) (pv := []) hW' (fun _ _ _ => trodAll_mk1 (shut_bool Tryd.underlying4 _)) (fun sp hsp => ?_) (fun _ _ => rfl) rfl hb (ok_one (by kernel_rfl) rfl (okWide_bool_mk Tryd.underlying4 _))⟩
  refine TrodAll_below laidOut (fun t ht => ?_) hA0 hb (fun x hx => hW'.lt x (by simpa using hx)) sp (fun x hx => hsp x (by simpa using hx))
  have : Tryd.f3.params.toList.all (fun t => Tryd.prog.readableRec t && decide (t < Tryd.prog.types.size)) = true := by kernel_rfl
  have := List.all_eq_true.1 this t ht
  simpa using this

/-- A world for the witness: the settled one, the tables as they are laid. -/
noncomputable def laidWorld (os : Os) : World :=
  { World.holding Tryd.prog os ⟨#[], #[], []⟩ with heap := (((World.holding Tryd.prog os ⟨#[], #[], []⟩).heap.modify 1 fun
      | .cells _ t frozen => .cells #[.int .u8 128, .int .u8 191, .int .u8 160, .int .u8 191, .int .u8 128, .int .u8 159, .int .u8 144, .int .u8 191, .int .u8 128, .int .u8 143, .int .u8 0, .int .u8 0, .int .u8 0, .int .u8 0, .int .u8 0, .int .u8 0, .int .u8 0, .int .u8 0, .int .u8 0, .int .u8 0, .int .u8 0, .int .u8 0, .int .u8 0, .int .u8 0, .int .u8 0, .int .u8 0, .int .u8 0, .int .u8 0, .int .u8 0, .int .u8 0, .int .u8 0, .int .u8 0] t frozen
      | o => o).modify 0 fun
      | .cells _ t frozen => .cells ((List.range 256).map fun c => .int .u8 (Lib.firstT c)).toArray t frozen
      | o => o) }
theorem laid_met (os : Os) : laidMet Tryd.prog Rows.optsBackRow.laid ((laidWorld os).forCall (fun _ _ => 0) ⟨#[], #[.slice none 0 0, .agg #[.bool false, .bool false, .bool false, .bool false, .slice none 0 0, .slice none 0 0]], []⟩).memory :=
  laidMet_of_run' 8 (by kernel_rfl) (by kernel_rfl)
theorem reads (os : Os) {H : Type} (enc : TypeId × Value → H) : ∃ places, DataW.whole enc Tryd.prog ((laidWorld os).forCall (fun _ _ => 0) ⟨#[], #[.slice none 0 0, .agg #[.bool false, .bool false, .bool false, .bool false, .slice none 0 0, .slice none 0 0]], []⟩).memory Tryd.f3.params.toList Rows.optsBackSpec.vars false #[.slice none 0 0, .agg #[.bool false, .bool false, .bool false, .bool false, .slice none 0 0, .slice none 0 0]].toList 8 = some ([.nil, .agg [.lit (.bool false), .lit (.bool false), .lit (.bool false), .lit (.bool false), .nil, .nil]], [], places) :=
  ⟨[], by kernel_rfl⟩

set_option maxRecDepth 100000 in
theorem lifted (os : Os) (started : os.Started) (H : Type) (enc : TypeId × Value → H) (F : Stop.Interp) :
    ReturnsInHanded {} Tryd.checked os 3 .any ((OpenSpec.ofChange Rows.optsBackSpec).preRow enc Tryd.prog Tryd.f3 Rows.optsBackRow.domain false Rows.optsBackRow.laid) (((OpenSpec.ofChange Rows.optsBackSpec).at F).post enc Tryd.prog Tryd.f3 false true false false) := by
  obtain ⟨places, hx⟩ := reads os enc
  refine returnsInHanded_of_row (C := Tryd.checked) (s := OpenSpec.ofChange Rows.optsBackSpec) own started (by kernel_rfl) Tryd.func3
    (witness_row_at (enc := enc) (C := Tryd.checked) false (laidWorld os) #[.slice none 0 0, .agg #[.bool false, .bool false, .bool false, .bool false, .slice none 0 0, .slice none 0 0]] rfl (by kernel_rfl) (by kernel_rfl) (by kernel_rfl)
      (OpenSpec.preRow_of_cond 8 hx (by kernel_rfl) (fun k hk => by cases hk) (by kernel_rfl) (laid_met os))) ?_
  intro W base args ds gs before hval hW _ _ hsz hL _ _
  exact contract H enc W base args ds gs before hval hW ⟨_, hsz⟩ hL

theorem said : Rows.OptsBackSaid :=
  OpenClaim.holds_of_cond 3 Tryd.f3 rfl rfl rfl rfl rfl rfl rfl ⟨rfl, rfl, rfl, rfl, rfl⟩ rfl rfl rfl rfl rfl (by kernel_rfl) Tryd.func3 (by kernel_rfl)
    (of_decide_eq_true (by kernel_rfl)) (by unfold Func.isWrapper; first | (rw [if_pos (by decide +kernel)]; kernel_rfl) | (rw [if_neg (by decide +kernel)]; exact ⟨rfl, rfl⟩))
    (fun os started H enc _ F => by rw [OpenClaim.pre_eq_preRow]; exact lifted os started H enc F)

/-- No parameter wants a stand-in; the program's own looks are off: what the card asks. -/
theorem plain (f : FuncId) (fn : Func) (hf : Tryd.pinned.checked.prog.funcNamed "galley/galleylaw28.OptsBack" = some f) (hfn : Tryd.pinned.checked.prog.funcs[f]? = some fn) :
    false = Tryd.pinned.checked.prog.looks [] ∧ ∀ (j : Nat) t, fn.params[j]? = some t → Tryd.pinned.checked.prog.wantsStandIn t = false := by
  obtain rfl : f = 3 := Option.some.inj ((show Tryd.prog.funcNamed "galley/galleylaw28.OptsBack" = some 3 by kernel_rfl).symm.trans hf) |>.symm
  obtain rfl : fn = Tryd.f3 := (Option.some.inj (Tryd.func3.symm.trans hfn)).symm
  refine ⟨by kernel_rfl, fun j t ht => ?_⟩
  have : Tryd.f3.params.toList.all (fun t => Tryd.prog.wantsStandIn t == false) = true := by kernel_rfl
  have := List.all_eq_true.1 this t (Array.mem_toList_iff.2 (Array.mem_of_getElem? ht))
  exact eq_of_beq this

/-- The card. -/
theorem card : Rows.OptsBackCardSaid :=
  Claim7.holds_tied_plain_at .later [] _ _ _ _ said (fun _ h => by cases h) (by kernel_rfl) (fun _ h => by cases h) optsBack_row_tie rfl ⟨rfl, rfl⟩ (by kernel_rfl) rfl plain (by kernel_rfl)
end Go.Proofs.YtmjagjcaepbklaaDoor.optsBack
namespace Go.Proofs.YtmjagjcaepbklaaDoor
theorem optsBack_card : Rows.OptsBackCardSaid := optsBack.card
#print axioms optsBack_card
end Go.Proofs.YtmjagjcaepbklaaDoor
