/- 'galleylaw28.OptsFlags': a line put together of flags and operands does what they are for. Condition: the tables of UTF-8 lie as their initialisers lay them (the card ties that to the program's text). -/
import Derived.Test.YtmjagjcaepbklaaDoorCards
import Derived.Test.YtmjagjcaepbklaaDoorTie
import Derived.Test.YtmjagjcaepbklaaDoorChecked
import Derived.Test.YtmjagjcaepbklaaDoorOptsFlags
import Derived.Test.YtmjagjcaepbklaaDoorSaid
import Derived.Test.YtmjagjcaepbklaaDoorSaidR
import Derived.Deep.DeepHandedRow
import Derived.Lib.LaidTab
import Derived.Lib.LaidU8
import Derived.Stop.LaidErr
namespace Go.Proofs.YtmjagjcaepbklaaDoor.optsFlags
open Go.RowKit Go.ChangeShapes Go.WideShapes Go.Deep Go.ChangeAt

theorem openStrs : OpensR Tryd.prog 22 Rep.str.slice (fun N l => l.length * Tryd.prog.bytesOf 9 ≤ N ∧ ∀ x ∈ l, x.size ≤ N) := OpensR.slice (e := 9) Tryd.underlying22 (by kernel_rfl) (by decide) (OpensR.str Tryd.underlying9)
set_option maxRecDepth 100000 in
theorem openFlag : OpensR Tryd.prog 36 Rep.flag (fun N x => x.2.1.size ≤ N) := by
  intro H enc w base spare held fuel cs x h
  obtain ⟨ys, n', hn', hy, hlen, hyl, hf⟩ := DataW.trod_struct Tryd.underlying36 h
  have e0 := hf 0 _ rfl
  have e1 := hf 1 _ rfl
  have e2 := hf 2 _ rfl
  simp at hyl
  match ys, hyl with
  | [y0, y1, y2], _ =>
  have hl3 : cs.length = 3 := hlen.trans (by kernel_rfl)
  match cs, hl3 with
  | [c0, c1, c2], _ =>
  obtain ⟨k, r0⟩ := Opens.int Tryd.underlying3 enc w base spare held _ [c0] y0 (by simpa [show Tryd.prog.cellsOf 3 = 1 by kernel_rfl] using e0)
  obtain ⟨t, r1, w1⟩ := OpensR.str Tryd.underlying9 enc w base spare held _ [c1] y1 (by simpa [show Tryd.prog.cellsOf 9 = 1 by kernel_rfl] using e1)
  obtain ⟨s, r2⟩ := Opens.bool Tryd.underlying4 enc w base spare held _ [c2] y2 (by simpa [show Tryd.prog.cellsOf 4 = 1 by kernel_rfl] using e2)
  refine ⟨(k, t, s), ⟨[c0], [c1, c2], rfl, r0, [c1], [c2], rfl, r1, r2⟩, fun N hN => ?_⟩
  rw [hy] at hN
  simp only [DataW.weights, Tryd.underlying36, List.map_cons, List.map_nil, DataW.weightsEach, List.all_append, Bool.and_eq_true] at hN
  obtain ⟨-, h1, -⟩ := hN
  exact w1 N h1
theorem openFlags : OpensR Tryd.prog 34 Rep.flag.slice (fun N l => l.length * Tryd.prog.bytesOf 36 ≤ N ∧ ∀ x ∈ l, x.2.1.size ≤ N) := OpensR.slice (e := 36) Tryd.underlying34 (by kernel_rfl) (by decide) openFlag
theorem own : ownKnob Tryd.prog.godebug = none := by kernel_rfl
theorem laidOut : laidOutB Tryd.prog = true := by kernel_rfl
theorem d3 : Lib.firstData = Rows.laid_unicode_utf8_first := by kernel_rfl
theorem d4 : Lib.acceptData = Rows.laid_unicode_utf8_acceptRanges := by kernel_rfl
theorem tabs {W : World} (h : laidMetH Tryd.prog Rows.optsFlagsRow.laid W) : Lib.Utf8Tabs 0 1 W :=
  utf8Tabs_of_reads (ρ := Tryd.lays260_ren) Tryd.lays260 ⟨by kernel_rfl, by kernel_rfl, by kernel_rfl, by kernel_rfl, by kernel_rfl, by kernel_rfl, by kernel_rfl⟩ (by rw [d3]; exact Lib.laidMet.reads h (.tail _ (.head _))) (by rw [d4]; exact Lib.laidMet.reads h (.head _))

set_option maxRecDepth 100000 in
theorem contract (H : Type) (enc : TypeId × Value → H) (W : World) (base : Nat) (args : Array Value) (ds gs : List (DataW H)) (before : List MemPlace)
    (hval : ∀ (j : Nat) t v, Tryd.f4.params[j]? = some t → args[j]? = some v → Value.okWide Tryd.prog W .any base t v)
    (hW : DataW.Whole enc Tryd.prog Tryd.f4.params.toList Rows.optsFlagsSpec.vars false W args.toList ds gs before) (hsz : ∃ ts, (DataW.weightsEach Tryd.prog (Tryd.f4.params.toList ++ ts) (ds ++ gs)).all (· ≤ reachBytes) = true) (hL : laidMetH Tryd.prog Rows.optsFlagsRow.laid W) :
    Calls Tryd.prog 4 args W fun e W' => ∃ v, e = .returned v ∧ Rows.optsFlagsSpec.post enc Tryd.prog Tryd.f4 false true false false W args v W' := by
  have hW' := hW
  obtain ⟨p, q, hA0, hV, rfl, hfz, hnd⟩ := hW
  have hA : DataW.TrodAll enc Tryd.prog W 0 (fun _ => true) true Tryd.f4.params.toList args.toList ds p := hA0
  rw [Tryd.params4] at hA hval
  obtain ⟨v0, vs0, d0, ds0, p0, q0, hargs, rfl, rfl, h0, r0⟩ := trodAll_cons hA
  obtain ⟨v1, vs1, d1, ds1, p1, q1, rfl, rfl, rfl, h1, r1⟩ := trodAll_cons r0
  obtain ⟨v2, vs2, d2, ds2, p2, q2, rfl, rfl, rfl, h2, r2⟩ := trodAll_cons r1
  obtain ⟨rfl, rfl, rfl⟩ := trodAll_nil r2
  obtain rfl : args = #[v0, v1, v2] := by cases args; simp_all
  obtain ⟨A, ca, l, rfl, hl, w0⟩ := openFlags.sliceArg (fun cs e => by subst e; have := hval 0 _ _ rfl rfl; simp [Value.okWide, Tryd.underlying34, Cell.okWide, Cell.ok] at this) h0
  obtain ⟨d, hd⟩ := Opens.arg (r := Rep.bool) (Opens.bool Tryd.underlying4) h1
  obtain ⟨F, fc, fs, rfl, hq, w2⟩ := openStrs.sliceArg (fun cs e => by subst e; have := hval 2 _ _ rfl rfl; simp [Value.okWide, Tryd.underlying22, Cell.okWide, Cell.ok] at this) h2
  obtain rfl : v1 = .bool d := by
    have hv := hval 1 _ _ rfl rfl
    cases v1 <;> first | (simp [Value.okWide, Tryd.underlying4, Cell.okWide, Cell.ok] at hv; done) | (simpa [Rep.bool, Value.cells] using hd)
  obtain ⟨rfl, rfl⟩ := trodVars_none hV
  obtain ⟨ts, hsz⟩ := hsz
  rw [Tryd.params4] at hsz
  simp only [List.cons_append, List.nil_append, List.append_nil, DataW.weightsEach, List.all_append, Bool.and_eq_true] at hsz
  have b0 := w0 reachBytes hsz.1
  have b2 := w2 reachBytes hsz.2.2
  simp only [reachBytes] at b0 b2
  refine (optsFlags_any d l fs A F l.length ca fs.length fc W (Lib.hid rfl) (Lib.hid hl) (Lib.hid rfl) (Lib.hid hq) (Lib.hid (tabs hL)) (Lib.hid fun x hx => b2.2 x hx) (Lib.hid fun x hx => b0.2 x hx)).mono fun e W' ⟨he, hb⟩ => ?_
  subst he
  refine ⟨_, rfl, post_of_below (pa := _) (pv := []) hW' (fun _ _ _ => trodAll_mk1 (shut_bool Tryd.underlying4 _)) (fun sp hsp => ?_) (fun _ _ => rfl) rfl hb (ok_one (by kernel_rfl) rfl (okWide_bool_mk Tryd.underlying4 _))⟩
  refine TrodAll_below laidOut (fun t ht => ?_) hA0 hb (fun x hx => hW'.lt x (by simpa using hx)) sp (fun x hx => hsp x (by simpa using hx))
  have : Tryd.f4.params.toList.all (fun t => Tryd.prog.readableRec t && decide (t < Tryd.prog.types.size)) = true := by kernel_rfl
  have := List.all_eq_true.1 this t ht
  simpa using this

/-- A world for the witness: the settled one, the tables as they are laid. -/
noncomputable def laidWorld (os : Os) : World :=
  { World.holding Tryd.prog os ⟨#[], #[], []⟩ with heap := (((World.holding Tryd.prog os ⟨#[], #[], []⟩).heap.modify 1 fun
      | .cells _ t frozen => .cells #[.int .u8 128, .int .u8 191, .int .u8 160, .int .u8 191, .int .u8 128, .int .u8 159, .int .u8 144, .int .u8 191, .int .u8 128, .int .u8 143, .int .u8 0, .int .u8 0, .int .u8 0, .int .u8 0, .int .u8 0, .int .u8 0, .int .u8 0, .int .u8 0, .int .u8 0, .int .u8 0, .int .u8 0, .int .u8 0, .int .u8 0, .int .u8 0, .int .u8 0, .int .u8 0, .int .u8 0, .int .u8 0, .int .u8 0, .int .u8 0, .int .u8 0, .int .u8 0] t frozen
      | o => o).modify 0 fun
      | .cells _ t frozen => .cells ((List.range 256).map fun c => .int .u8 (Lib.firstT c)).toArray t frozen
      | o => o) }
theorem laid_met (os : Os) : laidMet Tryd.prog Rows.optsFlagsRow.laid ((laidWorld os).forCall (fun _ _ => 0) ⟨#[], #[.slice none 0 0, .bool false, .slice none 0 0], []⟩).memory :=
  laidMet_of_run' 8 (by kernel_rfl) (by kernel_rfl)
theorem reads (os : Os) {H : Type} (enc : TypeId × Value → H) : ∃ places, DataW.whole enc Tryd.prog ((laidWorld os).forCall (fun _ _ => 0) ⟨#[], #[.slice none 0 0, .bool false, .slice none 0 0], []⟩).memory Tryd.f4.params.toList Rows.optsFlagsSpec.vars false #[.slice none 0 0, .bool false, .slice none 0 0].toList 8 = some ([.nil, .lit (.bool false), .nil], [], places) :=
  ⟨[], by kernel_rfl⟩

set_option maxRecDepth 100000 in
theorem lifted (os : Os) (started : os.Started) (H : Type) (enc : TypeId × Value → H) (F : Stop.Interp) :
    ReturnsInHanded {} Tryd.checked os 4 .any ((OpenSpec.ofChange Rows.optsFlagsSpec).preRow enc Tryd.prog Tryd.f4 Rows.optsFlagsRow.domain false Rows.optsFlagsRow.laid) (((OpenSpec.ofChange Rows.optsFlagsSpec).at F).post enc Tryd.prog Tryd.f4 false true false false) := by
  obtain ⟨places, hx⟩ := reads os enc
  refine returnsInHanded_of_row (C := Tryd.checked) (s := OpenSpec.ofChange Rows.optsFlagsSpec) own started (by kernel_rfl) Tryd.func4
    (witness_row_at (enc := enc) (C := Tryd.checked) false (laidWorld os) #[.slice none 0 0, .bool false, .slice none 0 0] rfl (by kernel_rfl) (by kernel_rfl) (by kernel_rfl)
      (OpenSpec.preRow_of_cond 8 hx (by kernel_rfl) (fun k hk => by cases hk) (by kernel_rfl) (laid_met os))) ?_
  intro W base args ds gs before hval hW _ _ hsz hL _ _
  exact contract H enc W base args ds gs before hval hW ⟨_, hsz⟩ hL

theorem said : Rows.OptsFlagsSaid :=
  OpenClaim.holds_of_cond 4 Tryd.f4 rfl rfl rfl rfl rfl rfl rfl ⟨rfl, rfl, rfl, rfl, rfl⟩ rfl rfl rfl rfl rfl (by kernel_rfl) Tryd.func4 (by kernel_rfl)
    (of_decide_eq_true (by kernel_rfl)) (by unfold Func.isWrapper; first | (rw [if_pos (by decide +kernel)]; kernel_rfl) | (rw [if_neg (by decide +kernel)]; exact ⟨rfl, rfl⟩))
    (fun os started H enc _ F => by rw [OpenClaim.pre_eq_preRow]; exact lifted os started H enc F)

/-- No parameter wants a stand-in; the program's own looks are off: what the card asks. -/
theorem plain (f : FuncId) (fn : Func) (hf : Tryd.pinned.checked.prog.funcNamed "galley/galleylaw28.OptsFlags" = some f) (hfn : Tryd.pinned.checked.prog.funcs[f]? = some fn) :
    false = Tryd.pinned.checked.prog.looks [] ∧ ∀ (j : Nat) t, fn.params[j]? = some t → Tryd.pinned.checked.prog.wantsStandIn t = false := by
  obtain rfl : f = 4 := Option.some.inj ((show Tryd.prog.funcNamed "galley/galleylaw28.OptsFlags" = some 4 by kernel_rfl).symm.trans hf) |>.symm
  obtain rfl : fn = Tryd.f4 := (Option.some.inj (Tryd.func4.symm.trans hfn)).symm
  refine ⟨by kernel_rfl, fun j t ht => ?_⟩
  have : Tryd.f4.params.toList.all (fun t => Tryd.prog.wantsStandIn t == false) = true := by kernel_rfl
  have := List.all_eq_true.1 this t (Array.mem_toList_iff.2 (Array.mem_of_getElem? ht))
  exact eq_of_beq this

/-- The card. -/
theorem card : Rows.OptsFlagsCardSaid :=
  Claim7.holds_tied_plain_at .later [] _ _ _ _ said (fun _ h => by cases h) (by kernel_rfl) (fun _ h => by cases h) optsFlags_row_tie rfl ⟨rfl, rfl⟩ (by kernel_rfl) rfl plain (by kernel_rfl)
end Go.Proofs.YtmjagjcaepbklaaDoor.optsFlags
namespace Go.Proofs.YtmjagjcaepbklaaDoor
theorem optsFlags_card : Rows.OptsFlagsCardSaid := optsFlags.card
#print axioms optsFlags_card
end Go.Proofs.YtmjagjcaepbklaaDoor
