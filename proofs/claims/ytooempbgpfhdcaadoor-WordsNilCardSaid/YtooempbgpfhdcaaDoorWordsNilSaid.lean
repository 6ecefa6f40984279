/- 'galleylaw19.WordsNil': nil words, plain ones. Condition: the tables of UTF-8 lie as their initialisers lay them (the card ties that to the program's text). -/
import Derived.Test.YtooempbgpfhdcaaDoorCards
import Derived.Test.YtooempbgpfhdcaaDoorTie
import Derived.Test.YtooempbgpfhdcaaDoorChecked
import Derived.Test.YtooempbgpfhdcaaDoorWordsNil
import Derived.Test.YtooempbgpfhdcaaDoorSaid
import Derived.Deep.DeepHandedRow
import Derived.Lib.LaidTab
import Derived.Lib.LaidU8
import Derived.OpenShut
import Derived.Stop.LaidErr
namespace Go.Proofs.YtooempbgpfhdcaaDoor.wordsNil
open Go.RowKit Go.ChangeShapes Go.WideShapes Go.Deep Go.ChangeAt

set_option maxRecDepth 100000 in
theorem open_op {H : Type} {enc : TypeId × Value → H} {w : World} {base : Nat} {spare : Nat → Bool} {held : Bool} {v : Value} {d : DataW H} {p : List MemPlace} (h : DataW.Trod enc Tryd.prog w base spare held 34 v d p) :
    ∃ (a b : Int) (s : ByteArray) (m x : Int) (e : Bool), v = .agg #[.int .i64 a, .int .i64 b, .string s, .int .i64 m, .int .u8 x, .bool e] := by
  obtain ⟨fuel, h⟩ := h
  obtain ⟨ys, n', hn', hx, hlen, hyl, hf⟩ := DataW.trod_struct Tryd.underlying34 h
  have e0 := hf 0 _ rfl
  have e1 := hf 1 _ rfl
  have e2 := hf 2 _ rfl
  have e3 := hf 3 _ rfl
  have e4 := hf 4 _ rfl
  have e5 := hf 5 _ rfl
  simp at hyl
  match ys, hyl with
  | [y0, y1, y2, y3, y4, y5], _ =>
  have hl6 : v.cells.toList.length = 6 := hlen.trans (by kernel_rfl)
  generalize hcs : v.cells.toList = cs at *
  match cs, hl6 with
  | [c0, c1, c2, c3, c4, c5], _ =>
  obtain ⟨a, r0, -⟩ := Opens.int Tryd.underlying3 enc w base spare held _ [c0] y0 (by simpa [show Tryd.prog.cellsOf 3 = 1 by kernel_rfl] using e0)
  obtain ⟨b, r1, -⟩ := Opens.int Tryd.underlying3 enc w base spare held _ [c1] y1 (by simpa [show Tryd.prog.cellsOf 3 = 1 by kernel_rfl] using e1)
  obtain ⟨s, r2, -⟩ := Opens.str Tryd.underlying9 enc w base spare held _ [c2] y2 (by simpa [show Tryd.prog.cellsOf 9 = 1 by kernel_rfl] using e2)
  obtain ⟨m, r3, -⟩ := Opens.int Tryd.underlying3 enc w base spare held _ [c3] y3 (by simpa [show Tryd.prog.cellsOf 3 = 1 by kernel_rfl] using e3)
  obtain ⟨x, r4, -⟩ := Opens.int Tryd.underlying5 enc w base spare held _ [c4] y4 (by simpa [show Tryd.prog.cellsOf 5 = 1 by kernel_rfl] using e4)
  obtain ⟨e, r5⟩ := Opens.bool Tryd.underlying4 enc w base spare held _ [c5] y5 (by simpa [show Tryd.prog.cellsOf 4 = 1 by kernel_rfl] using e5)
  simp only [Rep.bool, List.cons.injEq, and_true] at r0 r1 r2 r3 r4 r5
  subst r0 r1 r2 r3 r4 r5
  refine ⟨a, b, s, m, x, e, ?_⟩
  cases v with
  | agg cells =>
    obtain rfl : cells = #[.int .i64 a, .int .i64 b, .string s, .int .i64 m, .int .u8 x, .bool e] := by
      cases cells
      simpa [Value.cells] using hcs
    rfl
  | _ => simp [Value.cells] at hcs
theorem own : ownKnob Tryd.prog.godebug = none := by kernel_rfl
theorem laidOut : laidOutB Tryd.prog = true := by kernel_rfl
set_option maxRecDepth 100000 in
theorem contract (H : Type) (enc : TypeId × Value → H) (W : World) (base : Nat) (args : Array Value) (ds gs : List (DataW H)) (before : List MemPlace)
    (hval : ∀ (j : Nat) t v, Tryd.f4.params[j]? = some t → args[j]? = some v → Value.okWide Tryd.prog W .any base t v)
    (hW : DataW.Whole enc Tryd.prog Tryd.f4.params.toList Rows.wordsNilSpec.vars false W args.toList ds gs before) (hsz : ∃ ts, (DataW.weightsEach Tryd.prog (Tryd.f4.params.toList ++ ts) (ds ++ gs)).all (· ≤ reachBytes) = true) (_hL : laidMetH Tryd.prog Rows.wordsNilRow.laid W) :
    Calls Tryd.prog 4 args W fun e W' => ∃ v, e = .returned v ∧ Rows.wordsNilSpec.post enc Tryd.prog Tryd.f4 false true false false W args v W' := by
  have hW' := hW
  obtain ⟨p, q, hA0, hV, rfl, hfz, hnd⟩ := hW
  have hA : DataW.TrodAll enc Tryd.prog W 0 (fun _ => true) true Tryd.f4.params.toList args.toList ds p := hA0
  rw [Tryd.params4] at hA hval
  obtain ⟨v0, vs0, d0, ds0, p0, q0, hargs, rfl, rfl, h0, r0⟩ := trodAll_cons hA
  obtain ⟨rfl, rfl, rfl⟩ := trodAll_nil r0
  obtain rfl : args = #[v0] := by cases args; simp_all
  obtain ⟨a, b, s, m, x, e, rfl⟩ := open_op h0
  obtain ⟨rfl, rfl⟩ := trodVars_none hV
  refine (wordsNil_any W a b m x s e).mono fun e W' ⟨he, hb⟩ => ?_
  subst he
  refine ⟨_, rfl, post_of_below (pa := _) (pv := []) hW' (fun _ _ _ => trodAll_mk1 (shut_bool Tryd.underlying4 _)) (fun sp hsp => ?_) (fun _ _ => rfl) rfl hb (ok_one (by kernel_rfl) rfl (okWide_bool_mk Tryd.underlying4 _))⟩
  refine TrodAll_below laidOut (fun t ht => ?_) hA0 hb (fun x hx => hW'.lt x (by simpa using hx)) sp (fun x hx => hsp x (by simpa using hx))
  have : Tryd.f4.params.toList.all (fun t => Tryd.prog.readableRec t && decide (t < Tryd.prog.types.size)) = true := by kernel_rfl
  have := List.all_eq_true.1 this t ht
  simpa using this

/-- A world for the witness: the settled one, the tables as they are laid. -/
noncomputable def laidWorld (os : Os) : World :=
  { World.holding Tryd.prog os ⟨#[], #[], []⟩ with heap := (((World.holding Tryd.prog os ⟨#[], #[], []⟩).heap.modify 2 fun
      | .cells _ t frozen => .cells #[.int .u8 128, .int .u8 191, .int .u8 160, .int .u8 191, .int .u8 128, .int .u8 159, .int .u8 144, .int .u8 191, .int .u8 128, .int .u8 143, .int .u8 0, .int .u8 0, .int .u8 0, .int .u8 0, .int .u8 0, .int .u8 0, .int .u8 0, .int .u8 0, .int .u8 0, .int .u8 0, .int .u8 0, .int .u8 0, .int .u8 0, .int .u8 0, .int .u8 0, .int .u8 0, .int .u8 0, .int .u8 0, .int .u8 0, .int .u8 0, .int .u8 0, .int .u8 0] t frozen
      | o => o).modify 1 fun
      | .cells _ t frozen => .cells ((List.range 256).map fun c => .int .u8 (Lib.firstT c)).toArray t frozen
      | o => o) }
theorem laid_met (os : Os) : laidMet Tryd.prog Rows.wordsNilRow.laid ((laidWorld os).forCall (fun _ _ => 0) ⟨#[], #[.agg #[.int .i64 0, .int .i64 0, .string ⟨#[]⟩, .int .i64 0, .int .u8 0, .bool false]], []⟩).memory :=
  laidMet_of_run' 8 (by kernel_rfl) (by kernel_rfl)
theorem reads (os : Os) {H : Type} (enc : TypeId × Value → H) : ∃ places, DataW.whole enc Tryd.prog ((laidWorld os).forCall (fun _ _ => 0) ⟨#[], #[.agg #[.int .i64 0, .int .i64 0, .string ⟨#[]⟩, .int .i64 0, .int .u8 0, .bool false]], []⟩).memory Tryd.f4.params.toList Rows.wordsNilSpec.vars false #[.agg #[.int .i64 0, .int .i64 0, .string ⟨#[]⟩, .int .i64 0, .int .u8 0, .bool false]].toList 8 = some ([.agg [.lit (.int .i64 0), .lit (.int .i64 0), .lit (.string []), .lit (.int .i64 0), .lit (.int .u8 0), .lit (.bool false)]], [], places) :=
  ⟨[], by kernel_rfl⟩

set_option maxRecDepth 100000 in
theorem lifted (os : Os) (started : os.Started) (H : Type) (enc : TypeId × Value → H) (F : Stop.Interp) :
    ReturnsInHanded {} Tryd.checked os 4 .any ((OpenSpec.ofChange Rows.wordsNilSpec).preRow enc Tryd.prog Tryd.f4 Rows.wordsNilRow.domain false Rows.wordsNilRow.laid) (((OpenSpec.ofChange Rows.wordsNilSpec).at F).post enc Tryd.prog Tryd.f4 false true false false) := by
  obtain ⟨places, hx⟩ := reads os enc
  refine returnsInHanded_of_row (C := Tryd.checked) (s := OpenSpec.ofChange Rows.wordsNilSpec) own started (by kernel_rfl) Tryd.func4
    (witness_row_at (enc := enc) (C := Tryd.checked) false (laidWorld os) #[.agg #[.int .i64 0, .int .i64 0, .string ⟨#[]⟩, .int .i64 0, .int .u8 0, .bool false]] rfl (by kernel_rfl) (by kernel_rfl) (by kernel_rfl)
      (OpenSpec.preRow_of_cond 8 hx (by kernel_rfl) (fun k hk => by cases hk) (by kernel_rfl) (laid_met os))) ?_
  intro W base args ds gs before hval hW _ _ hsz hL _ _
  exact contract H enc W base args ds gs before hval hW ⟨_, hsz⟩ hL

theorem said : Rows.WordsNilSaid :=
  OpenClaim.holds_of_cond 4 Tryd.f4 rfl rfl rfl rfl rfl rfl rfl ⟨rfl, rfl, rfl, rfl, rfl⟩ rfl rfl rfl rfl rfl (by kernel_rfl) Tryd.func4 (by kernel_rfl)
    (of_decide_eq_true (by kernel_rfl)) (by unfold Func.isWrapper; first | (rw [if_pos (by decide +kernel)]; kernel_rfl) | (rw [if_neg (by decide +kernel)]; exact ⟨rfl, rfl⟩))
    (fun os started H enc _ F => by rw [OpenClaim.pre_eq_preRow]; exact lifted os started H enc F)

/-- No parameter wants a stand-in; the program's own looks are off: what the card asks. -/
theorem plain (f : FuncId) (fn : Func) (hf : Tryd.pinned.checked.prog.funcNamed "galley/galleylaw19.WordsNil" = some f) (hfn : Tryd.pinned.checked.prog.funcs[f]? = some fn) :
    false = Tryd.pinned.checked.prog.looks [] ∧ ∀ (j : Nat) t, fn.params[j]? = some t → Tryd.pinned.checked.prog.wantsStandIn t = false := by
  obtain rfl : f = 4 := Option.some.inj ((show Tryd.prog.funcNamed "galley/galleylaw19.WordsNil" = some 4 by kernel_rfl).symm.trans hf) |>.symm
  obtain rfl : fn = Tryd.f4 := (Option.some.inj (Tryd.func4.symm.trans hfn)).symm
  refine ⟨by kernel_rfl, fun j t ht => ?_⟩
  have : Tryd.f4.params.toList.all (fun t => Tryd.prog.wantsStandIn t == false) = true := by kernel_rfl
  have := List.all_eq_true.1 this t (Array.mem_toList_iff.2 (Array.mem_of_getElem? ht))
  exact eq_of_beq this

/-- The card. -/
theorem card : Rows.WordsNilCardSaid :=
  Claim7.holds_tied_plain_at .later [] _ _ _ _ said (fun _ h => by cases h) (by kernel_rfl) (fun _ h => by cases h) wordsNil_row_tie rfl ⟨rfl, rfl⟩ (by kernel_rfl) rfl plain (by kernel_rfl)
end Go.Proofs.YtooempbgpfhdcaaDoor.wordsNil
namespace Go.Proofs.YtooempbgpfhdcaaDoor
theorem wordsNil_card : Rows.WordsNilCardSaid := wordsNil.card
#print axioms wordsNil_card
end Go.Proofs.YtooempbgpfhdcaaDoor
