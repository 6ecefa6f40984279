/- 'galleylaw02.QuoteUnlike': unlike numbers have unlike words. Condition: the package-level variables (tables, sentinels) lie as their initialisers lay them (the card ties that to the program's text). -/
import Derived.Test.YtfmaaempcpjpkaaDoorCards
import Derived.Test.YtfmaaempcpjpkaaDoorTie
import Derived.Test.YtfmaaempcpjpkaaDoorChecked
import Derived.Test.YtfmaaempcpjpkaaDoorSaid
import Derived.Test.YtfmaaempcpjpkaaDoorSaidR
import Derived.Test.YtfmaaempcpjpkaaDoorQuoteLaws2
import Derived.Test.YtfmaaempcpjpkaaDoorQuoteEnv
import Derived.OpenShut
import Derived.Deep.DeepHandedRow
import Derived.Lib.LaidTab
import Derived.Lib.LaidU8
import Derived.Stop.LaidErr
namespace Go.Proofs.YtfmaaempcpjpkaaDoor.quoteUnlike
open Go.RowKit Go.ChangeShapes Go.WideShapes Go.Deep Go.ChangeAt


theorem own : ownKnob Tryd.prog.godebug = none := by kernel_rfl
theorem laidOut : laidOutB Tryd.prog = true := by kernel_rfl

set_option maxRecDepth 100000 in
theorem contract (H : Type) (enc : TypeId × Value → H) (W : World) (base : Nat) (args : Array Value) (ds gs : List (DataW H)) (before : List MemPlace)
    (hval : ∀ (j : Nat) t v, Tryd.f7.params[j]? = some t → args[j]? = some v → Value.okWide Tryd.prog W .any base t v)
    (hW : DataW.Whole enc Tryd.prog Tryd.f7.params.toList Rows.quoteUnlikeSpec.vars false W args.toList ds gs before) (hsz : ∃ ts, (DataW.weightsEach Tryd.prog (Tryd.f7.params.toList ++ ts) (ds ++ gs)).all (· ≤ reachBytes) = true) (hL : laidMetH Tryd.prog Rows.quoteUnlikeRow.laid W) :
    Calls Tryd.prog 7 args W fun e W' => ∃ v, e = .returned v ∧ Rows.quoteUnlikeSpec.post enc Tryd.prog Tryd.f7 false true false false W args v W' := by
  obtain ⟨ts, hsz⟩ := hsz
  have hW' := hW
  obtain ⟨p, q, hA0, hV, rfl, hfz, hnd⟩ := hW
  have hA : DataW.TrodAll enc Tryd.prog W 0 (fun _ => true) true Tryd.f7.params.toList args.toList ds p := hA0
  rw [Tryd.params7] at hA hval
  obtain ⟨v0, vs0, d0, ds0, p0, q0, hargs, rfl, rfl, h0, r0⟩ := trodAll_cons hA
  obtain ⟨v1, vs1, d1, ds1, p1, q1, rfl, rfl, rfl, h1, r1⟩ := trodAll_cons r0
  obtain ⟨rfl, rfl, rfl⟩ := trodAll_nil r1
  obtain rfl : args = #[v0, v1] := by cases args; simp_all
  obtain ⟨rfl, rfl⟩ := trodVars_none hV
  obtain ⟨a, rfl, rfl, rfl, wi0⟩ := open_int Tryd.underlying3 (hval 0 _ v0 rfl rfl) h0
  obtain ⟨b, rfl, rfl, rfl, wi1⟩ := open_int Tryd.underlying3 (hval 1 _ v1 rfl rfl) h1
  refine ((quoteUnlike_any a b W (bounds_i64 wi0).1 (bounds_i64 wi0).2 (bounds_i64 wi1).1 (bounds_i64 wi1).2 (Lib.hid (qenv_of hL))).mono fun r w' hh => (⟨hh.1, hh.2.out⟩ : _ ∧ Below W.heap.size W w')).mono fun e W' ⟨he, hb⟩ => ?_
  subst he
  refine ⟨_, rfl, post_of_below (pa := _) (pv := []) hW' (fun _ _ _ => trodAll_mk1 (shut_bool Tryd.underlying4 _)) (fun sp hsp => ?_) (fun _ _ => rfl) rfl hb (ok_one (by kernel_rfl) rfl (okWide_bool_mk Tryd.underlying4 _))⟩
  refine TrodAll_below laidOut (fun t ht => ?_) hA0 hb (fun x hx => by simp at hx) sp (fun x hx => by simp at hx)
  have : Tryd.f7.params.toList.all (fun t => Tryd.prog.readableRec t && decide (t < Tryd.prog.types.size)) = true := by kernel_rfl
  have := List.all_eq_true.1 this t ht
  simpa using this

/-- A world for the witness: the settled one, the tables as they are laid. -/
noncomputable def low : Nat := (World.holding Tryd.prog default ⟨#[], #[], []⟩).heap.size
noncomputable def laidWorld (os : Os) : World :=
  { World.holding Tryd.prog os ⟨#[.cells #[.string ⟨#[118, 97, 108, 117, 101, 32, 111, 117, 116, 32, 111, 102, 32, 114, 97, 110, 103, 101]⟩] 170, .cells #[.string ⟨#[105, 110, 118, 97, 108, 105, 100, 32, 115, 121, 110, 116, 97, 120]⟩] 170, .cells #[.string ⟨#[110, 111, 32, 116, 101, 120, 116, 32, 111, 102, 32, 83, 104, 111, 119]⟩] 170], #[], []⟩ with heap := ((((((((World.holding Tryd.prog os ⟨#[.cells #[.string ⟨#[118, 97, 108, 117, 101, 32, 111, 117, 116, 32, 111, 102, 32, 114, 97, 110, 103, 101]⟩] 170, .cells #[.string ⟨#[105, 110, 118, 97, 108, 105, 100, 32, 115, 121, 110, 116, 97, 120]⟩] 170, .cells #[.string ⟨#[110, 111, 32, 116, 101, 120, 116, 32, 111, 102, 32, 83, 104, 111, 119]⟩] 170], #[], []⟩).heap.modify 5 fun
      | .cells _ t frozen => .cells #[.int .u8 0, .int .u8 1, .int .u8 28, .int .u8 2, .int .u8 29, .int .u8 14, .int .u8 24, .int .u8 3, .int .u8 30, .int .u8 22, .int .u8 20, .int .u8 15, .int .u8 25, .int .u8 17, .int .u8 4, .int .u8 8, .int .u8 31, .int .u8 27, .int .u8 13, .int .u8 23, .int .u8 21, .int .u8 19, .int .u8 16, .int .u8 7, .int .u8 26, .int .u8 12, .int .u8 18, .int .u8 6, .int .u8 11, .int .u8 5, .int .u8 10, .int .u8 9] t frozen
      | o => o).modify 6 fun
      | .cells _ t frozen => .cells #[.int .u8 0, .int .u8 1, .int .u8 56, .int .u8 2, .int .u8 57, .int .u8 49, .int .u8 28, .int .u8 3, .int .u8 61, .int .u8 58, .int .u8 42, .int .u8 50, .int .u8 38, .int .u8 29, .int .u8 17, .int .u8 4, .int .u8 62, .int .u8 47, .int .u8 59, .int .u8 36, .int .u8 45, .int .u8 43, .int .u8 51, .int .u8 22, .int .u8 53, .int .u8 39, .int .u8 33, .int .u8 30, .int .u8 24, .int .u8 18, .int .u8 12, .int .u8 5, .int .u8 63, .int .u8 55, .int .u8 48, .int .u8 27, .int .u8 60, .int .u8 41, .int .u8 37, .int .u8 16, .int .u8 46, .int .u8 35, .int .u8 44, .int .u8 21, .int .u8 52, .int .u8 32, .int .u8 23, .int .u8 11, .int .u8 54, .int .u8 26, .int .u8 40, .int .u8 15, .int .u8 34, .int .u8 20, .int .u8 31, .int .u8 10, .int .u8 25, .int .u8 14, .int .u8 19, .int .u8 9, .int .u8 13, .int .u8 8, .int .u8 7, .int .u8 6] t frozen
      | o => o).modify 4 fun
      | .cells _ t frozen => .cells #[.int .u64 1, .int .u64 10, .int .u64 100, .int .u64 1000, .int .u64 10000, .int .u64 100000, .int .u64 1000000, .int .u64 10000000, .int .u64 100000000, .int .u64 1000000000, .int .u64 10000000000, .int .u64 100000000000, .int .u64 1000000000000, .int .u64 10000000000000, .int .u64 100000000000000, .int .u64 1000000000000000, .int .u64 10000000000000000, .int .u64 100000000000000000, .int .u64 1000000000000000000, .int .u64 10000000000000000000] t frozen
      | o => o).modify 3 fun
      | .cells _ t frozen => .cells #[.iface 168 (.pointer (some ⟨low + 0, 0, none⟩))] t frozen
      | o => o).modify 2 fun
      | .cells _ t frozen => .cells #[.iface 168 (.pointer (some ⟨low + 1, 0, none⟩))] t frozen
      | o => o).modify 1 fun
      | .cells _ t frozen => .cells #[.int .i64 0, .string ⟨#[110, 111, 32, 101, 114, 114, 111, 114]⟩, .int .i64 1, .string ⟨#[98, 97, 100, 32, 97, 114, 103, 117, 109, 101, 110, 116]⟩, .int .i64 2, .string ⟨#[116, 111, 111, 32, 108, 111, 110, 103]⟩, .int .i64 20, .string ⟨#[98, 97, 100, 32, 110, 97, 109, 101]⟩, .int .i64 21, .string ⟨#[110, 111, 32, 115, 117, 99, 104, 32, 102, 105, 108, 101]⟩, .int .i64 22, .string ⟨#[110, 111, 32, 114, 111, 111, 109]⟩, .int .i64 23, .string ⟨#[105, 110, 112, 117, 116, 32, 111, 114, 32, 111, 117, 116, 112, 117, 116, 32, 102, 97, 105, 108, 101, 100]⟩, .int .i64 24, .string ⟨#[116, 104, 101, 32, 112, 111, 119, 101, 114, 32, 105, 115, 32, 103, 111, 110, 101]⟩, .int .i64 30, .string ⟨#[98, 97, 100, 32, 114, 97, 110, 103, 101]⟩, .int .i64 31, .string ⟨#[110, 111, 32, 115, 117, 99, 104, 32, 99, 108, 97, 115, 115]⟩, .int .i64 32, .string ⟨#[98, 114, 97, 99, 107, 101, 116, 32, 110, 111, 116, 32, 99, 108, 111, 115, 101, 100]⟩, .int .i64 40, .string ⟨#[98, 97, 100, 32, 101, 115, 99, 97, 112, 101]⟩, .int .i64 41, .string ⟨#[117, 110, 112, 97, 105, 114, 101, 100, 32, 112, 97, 114, 101, 110, 116, 104, 101, 115, 105, 115]⟩, .int .i64 42, .string ⟨#[110, 111, 116, 104, 105, 110, 103, 32, 116, 111, 32, 114, 101, 112, 101, 97, 116]⟩, .int .i64 43, .string ⟨#[98, 97, 100, 32, 99, 111, 117, 110, 116]⟩, .int .i64 44, .string ⟨#[110, 111, 32, 115, 117, 99, 104, 32, 103, 114, 111, 117, 112]⟩, .int .i64 45, .string ⟨#[101, 109, 112, 116, 121, 32, 114, 101, 103, 101, 120]⟩, .int .i64 46, .string ⟨#[110, 101, 115, 116, 101, 100, 32, 116, 111, 111, 32, 100, 101, 101, 112]⟩, .int .i64 47, .string ⟨#[116, 111, 111, 32, 109, 97, 110, 121, 32, 103, 114, 111, 117, 112, 115]⟩, .int .i64 48, .string ⟨#[116, 111, 111, 32, 104, 101, 97, 118, 121]⟩, .int .i64 49, .string ⟨#[110, 111, 32, 114, 101, 103, 101, 120]⟩, .int .i64 50, .string ⟨#[99, 97, 110, 110, 111, 116, 32, 98, 101, 32, 115, 112, 101, 108, 108, 101, 100]⟩, .int .i64 51, .string ⟨#[116, 111, 111, 32, 109, 97, 110, 121, 32, 115, 116, 97, 116, 101, 115]⟩, .int .i64 52, .string ⟨#[102, 117, 101, 108, 32, 105, 115, 32, 103, 111, 110, 101]⟩, .int .i64 60, .string ⟨#[98, 97, 100, 32, 116, 97, 98, 108, 101]⟩, .int .i64 61, .string ⟨#[98, 97, 100, 32, 114, 101, 112, 108, 97, 99, 101, 109, 101, 110, 116]⟩, .int .i64 62, .string ⟨#[115, 112, 97, 99, 101, 32, 105, 115, 32, 102, 117, 108, 108]⟩, .int .i64 70, .string ⟨#[110, 111, 116, 32, 99, 108, 111, 115, 101, 100]⟩, .int .i64 71, .string ⟨#[98, 97, 100, 32, 97, 100, 100, 114, 101, 115, 115]⟩, .int .i64 72, .string ⟨#[98, 97, 100, 32, 99, 111, 109, 109, 97, 110, 100]⟩, .int .i64 73, .string ⟨#[110, 111, 32, 116, 101, 120, 116]⟩, .int .i64 74, .string ⟨#[98, 97, 100, 32, 102, 108, 97, 103]⟩, .int .i64 75, .string ⟨#[98, 97, 100, 32, 108, 97, 98, 101, 108]⟩, .int .i64 76, .string ⟨#[117, 110, 112, 97, 105, 114, 101, 100, 32, 98, 114, 97, 99, 101]⟩, .int .i64 77, .string ⟨#[98, 97, 100, 32, 102, 105, 108, 101]⟩, .int .i64 78, .string ⟨#[109, 111, 114, 101, 32, 116, 104, 97, 110, 32, 97, 32, 99, 111, 109, 109, 97, 110, 100]⟩, .int .i64 80, .string ⟨#[115, 116, 101, 112, 115, 32, 97, 114, 101, 32, 103, 111, 110, 101]⟩, .int .i64 81, .string ⟨#[99, 97, 110, 110, 111, 116, 32, 119, 114, 105, 116, 101]⟩, .int .i64 90, .string ⟨#[98, 97, 100, 32, 111, 112, 116, 105, 111, 110]⟩, .int .i64 91, .string ⟨#[98, 97, 100, 32, 117, 115, 101]⟩, .int .i64 100, .string ⟨#[98, 97, 100, 32, 108, 105, 110, 101]⟩] t frozen
      | o => o).modify 0 fun
      | .cells _ t frozen => .cells #[.iface 168 (.pointer (some ⟨low + 2, 0, none⟩))] t frozen
      | o => o) }
theorem laid_met (os : Os) : laidMet Tryd.prog Rows.quoteUnlikeRow.laid ((laidWorld os).forCall (fun _ _ => 0) ⟨#[], #[.int .i64 0, .int .i64 0], []⟩).memory :=
  laidMet_of_run' 8 (by kernel_rfl) (by kernel_rfl)
theorem reads (os : Os) {H : Type} (enc : TypeId × Value → H) : ∃ places, DataW.whole enc Tryd.prog ((laidWorld os).forCall (fun _ _ => 0) ⟨#[], #[.int .i64 0, .int .i64 0], []⟩).memory Tryd.f7.params.toList Rows.quoteUnlikeSpec.vars false #[.int .i64 0, .int .i64 0].toList 8 = some ([.lit (.int .i64 0), .lit (.int .i64 0)], [], places) :=
  ⟨[], by kernel_rfl⟩
set_option maxRecDepth 100000 in
theorem lifted (os : Os) (started : os.Started) (H : Type) (enc : TypeId × Value → H) (F : Stop.Interp) :
    ReturnsInHanded {} Tryd.checked os 7 .any ((OpenSpec.ofChange Rows.quoteUnlikeSpec).preRow enc Tryd.prog Tryd.f7 Rows.quoteUnlikeRow.domain false Rows.quoteUnlikeRow.laid) (((OpenSpec.ofChange Rows.quoteUnlikeSpec).at F).post enc Tryd.prog Tryd.f7 false true false false) := by
  obtain ⟨places, hx⟩ := reads os enc
  refine returnsInHanded_of_row (C := Tryd.checked) (s := OpenSpec.ofChange Rows.quoteUnlikeSpec) own started (by kernel_rfl) Tryd.func7
    (witness_row_at (enc := enc) (C := Tryd.checked) false (laidWorld os) #[.int .i64 0, .int .i64 0] rfl (by kernel_rfl) (by kernel_rfl) (by kernel_rfl)
      (OpenSpec.preRow_of_cond 8 hx (by kernel_rfl) (fun k hk => by cases hk) (by kernel_rfl) (laid_met os))) ?_
  intro W base args ds gs before hval hW _ _ hsz hL _ _
  exact contract H enc W base args ds gs before hval hW ⟨_, hsz⟩ hL
theorem said : Rows.QuoteUnlikeSaid :=
  OpenClaim.holds_of_cond 7 Tryd.f7 rfl rfl rfl rfl rfl rfl rfl ⟨rfl, rfl, rfl, rfl, rfl⟩ rfl rfl rfl rfl rfl (by kernel_rfl) Tryd.func7 (by kernel_rfl)
    (of_decide_eq_true (by kernel_rfl)) (by unfold Func.isWrapper; first | (rw [if_pos (by decide +kernel)]; kernel_rfl) | (rw [if_neg (by decide +kernel)]; exact ⟨rfl, rfl⟩))
    (fun os started H enc _ F => by rw [OpenClaim.pre_eq_preRow]; exact lifted os started H enc F)
/-- No parameter wants a stand-in; the program's own looks are off: what the card asks. -/
theorem plain (f : FuncId) (fn : Func) (hf : Tryd.pinned.checked.prog.funcNamed "galley/galleylaw02.QuoteUnlike" = some f) (hfn : Tryd.pinned.checked.prog.funcs[f]? = some fn) :
    true = Tryd.pinned.checked.prog.looks [] ∧ ∀ (j : Nat) t, fn.params[j]? = some t → Tryd.pinned.checked.prog.wantsStandIn t = false := by
  obtain rfl : f = 7 := Option.some.inj ((show Tryd.prog.funcNamed "galley/galleylaw02.QuoteUnlike" = some 7 by kernel_rfl).symm.trans hf) |>.symm
  obtain rfl : fn = Tryd.f7 := (Option.some.inj (Tryd.func7.symm.trans hfn)).symm
  refine ⟨by kernel_rfl, fun j t ht => ?_⟩
  have : Tryd.f7.params.toList.all (fun t => Tryd.prog.wantsStandIn t == false) = true := by kernel_rfl
  have := List.all_eq_true.1 this t (Array.mem_toList_iff.2 (Array.mem_of_getElem? ht))
  exact eq_of_beq this
/-- The card. -/
theorem card : Rows.QuoteUnlikeCardSaid :=
  Claim7.holds_tied_plain_at .later [] _ _ _ _ said (fun _ h => by cases h) (by kernel_rfl) (fun _ h => by cases h) quoteUnlike_row_tie rfl ⟨rfl, rfl⟩ (by kernel_rfl) rfl plain (by kernel_rfl)
end Go.Proofs.YtfmaaempcpjpkaaDoor.quoteUnlike
namespace Go.Proofs.YtfmaaempcpjpkaaDoor
theorem quoteUnlike_card : Rows.QuoteUnlikeCardSaid := quoteUnlike.card
#print axioms quoteUnlike_card
end Go.Proofs.YtfmaaempcpjpkaaDoor
