/- THE THEOREM OF STAGE 16, 'galleylaw16.FillBack': what is read is well shaped and what is written of it is read as the same; what is well shaped comes back. Condition: what comes in is of bulk at most 2^20 (the second form's bound). -/
import Derived.Test.YtebbilkkacbfjaaRows
import Derived.Test.YtebbilkkacbfjaaChecked
import Derived.Test.YtebbilkkacbfjaaFillBack
import Derived.Test.YtebbilkkacbfjaaSaidW
namespace Go.Proofs.Ytebbilkkacbfjaa
open Go.RowKit Go.ChangeShapes Go.WideShapes Go.Deep Go.ChangeAt

theorem openPiecesW : OpensW Try.prog 22 Rep.piece.slice (fun l => (l.map fun p => 1 + ((p.text.map fun _ => 1).sum + 1) + 1).sum + 1) :=
  OpensW.slice (e := 32) Try.underlying22 (by kernel_rfl) (by decide)
    (OpensW.pair (fun a b => ⟨a, b⟩) (fun _ _ => rfl) Try.underlying32 (by kernel_rfl) (by kernel_rfl) rfl rfl (by kernel_rfl) (OpensW.int Try.underlying3) (OpensW.slice (e := 5) Try.underlying23 (by kernel_rfl) (by decide) (OpensW.byte Try.underlying5)))
theorem openMarksW : OpensW Try.prog 34 Rep.mark.slice (fun l => (l.map fun _ => 1 + 1 + 1).sum + 1) :=
  OpensW.slice (e := 40) Try.underlying34 (by kernel_rfl) (by decide)
    (OpensW.pair (fun a b => ⟨a, b⟩) (fun _ _ => rfl) Try.underlying40 (by kernel_rfl) (by kernel_rfl) rfl rfl (by kernel_rfl) (OpensW.byte Try.underlying5) (OpensW.bool Try.underlying4))
theorem ones {α : Type} (l : List α) : (l.map fun _ => 1).sum = l.length := by
  induction l with
  | nil => rfl
  | cons a r ih => rw [List.map_cons, List.sum_cons, ih, List.length_cons]; omega
theorem wt_pieces (l : List Piece) : wt l ≤ (l.map fun p => 1 + ((p.text.map fun _ => 1).sum + 1) + 1).sum := by
  induction l with
  | nil => simp [wt]
  | cons p r ih =>
    rw [wt_cons, List.map_cons, List.sum_cons, ones]
    omega
theorem len_wt (l : List Piece) : l.length ≤ wt l := by
  induction l with
  | nil => simp
  | cons p r ih => rw [wt_cons, List.length_cons]; omega
theorem len_marks (l : List Mark) : l.length ≤ (l.map fun _ => 1 + 1 + 1).sum := by
  induction l with
  | nil => simp
  | cons p r ih => rw [List.map_cons, List.sum_cons, List.length_cons]; omega

theorem own : ownKnob Try.prog.godebug = none := by kernel_rfl
theorem laidOut : laidOutB Try.prog = true := by kernel_rfl

theorem fillBack_any (L A : Option Addr) (ca cb : Nat) (l : List Mark) (ps : List Piece) (w : World) (hl : SliceAt Rep.mark w (under w.heap.size) L ca l) (hp : SliceAt Rep.piece w (under w.heap.size) A cb ps) (h1 : l.length ≤ 1048576) (h2 : wt ps ≤ 1048576) :
    Calls Try.prog 4 #[.slice L l.length ca, .slice A ps.length cb] w fun e w' => e = .returned (.bool true) ∧ Below w.heap.size w w' := by
  have h3 := len_wt ps
  have h4 := hl.len
  have hw : Hid (wt ps ≤ 1073741823) := Lib.hid (by omega)
  rcases hq : parse l with _ | q
  · rcases hs : shaped ps with _ | _
    · exact fillBack_nu L A _ ca _ cb l ps w rfl rfl hl hp h4 (by omega) (by omega) hq hs
    · exact fillBack_ns L A _ ca _ cb l ps w rfl rfl hl hp h4 (by omega) (by omega) hw hq hs
  · rcases hs : shaped ps with _ | _
    · exact fillBack_su L A _ ca _ cb l ps w rfl rfl hl hp (by omega) (by omega) q hq hs
    · exact fillBack_ss L A _ ca _ cb l ps w rfl rfl hl hp (by omega) (by omega) hw q hq hs

set_option maxRecDepth 100000 in
theorem fillBack_lifted (os : Os) (started : os.Started) (H : Type) (enc : TypeId × Value → H) (F : Stop.Interp) :
    ReturnsInHanded {} Try.checked os 4 .any ((Rows.OpenSpec.upto Rows.fillBackSpec).pre6 enc Try.prog Try.f4 Rows.fillBackUptoRow.domain false) (((Rows.OpenSpec.upto Rows.fillBackSpec).at F).post enc Try.prog Try.f4 false true false false) := by
  refine returnsInHanded_of_cond (C := Try.checked) (s := Rows.OpenSpec.upto Rows.fillBackSpec) (k := Rows.uptoSmall) rfl own started (by kernel_rfl) Try.func4
    (OpenSpec.witness (enc := enc) (C := Try.checked) (s := Rows.OpenSpec.upto Rows.fillBackSpec) (k := Rows.uptoSmall) rfl false ⟨#[], #[.slice none 0 0, .slice none 0 0], []⟩ 8 (by kernel_rfl) (by kernel_rfl) (by kernel_rfl)
      (x := ([.nil, .nil], [], [])) (by kernel_rfl) rfl (by kernel_rfl)) ?_
  intro W base args ds gs before hval0 hW hcnd hk _
  have hval : ∀ (j : Nat) t v, Try.f4.params[j]? = some t → args[j]? = some v → Value.okWide Try.prog W .any base t v := hval0
  have hW' := hW
  obtain ⟨p, q, hA0, hV, rfl, hfz, hnd⟩ := hW
  have hA : DataW.TrodAll enc Try.prog W 0 (fun _ => true) true Try.f4.params.toList args.toList ds p := hA0
  rw [Try.params4] at hA hval
  obtain ⟨v0, vs0, d0, ds0, p0, q0, hargs, rfl, rfl, h0, r0⟩ := trodAll_cons hA
  obtain ⟨v1, vs1, d1, ds1, p1, q1, rfl, rfl, rfl, h1, r1⟩ := trodAll_cons r0
  obtain ⟨rfl, rfl, rfl⟩ := trodAll_nil r1
  obtain rfl : args = #[v0, v1] := by cases args; simp_all
  obtain ⟨rfl, rfl⟩ := trodVars_none hV
  obtain ⟨L, ca, l, rfl, hl, w0⟩ := openMarksW.sliceArg (fun cs e => by subst e; have := hval 0 _ _ rfl rfl; simp [Value.okWide, Try.underlying34, Cell.okWide, Cell.ok] at this) h0
  obtain ⟨A, cb, ps, rfl, hp, w1⟩ := openPiecesW.sliceArg (fun cs e => by subst e; have := hval 1 _ _ rfl rfl; simp [Value.okWide, Try.underlying22, Cell.okWide, Cell.ok] at this) h1
  have hb := bulk_le hk
  simp only [List.append_nil, Rows.uptoBulkAll] at hb
  have h3 := len_marks l
  have h4 := wt_pieces ps
  refine (fillBack_any L A ca cb l ps W hl hp (by omega) (by omega)).mono fun e W' ⟨he, hb⟩ => ?_
  subst he
  refine ⟨_, rfl, post_of_below (pa := _) (pv := []) hW' (fun _ _ _ => trodAll_mk1 (shut_bool Try.underlying4 _)) (fun sp hsp => ?_) (fun _ _ => rfl) rfl hb (ok_one (by kernel_rfl) rfl (okWide_bool_mk Try.underlying4 _))⟩
  refine TrodAll_below laidOut (fun t ht => ?_) hA0 hb (fun x hx => hW'.lt x (by simpa using hx)) sp (fun x hx => hsp x (by simpa using hx))
  have : Try.f4.params.toList.all (fun t => Try.prog.readableRec t && decide (t < Try.prog.types.size)) = true := by kernel_rfl
  have := List.all_eq_true.1 this t ht
  simpa using this

theorem fillBack_holds : Rows.FillBackUptoSaid :=
  OpenClaim.holds_of_cond 4 Try.f4 rfl rfl rfl rfl rfl rfl rfl ⟨rfl, rfl, rfl, rfl, rfl⟩ rfl rfl rfl rfl rfl (by kernel_rfl) Try.func4 (by kernel_rfl)
    (of_decide_eq_true (by kernel_rfl)) (by unfold Func.isWrapper; first | (rw [if_pos (by decide +kernel)]; kernel_rfl) | (rw [if_neg (by decide +kernel)]; exact ⟨rfl, rfl⟩))
    (fun os started H enc _ F => fillBack_lifted os started H enc F)

#print axioms fillBack_holds
end Go.Proofs.Ytebbilkkacbfjaa
