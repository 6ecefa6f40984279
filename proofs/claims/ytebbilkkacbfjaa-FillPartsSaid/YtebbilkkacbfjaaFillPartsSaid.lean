/- The law FillParts: for every input it returns true and leaves what it was handed as it was. No conditions. -/
import Derived.Test.YtebbilkkacbfjaaRows
import Derived.Test.YtebbilkkacbfjaaSaid
import Derived.Test.YtebbilkkacbfjaaFillParts
namespace Go.Proofs.Ytebbilkkacbfjaa
open Go.RowKit Go.ChangeShapes Go.WideShapes Go.ChangeAt

theorem openPieces : Opens Try.prog 22 Rep.piece.slice :=
  Opens.slice (e := 32) Try.underlying22 (by kernel_rfl) (by decide)
    (Opens.pair (fun a b => ⟨a, b⟩) (fun _ _ => rfl) Try.underlying32 (by kernel_rfl) (by kernel_rfl) rfl rfl (by kernel_rfl) (Opens.int Try.underlying3) (Opens.slice (e := 5) Try.underlying23 (by kernel_rfl) (by decide) (Opens.byte Try.underlying5)))
theorem openBytes : Opens Try.prog 23 Rep.byte.slice := Opens.slice (e := 5) Try.underlying23 (by kernel_rfl) (by decide) (Opens.byte Try.underlying5)
theorem openSpans : Opens Try.prog 24 Rep.span.slice :=
  Opens.slice (e := 30) Try.underlying24 (by kernel_rfl) (by decide)
    (Opens.pair (fun a b => ⟨a, b⟩) (fun _ _ => rfl) Try.underlying30 (by kernel_rfl) (by kernel_rfl) rfl rfl (by kernel_rfl) (Opens.int Try.underlying3) (Opens.int Try.underlying3))

theorem own : ownKnob Try.prog.godebug = none := by kernel_rfl
theorem laidOut : laidOutB Try.prog = true := by kernel_rfl

theorem fillParts_any (A T S : Option Addr) (ca ct cs : Nat) (ps : List Piece) (t : List UInt8) (ss : List Span) (cut : Int) (w : World)
    (hp : SliceAt Rep.piece w (under w.heap.size) A ca ps) (ht : SliceAt Rep.byte w (under w.heap.size) T ct t) (hs : SliceAt Rep.span w (under w.heap.size) S cs ss)
    (h1 : ps.length ≤ 35184372088832) (h2 : t.length ≤ 140737488355328) (h3 : ss.length ≤ 35184372088832) :
    Calls Try.prog 3 #[.slice A ps.length ca, .int .i64 cut, .slice T t.length ct, .slice S ss.length cs] w fun e w' => e = .returned (.bool true) ∧ Below w.heap.size w w' := by
  by_cases h : ps.length + t.length + ss.length ≤ 65536
  · by_cases hl : longFrom ss 0 ps ≤ 4194304
    · by_cases hc : cut < 0 ∨ (ps.length : Int) < cut
      · exact fillParts_3 A T S _ ca _ ct _ cs ps ss cut w rfl rfl hp hs hp.len hp.max ht.len ht.max hs.len hs.max h hl hc
      · obtain ⟨cu, rfl⟩ : ∃ cu : Nat, cut = cu := ⟨cut.toNat, by omega⟩
        exact fillParts_4 A T S _ ca _ ct _ cs ps t ss w rfl rfl rfl hp ht hs hp.len hp.max ht.len ht.max hs.len hs.max h hl cu (by omega)
    · exact fillParts_2 A T S _ ca _ ct _ cs ps ss cut w rfl rfl hp hs hp.len hp.max ht.len ht.max hs.len hs.max h (by omega)
  · exact fillParts_1 A T S _ ca _ ct _ cs cut w (by omega) h1 h2 h3

set_option maxRecDepth 100000 in
theorem fillParts_lifted (os : Os) (started : os.Started) (H : Type) (enc : TypeId × Value → H) :
    ReturnsInHanded {} Try.checked os 3 .any (Rows.fillPartsSpec.pre6 enc Try.prog Try.f3 Rows.fillPartsRow.domain false) (Rows.fillPartsSpec.post enc Try.prog Try.f3 false true false false) := by
  refine returnsInHanded_of_change_sized (C := Try.checked) own started (by kernel_rfl) Try.func3
    (ChangeSpec.witness6 (enc := enc) (C := Try.checked) false ⟨#[], #[.slice none 0 0, .int .i64 0, .slice none 0 0, .slice none 0 0], []⟩ 8 (by kernel_rfl) (by kernel_rfl) (by kernel_rfl) (by kernel_rfl)) ?_
  intro W base args ds gs before hval0 hW hcnd hsz _
  have hval : ∀ (j : Nat) t v, Try.f3.params[j]? = some t → args[j]? = some v → Value.okWide Try.prog W .any base t v := hval0
  have hW' := hW
  obtain ⟨p, q, hA0, hV, rfl, hfz, hnd⟩ := hW
  have hA : DataW.TrodAll enc Try.prog W 0 (fun _ => true) true Try.f3.params.toList args.toList ds p := hA0
  rw [Try.params3] at hA hval
  obtain ⟨v0, vs0, d0, ds0, p0, q0, hargs, rfl, rfl, h0, r0⟩ := trodAll_cons hA
  obtain ⟨v1, vs1, d1, ds1, p1, q1, rfl, rfl, rfl, h1, r1⟩ := trodAll_cons r0
  obtain ⟨v2, vs2, d2, ds2, p2, q2, rfl, rfl, rfl, h2, r2⟩ := trodAll_cons r1
  obtain ⟨v3, vs3, d3, ds3, p3, q3, rfl, rfl, rfl, h3, r3⟩ := trodAll_cons r2
  obtain ⟨rfl, rfl, rfl⟩ := trodAll_nil r3
  obtain rfl : args = #[v0, v1, v2, v3] := by cases args; simp_all
  obtain ⟨rfl, rfl⟩ := trodVars_none hV
  obtain ⟨A, ca, ps, rfl, hp⟩ := openPieces.sliceArg (fun cs e => by subst e; have := hval 0 _ _ rfl rfl; simp [Value.okWide, Try.underlying22, Cell.okWide, Cell.ok] at this) h0
  obtain ⟨cut, rfl, rfl, rfl, wc⟩ := open_int Try.underlying3 (hval 1 _ v1 rfl rfl) h1
  obtain ⟨T, ct, t, rfl, ht⟩ := openBytes.sliceArg (fun cs e => by subst e; have := hval 2 _ _ rfl rfl; simp [Value.okWide, Try.underlying23, Cell.okWide, Cell.ok] at this) h2
  obtain ⟨S, cs, ss, rfl, hs⟩ := openSpans.sliceArg (fun cs e => by subst e; have := hval 3 _ _ rfl rfl; simp [Value.okWide, Try.underlying24, Cell.okWide, Cell.ok] at this) h3
  have s0 := slice_len Try.underlying22 h0 hsz 0 rfl rfl
  have s2 := slice_len Try.underlying23 h2 hsz 2 rfl rfl
  have s3 := slice_len Try.underlying24 h3 hsz 3 rfl rfl
  rw [show Try.prog.bytesOf 32 = 32 by kernel_rfl] at s0
  rw [show Try.prog.bytesOf 5 = 1 by kernel_rfl] at s2
  rw [show Try.prog.bytesOf 30 = 16 by kernel_rfl] at s3
  refine (fillParts_any A T S ca ct cs ps t ss cut W hp ht hs (by omega) (by omega) (by omega)).mono fun e W' ⟨he, hb⟩ => ?_
  subst he
  refine ⟨_, rfl, post_of_below (pa := _) (pv := []) hW' (fun _ _ _ => trodAll_mk1 (shut_bool Try.underlying4 _)) (fun sp hsp => ?_) (fun _ _ => rfl) rfl hb (ok_one (by kernel_rfl) rfl (okWide_bool_mk Try.underlying4 _))⟩
  refine TrodAll_below laidOut (fun t ht => ?_) hA0 hb (fun x hx => hW'.lt x (by simpa using hx)) sp (fun x hx => hsp x (by simpa using hx))
  have : Try.f3.params.toList.all (fun t => Try.prog.readableRec t && decide (t < Try.prog.types.size)) = true := by kernel_rfl
  have := List.all_eq_true.1 this t ht
  simpa using this

theorem fillParts_holds : Rows.FillPartsSaid :=
  OpenClaim.holds_of_wide 3 Try.f3 rfl rfl rfl rfl rfl rfl rfl ⟨rfl, rfl, rfl, rfl, rfl⟩ rfl rfl rfl rfl rfl (by kernel_rfl) Try.func3 (by kernel_rfl)
    (of_decide_eq_true (by kernel_rfl)) (by unfold Func.isWrapper; first | (rw [if_pos (by decide +kernel)]; kernel_rfl) | (rw [if_neg (by decide +kernel)]; exact ⟨rfl, rfl⟩))
    (fun os started H enc _ => fillParts_lifted os started H enc)

#print axioms fillParts_holds
end Go.Proofs.Ytebbilkkacbfjaa
