/- The law WordsParts: for every input it returns true and leaves what it was handed as it was. No conditions. -/
import Derived.Test.YtooempbgpfhdcaaRows
import Derived.Test.YtooempbgpfhdcaaSaid
import Derived.Test.YtooempbgpfhdcaaWordsParts
import Derived.OpenShut
namespace Go.Proofs.Ytooempbgpfhdcaa
open Go.RowKit Go.ChangeShapes Go.WideShapes Go.ChangeAt

theorem openBytes : Opens Try.prog 22 Rep.byte.slice := Opens.slice (e := 5) Try.underlying22 (by kernel_rfl) (by decide) (Opens.byte Try.underlying5)
theorem own : ownKnob Try.prog.godebug = none := by kernel_rfl
theorem laidOut : laidOutB Try.prog = true := by kernel_rfl
theorem openMarks : Opens Try.prog 23 Rep.mark.slice := Opens.slice (e := 43) Try.underlying23 (by kernel_rfl) (by decide)
  (Opens.pair (fun a b => (a, b)) (fun _ _ => rfl) Try.underlying43 (by kernel_rfl) (by kernel_rfl) rfl rfl (by kernel_rfl) (Opens.byte Try.underlying5) (Opens.bool Try.underlying4))
theorem wfu8 {x : Int} (h : (Lit.int .u8 x).wf = true) : ∃ d : UInt8, x = d.toNat := by
  simp [Lit.wf, IntKind.min, IntKind.max, IntKind.signed, IntKind.bits] at h
  refine ⟨UInt8.ofNat x.toNat, ?_⟩
  simp
  omega

set_option maxRecDepth 100000 in
theorem wordsParts_lifted (os : Os) (started : os.Started) (H : Type) (enc : TypeId × Value → H) :
    ReturnsInHanded {} Try.checked os 3 .any (Rows.wordsPartsSpec.pre6 enc Try.prog Try.f3 Rows.wordsPartsRow.domain false) (Rows.wordsPartsSpec.post enc Try.prog Try.f3 false true false false) := by
  refine returnsInHanded_of_change_sized (C := Try.checked) own started (by kernel_rfl) Try.func3
    (ChangeSpec.witness6 (enc := enc) (C := Try.checked) false ⟨#[], #[.slice none 0 0, .slice none 0 0, .slice none 0 0, .int .u8 0, .bool false], []⟩ 8 (by kernel_rfl) (by kernel_rfl) (by kernel_rfl) (by kernel_rfl)) ?_
  intro W base args ds gs before hval0 hW hcnd hsz _
  have hval : ∀ (j : Nat) t v, Try.f3.params[j]? = some t → args[j]? = some v → Value.okWide Try.prog W .any base t v := hval0
  have hW' := hW
  obtain ⟨p, q, hA0, hV, rfl, hfz, hnd⟩ := hW
  have hA : DataW.TrodAll enc Try.prog W 0 (fun _ => true) true Try.f3.params.toList args.toList ds p := hA0
  rw [Try.params3] at hA hval
  obtain ⟨v0, vs0, d0, ds0, p0, q0, hargs, rfl, rfl, h0, r0⟩ := trodAll_cons hA
  obtain ⟨v1, vs1, d1, ds1, p1, q1, rfl, rfl, rfl, h1, r1⟩ := trodAll_cons r0
  obtain ⟨v2, vs2, d2, ds2, p2, q2, rfl, rfl, rfl, h2, r2⟩ := trodAll_cons r1
  obtain ⟨v3, vs3, d3, ds3, p3, q3, rfl, rfl, rfl, h3, r3⟩ := trodAll_cons r2
  obtain ⟨v4, vs4, d4, ds4, p4, q4, rfl, rfl, rfl, h4, r4⟩ := trodAll_cons r3
  obtain ⟨rfl, rfl, rfl⟩ := trodAll_nil r4
  obtain rfl : args = #[v0, v1, v2, v3, v4] := by cases args; simp_all
  obtain ⟨rfl, rfl⟩ := trodVars_none hV
  obtain ⟨T0, c0, t0, rfl, ht0⟩ := openBytes.sliceArg (fun cs e => by subst e; have := hval 0 _ _ rfl rfl; simp [Value.okWide, Try.underlying22, Cell.okWide, Cell.ok] at this) h0
  obtain ⟨T1, c1, t1, rfl, ht1⟩ := openBytes.sliceArg (fun cs e => by subst e; have := hval 1 _ _ rfl rfl; simp [Value.okWide, Try.underlying22, Cell.okWide, Cell.ok] at this) h1
  obtain ⟨T2, c2, t2, rfl, ht2⟩ := openMarks.sliceArg (fun cs e => by subst e; have := hval 2 _ _ rfl rfl; simp [Value.okWide, Try.underlying23, Cell.okWide, Cell.ok] at this) h2
  obtain ⟨y, rfl, rfl, rfl, w3⟩ := open_int Try.underlying5 (hval 3 _ v3 rfl rfl) h3
  obtain ⟨b, rfl, rfl, rfl⟩ := open_bool Try.underlying4 (hval 4 _ v4 rfl rfl) h4
  obtain ⟨d, rfl⟩ := wfu8 w3
  have s0 := slice_len Try.underlying22 h0 hsz 0 rfl rfl
  have s1 := slice_len Try.underlying22 h1 hsz 1 rfl rfl
  have s2 := slice_len Try.underlying23 h2 hsz 2 rfl rfl
  rw [show Try.prog.bytesOf 5 = 1 by kernel_rfl] at s0 s1
  rw [show Try.prog.bytesOf 43 = 2 by kernel_rfl] at s2
  refine (wordsParts_any T0 T1 T2 t0.length c0 t1.length c1 t2.length c2 t0 t1 t2 d b W (by omega) (by omega) (by omega) (Lib.hid rfl) (Lib.hid ht0) (Lib.hid rfl) (Lib.hid ht1) (Lib.hid rfl) (Lib.hid ht2)).mono fun e W' ⟨he, hb⟩ => ?_
  subst he
  refine ⟨_, rfl, post_of_below (pa := _) (pv := []) hW' (fun _ _ _ => trodAll_mk1 (shut_bool Try.underlying4 _)) (fun sp hsp => ?_) (fun _ _ => rfl) rfl hb (ok_one (by kernel_rfl) rfl (okWide_bool_mk Try.underlying4 _))⟩
  refine TrodAll_below laidOut (fun t ht => ?_) hA0 hb (fun x hx => hW'.lt x (by simpa using hx)) sp (fun x hx => hsp x (by simpa using hx))
  have : Try.f3.params.toList.all (fun t => Try.prog.readableRec t && decide (t < Try.prog.types.size)) = true := by kernel_rfl
  have := List.all_eq_true.1 this t ht
  simpa using this

theorem wordsParts_holds : Rows.WordsPartsSaid :=
  OpenClaim.holds_of_wide 3 Try.f3 rfl rfl rfl rfl rfl rfl rfl ⟨rfl, rfl, rfl, rfl, rfl⟩ rfl rfl rfl rfl rfl (by kernel_rfl) Try.func3 (by kernel_rfl)
    (of_decide_eq_true (by kernel_rfl)) (by unfold Func.isWrapper; first | (rw [if_pos (by decide +kernel)]; kernel_rfl) | (rw [if_neg (by decide +kernel)]; exact ⟨rfl, rfl⟩))
    (fun os started H enc _ => wordsParts_lifted os started H enc)

#print axioms wordsParts_holds
end Go.Proofs.Ytooempbgpfhdcaa
