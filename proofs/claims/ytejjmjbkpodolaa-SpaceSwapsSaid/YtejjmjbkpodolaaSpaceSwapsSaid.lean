/- The law SpaceSwaps: for every input it returns true and leaves what it was handed as it was. No conditions. -/
import Derived.Test.YtejjmjbkpodolaaRows
import Derived.Test.YtejjmjbkpodolaaSaid
import Derived.Test.YtejjmjbkpodolaaSpaceSwaps2
import Derived.OpenShut
namespace Go.Proofs.Ytejjmjbkpodolaa
open Go.RowKit Go.ChangeShapes Go.WideShapes Go.ChangeAt

theorem openBytes : Opens Try.prog 22 Rep.byte.slice := Opens.slice (e := 5) Try.underlying22 (by kernel_rfl) (by decide) (Opens.byte Try.underlying5)
theorem own : ownKnob Try.prog.godebug = none := by kernel_rfl
theorem laidOut : laidOutB Try.prog = true := by kernel_rfl

set_option maxRecDepth 100000 in
theorem spaceSwaps_lifted (os : Os) (started : os.Started) (H : Type) (enc : TypeId × Value → H) :
    ReturnsInHanded {} Try.checked os 3 .any (Rows.spaceSwapsSpec.pre6 enc Try.prog Try.f3 Rows.spaceSwapsRow.domain false) (Rows.spaceSwapsSpec.post enc Try.prog Try.f3 false true false false) := by
  refine returnsInHanded_of_change_sized (C := Try.checked) own started (by kernel_rfl) Try.func3
    (ChangeSpec.witness6 (enc := enc) (C := Try.checked) false ⟨#[], #[.int .i64 0, .slice none 0 0, .slice none 0 0], []⟩ 8 (by kernel_rfl) (by kernel_rfl) (by kernel_rfl) (by kernel_rfl)) ?_
  intro W base args ds gs before hval0 hW hcnd hsz _
  have hval : ∀ (j : Nat) t v, Try.f3.params[j]? = some t → args[j]? = some v → Value.okWide Try.prog W .any base t v := hval0
  have hW' := hW
  obtain ⟨p, q, hA0, hV, rfl, hfz, hnd⟩ := hW
  have hA : DataW.TrodAll enc Try.prog W 0 (fun _ => true) true Try.f3.params.toList args.toList ds p := hA0
  rw [Try.params3] at hA hval
  obtain ⟨v0, vs0, d0, ds0, p0, q0, hargs, rfl, rfl, h0, r0⟩ := trodAll_cons hA
  obtain ⟨v1, vs1, d1, ds1, p1, q1, rfl, rfl, rfl, h1, r1⟩ := trodAll_cons r0
  obtain ⟨v2, vs2, d2, ds2, p2, q2, rfl, rfl, rfl, h2, r2⟩ := trodAll_cons r1
  obtain ⟨rfl, rfl, rfl⟩ := trodAll_nil r2
  obtain rfl : args = #[v0, v1, v2] := by cases args; simp_all
  obtain ⟨rfl, rfl⟩ := trodVars_none hV
  obtain ⟨most, rfl, rfl, rfl, w0⟩ := open_int Try.underlying3 (hval 0 _ v0 rfl rfl) h0
  obtain ⟨T1, c1, t1, rfl, ht1⟩ := openBytes.sliceArg (fun cs e => by subst e; have := hval 1 _ _ rfl rfl; simp [Value.okWide, Try.underlying22, Cell.okWide, Cell.ok] at this) h1
  obtain ⟨T2, c2, t2, rfl, ht2⟩ := openBytes.sliceArg (fun cs e => by subst e; have := hval 2 _ _ rfl rfl; simp [Value.okWide, Try.underlying22, Cell.okWide, Cell.ok] at this) h2
  have s1 := slice_len Try.underlying22 h1 hsz 1 rfl rfl
  have s2 := slice_len Try.underlying22 h2 hsz 2 rfl rfl
  rw [show Try.prog.bytesOf 5 = 1 by kernel_rfl] at s1 s2
  refine (spaceSwaps_any W T1 T2 t1.length c1 t2.length c2 most t1 t2 (Lib.hid ht1) (Lib.hid ht2) (Lib.hid rfl) (Lib.hid rfl) (by omega) (by omega)).mono fun e W' ⟨he, hb⟩ => ?_
  subst he
  refine ⟨_, rfl, post_of_below (pa := _) (pv := []) hW' (fun _ _ _ => trodAll_mk1 (shut_bool Try.underlying4 _)) (fun sp hsp => ?_) (fun _ _ => rfl) rfl hb (ok_one (by kernel_rfl) rfl (okWide_bool_mk Try.underlying4 _))⟩
  refine TrodAll_below laidOut (fun t ht => ?_) hA0 hb (fun x hx => hW'.lt x (by simpa using hx)) sp (fun x hx => hsp x (by simpa using hx))
  have : Try.f3.params.toList.all (fun t => Try.prog.readableRec t && decide (t < Try.prog.types.size)) = true := by kernel_rfl
  have := List.all_eq_true.1 this t ht
  simpa using this

theorem spaceSwaps_holds : Rows.SpaceSwapsSaid :=
  OpenClaim.holds_of_wide 3 Try.f3 rfl rfl rfl rfl rfl rfl rfl ⟨rfl, rfl, rfl, rfl, rfl⟩ rfl rfl rfl rfl rfl (by kernel_rfl) Try.func3 (by kernel_rfl)
    (of_decide_eq_true (by kernel_rfl)) (by unfold Func.isWrapper; first | (rw [if_pos (by decide +kernel)]; kernel_rfl) | (rw [if_neg (by decide +kernel)]; exact ⟨rfl, rfl⟩))
    (fun os started H enc _ => spaceSwaps_lifted os started H enc)

#print axioms spaceSwaps_holds
end Go.Proofs.Ytejjmjbkpodolaa
