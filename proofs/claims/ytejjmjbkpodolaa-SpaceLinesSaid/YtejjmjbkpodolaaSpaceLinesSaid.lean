/- The law SpaceLines: for every input it returns true and leaves what it was handed as it was. No conditions. -/
import Derived.Test.YtejjmjbkpodolaaRows
import Derived.Test.YtejjmjbkpodolaaChecked
import Derived.Test.YtejjmjbkpodolaaSaidR
import Derived.Test.YtejjmjbkpodolaaSpaceLines
import Derived.OpenShut
namespace Go.Proofs.Ytejjmjbkpodolaa
open Go.RowKit Go.ChangeShapes Go.WideShapes Go.ChangeAt

theorem openRows : OpensR Try.prog 50 Rep.byte.slice.slice (fun N l => l.length * Try.prog.bytesOf 22 ≤ N ∧ ∀ x ∈ l, x.length * Try.prog.bytesOf 5 ≤ N ∧ ∀ y ∈ x, True) := OpensR.slice (e := 22) Try.underlying50 (by kernel_rfl) (by decide) (OpensR.slice (e := 5) Try.underlying22 (by kernel_rfl) (by decide) (OpensR.of (Opens.byte Try.underlying5)))
theorem openBools : Opens Try.prog 51 Rep.bool.slice := Opens.slice (e := 4) Try.underlying51 (by kernel_rfl) (by decide) (Opens.bool Try.underlying4)
theorem own : ownKnob Try.prog.godebug = none := by kernel_rfl
theorem laidOut : laidOutB Try.prog = true := by kernel_rfl

set_option maxRecDepth 100000 in
theorem spaceLines_lifted (os : Os) (started : os.Started) (H : Type) (enc : TypeId × Value → H) :
    ReturnsInHanded {} Try.checked os 6 .any (Rows.spaceLinesSpec.pre6 enc Try.prog Try.f6 Rows.spaceLinesRow.domain false) (Rows.spaceLinesSpec.post enc Try.prog Try.f6 false true false false) := by
  refine returnsInHanded_of_change_sized (C := Try.checked) own started (by kernel_rfl) Try.func6
    (ChangeSpec.witness6 (enc := enc) (C := Try.checked) false ⟨#[], #[.int .i64 0, .slice none 0 0, .slice none 0 0], []⟩ 8 (by kernel_rfl) (by kernel_rfl) (by kernel_rfl) (by kernel_rfl)) ?_
  intro W base args ds gs before hval0 hW hcnd hsz _
  have hval : ∀ (j : Nat) t v, Try.f6.params[j]? = some t → args[j]? = some v → Value.okWide Try.prog W .any base t v := hval0
  have hW' := hW
  obtain ⟨p, q, hA0, hV, rfl, hfz, hnd⟩ := hW
  have hA : DataW.TrodAll enc Try.prog W 0 (fun _ => true) true Try.f6.params.toList args.toList ds p := hA0
  rw [Try.params6] at hA hval
  obtain ⟨v0, vs0, d0, ds0, p0, q0, hargs, rfl, rfl, h0, r0⟩ := trodAll_cons hA
  obtain ⟨v1, vs1, d1, ds1, p1, q1, rfl, rfl, rfl, h1, r1⟩ := trodAll_cons r0
  obtain ⟨v2, vs2, d2, ds2, p2, q2, rfl, rfl, rfl, h2, r2⟩ := trodAll_cons r1
  obtain ⟨rfl, rfl, rfl⟩ := trodAll_nil r2
  obtain rfl : args = #[v0, v1, v2] := by cases args; simp_all
  obtain ⟨rfl, rfl⟩ := trodVars_none hV
  obtain ⟨most, rfl, rfl, rfl, w0⟩ := open_int Try.underlying3 (hval 0 _ v0 rfl rfl) h0
  obtain ⟨A, c, l, rfl, hl, w1⟩ := openRows.sliceArg (fun cs e => by subst e; have := hval 1 _ _ rfl rfl; simp [Value.okWide, Try.underlying50, Cell.okWide, Cell.ok] at this) h1
  obtain ⟨C, cc, cs, rfl, hcs⟩ := openBools.sliceArg (fun cs e => by subst e; have := hval 2 _ _ rfl rfl; simp [Value.okWide, Try.underlying51, Cell.okWide, Cell.ok] at this) h2
  rw [Try.params6] at hsz
  simp only [List.cons_append, List.nil_append, List.append_nil, DataW.weightsEach, List.all_append, Bool.and_eq_true] at hsz
  have b1 := w1 reachBytes hsz.2.1
  simp only [reachBytes] at b1
  rw [show Try.prog.bytesOf 5 = 1 by kernel_rfl] at b1
  refine (spaceLines_any W most A C l.length c cs.length cc l cs (Lib.hid rfl) (Lib.hid hl) (Lib.hid fun o ho => by have := (b1.2 o ho).1; omega) (Lib.hid rfl) (Lib.hid hcs)).mono fun e W' ⟨he, hb⟩ => ?_
  subst he
  refine ⟨_, rfl, post_of_below (pa := _) (pv := []) hW' (fun _ _ _ => trodAll_mk1 (shut_bool Try.underlying4 _)) (fun sp hsp => ?_) (fun _ _ => rfl) rfl hb (ok_one (by kernel_rfl) rfl (okWide_bool_mk Try.underlying4 _))⟩
  refine TrodAll_below laidOut (fun t ht => ?_) hA0 hb (fun x hx => hW'.lt x (by simpa using hx)) sp (fun x hx => hsp x (by simpa using hx))
  have : Try.f6.params.toList.all (fun t => Try.prog.readableRec t && decide (t < Try.prog.types.size)) = true := by kernel_rfl
  have := List.all_eq_true.1 this t ht
  simpa using this

theorem spaceLines_holds : Rows.SpaceLinesSaid :=
  OpenClaim.holds_of_wide 6 Try.f6 rfl rfl rfl rfl rfl rfl rfl ⟨rfl, rfl, rfl, rfl, rfl⟩ rfl rfl rfl rfl rfl (by kernel_rfl) Try.func6 (by kernel_rfl)
    (of_decide_eq_true (by kernel_rfl)) (by unfold Func.isWrapper; first | (rw [if_pos (by decide +kernel)]; kernel_rfl) | (rw [if_neg (by decide +kernel)]; exact ⟨rfl, rfl⟩))
    (fun os started H enc _ => spaceLines_lifted os started H enc)

#print axioms spaceLines_holds
end Go.Proofs.Ytejjmjbkpodolaa
