/- 'galleylaw03.DiskRefused': a call that is refused changes nothing. No conditions. -/
import Derived.Test.YtignnohjggjkoaaRows
import Derived.Test.YtignnohjggjkoaaChecked
import Derived.Test.YtignnohjggjkoaaRa40
import Derived.Test.YtignnohjggjkoaaRa46
import Derived.OpenShut
namespace Go.Proofs.Ytignnohjggjkoaa
open Go.RowKit Go.ChangeShapes Go.WideShapes Go.Deep Go.ChangeAt


theorem own : ownKnob Try.prog.godebug = none := by kernel_rfl
theorem laidOut : laidOutB Try.prog = true := by kernel_rfl

set_option maxRecDepth 100000 in
theorem diskRefused_lifted (os : Os) (started : os.Started) (H : Type) (enc : TypeId × Value → H) :
    ReturnsInHanded {} Try.checked os 5 .any (Rows.diskRefusedSpec.pre6 enc Try.prog Try.f5 Rows.diskRefusedRow.domain false) (Rows.diskRefusedSpec.post enc Try.prog Try.f5 false true false false) := by
  refine returnsInHanded_of_change_sized (C := Try.checked) own started (by kernel_rfl) Try.func5
    (ChangeSpec.witness6 (enc := enc) (C := Try.checked) false ⟨#[], #[.int .i64 0, .slice none 0 0, .slice none 0 0], []⟩ 8 (by kernel_rfl) (by kernel_rfl) (by kernel_rfl) (by kernel_rfl)) ?_
  intro W base args ds gs before hval0 hW hcnd hsz _
  have hval : ∀ (j : Nat) t v, Try.f5.params[j]? = some t → args[j]? = some v → Value.okWide Try.prog W .any base t v := hval0
  have hW' := hW
  obtain ⟨p, q, hA0, hV, rfl, hfz, hnd⟩ := hW
  have hA : DataW.TrodAll enc Try.prog W 0 (fun _ => true) true Try.f5.params.toList args.toList ds p := hA0
  rw [Try.params5] at hA hval
  obtain ⟨v0, vs0, d0, ds0, p0, q0, hargs, rfl, rfl, h0, r0⟩ := trodAll_cons hA
  obtain ⟨v1, vs1, d1, ds1, p1, q1, rfl, rfl, rfl, h1, r1⟩ := trodAll_cons r0
  obtain ⟨v2, vs2, d2, ds2, p2, q2, rfl, rfl, rfl, h2, r2⟩ := trodAll_cons r1
  obtain ⟨rfl, rfl, rfl⟩ := trodAll_nil r2
  obtain rfl : args = #[v0, v1, v2] := by cases args; simp_all
  obtain ⟨rfl, rfl⟩ := trodVars_none hV
  obtain ⟨room, rfl, rfl, rfl, wi0⟩ := open_int Try.underlying3 (hval 0 _ v0 rfl rfl) h0
  obtain ⟨A, c, l, rfl, hl, w1⟩ := openFilesR.sliceArg (fun cs e => by subst e; have := hval 1 _ _ rfl rfl; simp [Value.okWide, Try.underlying34, Cell.okWide, Cell.ok] at this) h1
  obtain ⟨B, d, ops, rfl, hops, w2⟩ := openOpsR.sliceArg (fun cs e => by subst e; have := hval 2 _ _ rfl rfl; simp [Value.okWide, Try.underlying46, Cell.okWide, Cell.ok] at this) h2
  rw [Try.params5] at hsz
  simp only [List.cons_append, List.nil_append, List.append_nil, DataW.weightsEach, List.all_append, Bool.and_eq_true] at hsz
  have b1 := w1 reachBytes hsz.2.1
  simp only [reachBytes] at b1
  have b2 := w2 reachBytes hsz.2.2.1
  simp only [reachBytes] at b2
  refine (diskRefused_any (w := W) room l ops A B l.length c ops.length d (Lib.hid rfl) (Lib.hid rfl) (Lib.hid hl) (Lib.hid hops) (Lib.hid fun f hf => ⟨Nat.le_trans (b1.2 f hf).1 (by omega), Nat.le_trans (b1.2 f hf).2 (by omega)⟩) (Lib.hid fun o ho => ⟨Nat.le_trans (b2.2 o ho).1 (by omega), Nat.le_trans (b2.2 o ho).2.1 (by omega), Nat.le_trans (b2.2 o ho).2.2.1 (by omega), Nat.le_trans (b2.2 o ho).2.2.2.1 (by omega), Nat.le_trans (b2.2 o ho).2.2.2.2 (by omega)⟩) (by omega) (by omega)).mono fun e W' ⟨he, hb⟩ => ?_
  subst he
  refine ⟨_, rfl, post_of_below (pa := _) (pv := []) hW' (fun _ _ _ => trodAll_mk1 (shut_bool Try.underlying4 _)) (fun sp hsp => ?_) (fun _ _ => rfl) rfl hb (ok_one (by kernel_rfl) rfl (okWide_bool_mk Try.underlying4 _))⟩
  refine TrodAll_below laidOut (fun t ht => ?_) hA0 hb (fun x hx => hW'.lt x (by simpa using hx)) sp (fun x hx => hsp x (by simpa using hx))
  have : Try.f5.params.toList.all (fun t => Try.prog.readableRec t && decide (t < Try.prog.types.size)) = true := by kernel_rfl
  have := List.all_eq_true.1 this t ht
  simpa using this

theorem diskRefused_holds : Rows.DiskRefusedSaid :=
  OpenClaim.holds_of_wide 5 Try.f5 rfl rfl rfl rfl rfl rfl rfl ⟨rfl, rfl, rfl, rfl, rfl⟩ rfl rfl rfl rfl rfl (by kernel_rfl) Try.func5 (by kernel_rfl)
    (of_decide_eq_true (by kernel_rfl)) (by unfold Func.isWrapper; first | (rw [if_pos (by decide +kernel)]; kernel_rfl) | (rw [if_neg (by decide +kernel)]; exact ⟨rfl, rfl⟩))
    (fun os started H enc _ => diskRefused_lifted os started H enc)

#print axioms diskRefused_holds
end Go.Proofs.Ytignnohjggjkoaa
