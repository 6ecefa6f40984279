/- The law LongestNews: for every input it returns true and leaves what it was handed as it was. No conditions. -/
import Derived.Test.YtfbaaccnnogajaaSaid08
import Derived.Test.YtfbaaccnnogajaaLongestNews
namespace Go.Proofs.Ytfbaaccnnogajaa
open Go.RowKit Go.ChangeShapes Go.WideShapes Go.ChangeAt

theorem longestNews_any (A T : Option Addr) (cm ct : Nat) (M : List Instr) (text : List UInt8) (w : World) (hm : SliceAt Rep.instr w (under w.heap.size) A cm M) (ht : SliceAt Rep.byte w (under w.heap.size) T ct text) :
    Calls Try.prog 3 #[.slice A M.length cm, .slice T text.length ct] w fun e w' => e = .returned (.bool true) ∧ Below w.heap.size w w' := by
  by_cases h1 : 2147483647 < M.length ∨ 2147483647 < text.length
  · exact longestNews_1 A T _ cm _ ct w h1
  by_cases h2 : MShaped M
  · exact longestNews_2 A T _ cm _ ct M text w (by omega) (by omega) (Lib.hid rfl) (Lib.hid hm) (Lib.hid rfl) (Lib.hid ht) (Lib.hid h2)
  · exact longestNews_3 A T _ cm _ ct M text w (by omega) (by omega) (Lib.hid rfl) (Lib.hid hm) (Lib.hid rfl) (Lib.hid ht) (Lib.hid h2)

set_option maxRecDepth 100000 in
theorem longestNews_lifted (os : Os) (started : os.Started) (H : Type) (enc : TypeId × Value → H) :
    ReturnsInHanded {} Try.checked os 3 .any (Rows.longestNewsSpec.pre6 enc Try.prog Try.f3 Rows.longestNewsRow.domain false) (Rows.longestNewsSpec.post enc Try.prog Try.f3 false true false false) := by
  refine returnsInHanded_of_change_sized (C := Try.checked) own started (by kernel_rfl) Try.func3
    (ChangeSpec.witness6 (enc := enc) (C := Try.checked) false ⟨#[], #[.slice none 0 0, .slice none 0 0], []⟩ 8 (by kernel_rfl) (by kernel_rfl) (by kernel_rfl) (by kernel_rfl)) ?_
  intro W base args ds gs before hval0 hW hcnd hsz _
  have hval : ∀ (j : Nat) t v, Try.f3.params[j]? = some t → args[j]? = some v → Value.okWide Try.prog W .any base t v := hval0
  have hW' := hW
  obtain ⟨p, q, hA0, hV, rfl, hfz, hnd⟩ := hW
  have hA : DataW.TrodAll enc Try.prog W 0 (fun _ => true) true Try.f3.params.toList args.toList ds p := hA0
  rw [Try.params3] at hA hval
  obtain ⟨v0, vs0, d0, ds0, p0, q0, hargs, rfl, rfl, h0, r0⟩ := trodAll_cons hA
  obtain ⟨v1, vs1, d1, ds1, p1, q1, rfl, rfl, rfl, h1, r1⟩ := trodAll_cons r0
  obtain ⟨rfl, rfl, rfl⟩ := trodAll_nil r1
  obtain rfl : args = #[v0, v1] := by cases args; simp_all
  obtain ⟨rfl, rfl⟩ := trodVars_none hV
  obtain ⟨A, cm, M, rfl, hm⟩ := openInstrs.sliceArg (fun cs e => by subst e; have := hval 0 _ _ rfl rfl; simp [Value.okWide, Try.underlying22, Cell.okWide, Cell.ok] at this) h0
  obtain ⟨T, ct, t, rfl, ht⟩ := openBytes.sliceArg (fun cs e => by subst e; have := hval 1 _ _ rfl rfl; simp [Value.okWide, Try.underlying23, Cell.okWide, Cell.ok] at this) h1
  refine (longestNews_any A T cm ct M t W hm ht).mono fun e W' ⟨he, hb⟩ => ?_
  subst he
  refine ⟨_, rfl, post_of_below (pa := _) (pv := []) hW' (fun _ _ _ => trodAll_mk1 (shut_bool Try.underlying4 _)) (fun sp hsp => ?_) (fun _ _ => rfl) rfl hb (ok_one (by kernel_rfl) rfl (okWide_bool_mk Try.underlying4 _))⟩
  refine TrodAll_below laidOut (fun t ht => ?_) hA0 hb (fun x hx => hW'.lt x (by simpa using hx)) sp (fun x hx => hsp x (by simpa using hx))
  have : Try.f3.params.toList.all (fun t => Try.prog.readableRec t && decide (t < Try.prog.types.size)) = true := by kernel_rfl
  have := List.all_eq_true.1 this t ht
  simpa using this

theorem longestNews_holds : Rows.LongestNewsSaid :=
  OpenClaim.holds_of_wide 3 Try.f3 rfl rfl rfl rfl rfl rfl rfl ⟨rfl, rfl, rfl, rfl, rfl⟩ rfl rfl rfl rfl rfl (by kernel_rfl) Try.func3 (by kernel_rfl)
    (of_decide_eq_true (by kernel_rfl)) (by unfold Func.isWrapper; first | (rw [if_pos (by decide +kernel)]; kernel_rfl) | (rw [if_neg (by decide +kernel)]; exact ⟨rfl, rfl⟩))
    (fun os started H enc _ => longestNews_lifted os started H enc)

#print axioms longestNews_holds
end Go.Proofs.Ytfbaaccnnogajaa
