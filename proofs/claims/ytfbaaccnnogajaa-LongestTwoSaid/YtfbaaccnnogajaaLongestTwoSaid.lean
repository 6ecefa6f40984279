/- The law LongestTwo: for every input it returns true and leaves what it was handed as it was. No conditions. -/
import Derived.Test.YtfbaaccnnogajaaSaid08
import Derived.Test.YtfbaaccnnogajaaLongestTwo
namespace Go.Proofs.Ytfbaaccnnogajaa
open Go.RowKit Go.ChangeShapes Go.WideShapes Go.ChangeAt

theorem openRows : Opens Try.prog 70 Rep.byte.slice.slice := Opens.slice (e := 23) Try.underlying70 (by kernel_rfl) (by decide) openBytes
theorem longestTwo_any (A B C : Option Addr) (ca cb ct : Nat) (Ma Mb : List Instr) (L : List (List UInt8)) (w : World) (ha : SliceAt Rep.instr w (under w.heap.size) A ca Ma) (hb : SliceAt Rep.instr w (under w.heap.size) B cb Mb) (ht : SliceAt Rep.byte.slice w (under w.heap.size) C ct L) (h1 : Ma.length ≤ 140737488351232) (h2 : Mb.length ≤ 140737488351232) :
    Calls Try.prog 8 #[.slice A Ma.length ca, .slice B Mb.length cb, .slice C L.length ct] w fun e w' => e = .returned (.bool true) ∧ Below w.heap.size w w' := by
  by_cases h : 2147483647 < Ma.length + Mb.length ∨ 2147483647 < L.length
  · exact longestTwo_1 A B C _ ca _ cb _ ct w (by omega) (by omega) h
  · exact longestTwo_2 A B C _ ca _ cb _ ct Ma Mb L w (by omega) (by omega) (Lib.hid rfl) (Lib.hid rfl) (Lib.hid rfl) (Lib.hid ha) (Lib.hid hb) (Lib.hid ht) ht.len ht.max

set_option maxRecDepth 100000 in
theorem longestTwo_lifted (os : Os) (started : os.Started) (H : Type) (enc : TypeId × Value → H) :
    ReturnsInHanded {} Try.checked os 8 .any (Rows.longestTwoSpec.pre6 enc Try.prog Try.f8 Rows.longestTwoRow.domain false) (Rows.longestTwoSpec.post enc Try.prog Try.f8 false true false false) := by
  refine returnsInHanded_of_change_sized (C := Try.checked) own started (by kernel_rfl) Try.func8
    (ChangeSpec.witness6 (enc := enc) (C := Try.checked) false ⟨#[], #[.slice none 0 0, .slice none 0 0, .slice none 0 0], []⟩ 8 (by kernel_rfl) (by kernel_rfl) (by kernel_rfl) (by kernel_rfl)) ?_
  intro W base args ds gs before hval0 hW hcnd hsz _
  have hval : ∀ (j : Nat) t v, Try.f8.params[j]? = some t → args[j]? = some v → Value.okWide Try.prog W .any base t v := hval0
  have hW' := hW
  obtain ⟨p, q, hA0, hV, rfl, hfz, hnd⟩ := hW
  have hA : DataW.TrodAll enc Try.prog W 0 (fun _ => true) true Try.f8.params.toList args.toList ds p := hA0
  rw [Try.params8] at hA hval
  obtain ⟨v0, vs0, d0, ds0, p0, q0, hargs, rfl, rfl, h0, r0⟩ := trodAll_cons hA
  obtain ⟨v1, vs1, d1, ds1, p1, q1, rfl, rfl, rfl, h1, r1⟩ := trodAll_cons r0
  obtain ⟨v2, vs2, d2, ds2, p2, q2, rfl, rfl, rfl, h2, r2⟩ := trodAll_cons r1
  obtain ⟨rfl, rfl, rfl⟩ := trodAll_nil r2
  obtain rfl : args = #[v0, v1, v2] := by cases args; simp_all
  obtain ⟨rfl, rfl⟩ := trodVars_none hV
  obtain ⟨A, ca, Ma, rfl, ha⟩ := openInstrs.sliceArg (fun cs e => by subst e; have := hval 0 _ _ rfl rfl; simp [Value.okWide, Try.underlying22, Cell.okWide, Cell.ok] at this) h0
  obtain ⟨B, cb, Mb, rfl, hb0⟩ := openInstrs.sliceArg (fun cs e => by subst e; have := hval 1 _ _ rfl rfl; simp [Value.okWide, Try.underlying22, Cell.okWide, Cell.ok] at this) h1
  obtain ⟨C, ct, L, rfl, ht⟩ := openRows.sliceArg (fun cs e => by subst e; have := hval 2 _ _ rfl rfl; simp [Value.okWide, Try.underlying70, Cell.okWide, Cell.ok] at this) h2
  have s0 := slice_len Try.underlying22 h0 hsz 0 rfl rfl
  have s1 := slice_len Try.underlying22 h1 hsz 1 rfl rfl
  rw [show Try.prog.bytesOf 64 = 56 by kernel_rfl] at s0 s1
  refine (longestTwo_any A B C ca cb ct Ma Mb L W ha hb0 ht (by omega) (by omega)).mono fun e W' ⟨he, hb⟩ => ?_
  subst he
  refine ⟨_, rfl, post_of_below (pa := _) (pv := []) hW' (fun _ _ _ => trodAll_mk1 (shut_bool Try.underlying4 _)) (fun sp hsp => ?_) (fun _ _ => rfl) rfl hb (ok_one (by kernel_rfl) rfl (okWide_bool_mk Try.underlying4 _))⟩
  refine TrodAll_below laidOut (fun t ht => ?_) hA0 hb (fun x hx => hW'.lt x (by simpa using hx)) sp (fun x hx => hsp x (by simpa using hx))
  have : Try.f8.params.toList.all (fun t => Try.prog.readableRec t && decide (t < Try.prog.types.size)) = true := by kernel_rfl
  have := List.all_eq_true.1 this t ht
  simpa using this

theorem longestTwo_holds : Rows.LongestTwoSaid :=
  OpenClaim.holds_of_wide 8 Try.f8 rfl rfl rfl rfl rfl rfl rfl ⟨rfl, rfl, rfl, rfl, rfl⟩ rfl rfl rfl rfl rfl (by kernel_rfl) Try.func8 (by kernel_rfl)
    (of_decide_eq_true (by kernel_rfl)) (by unfold Func.isWrapper; first | (rw [if_pos (by decide +kernel)]; kernel_rfl) | (rw [if_neg (by decide +kernel)]; exact ⟨rfl, rfl⟩))
    (fun os started H enc _ => longestTwo_lifted os started H enc)

#print axioms longestTwo_holds
end Go.Proofs.Ytfbaaccnnogajaa
