/- The law SpaceNil: for every input it returns true and leaves what it was handed as it was. No conditions. -/
import Derived.Test.YtejjmjbkpodolaaRows
import Derived.Test.YtejjmjbkpodolaaSaid
import Derived.Test.YtejjmjbkpodolaaSpaceNil
import Derived.OpenShut
namespace Go.Proofs.Ytejjmjbkpodolaa
open Go.RowKit Go.ChangeShapes Go.WideShapes Go.ChangeAt

theorem openBytes : Opens Try.prog 22 Rep.byte.slice := Opens.slice (e := 5) Try.underlying22 (by kernel_rfl) (by decide) (Opens.byte Try.underlying5)
theorem own : ownKnob Try.prog.godebug = none := by kernel_rfl
theorem laidOut : laidOutB Try.prog = true := by kernel_rfl
set_option maxRecDepth 100000 in
theorem open_op {H : Type} {enc : TypeId × Value → H} {w : World} {base : Nat} {spare : Nat → Bool} {held : Bool} {v : Value} {d : DataW H} {p : List MemPlace} (h : DataW.Trod enc Try.prog w base spare held 43 v d p) :
    ∃ (a b x : Int) (A : Option Addr) (n c : Nat), v = .agg #[.int .i64 a, .int .i64 b, .int .u8 x, .slice A n c] := by
  obtain ⟨fuel, h⟩ := h
  obtain ⟨ys, n', hn', hx, hlen, hyl, hf⟩ := DataW.trod_struct Try.underlying43 h
  have e0 := hf 0 _ rfl
  have e1 := hf 1 _ rfl
  have e2 := hf 2 _ rfl
  have e3 := hf 3 _ rfl
  simp at hyl
  match ys, hyl with
  | [y0, y1, y2, y3], _ =>
  have hl4 : v.cells.toList.length = 4 := hlen.trans (by kernel_rfl)
  generalize hcs : v.cells.toList = cs at *
  match cs, hl4 with
  | [c0, c1, c2, c3], _ =>
  obtain ⟨a, r0, -⟩ := Opens.int Try.underlying3 enc w base spare held _ [c0] y0 (by simpa [show Try.prog.cellsOf 3 = 1 by kernel_rfl] using e0)
  obtain ⟨b, r1, -⟩ := Opens.int Try.underlying3 enc w base spare held _ [c1] y1 (by simpa [show Try.prog.cellsOf 3 = 1 by kernel_rfl] using e1)
  obtain ⟨x, r2, -⟩ := Opens.int Try.underlying5 enc w base spare held _ [c2] y2 (by simpa [show Try.prog.cellsOf 5 = 1 by kernel_rfl] using e2)
  obtain ⟨l, A, c, r3, -⟩ := openBytes enc w base spare held _ [c3] y3 (by simpa [show Try.prog.cellsOf 22 = 1 by kernel_rfl] using e3)
  simp only [List.cons.injEq, and_true] at r0 r1 r2 r3
  subst r0 r1 r2 r3
  refine ⟨a, b, x, A, l.length, c, ?_⟩
  cases v with
  | agg cells =>
    obtain rfl : cells = #[.int .i64 a, .int .i64 b, .int .u8 x, .slice A l.length c] := by
      cases cells
      simpa [Value.cells] using hcs
    rfl
  | _ => simp [Value.cells] at hcs

set_option maxRecDepth 100000 in
theorem spaceNil_lifted (os : Os) (started : os.Started) (H : Type) (enc : TypeId × Value → H) :
    ReturnsInHanded {} Try.checked os 5 .any (Rows.spaceNilSpec.pre6 enc Try.prog Try.f5 Rows.spaceNilRow.domain false) (Rows.spaceNilSpec.post enc Try.prog Try.f5 false true false false) := by
  refine returnsInHanded_of_change_sized (C := Try.checked) own started (by kernel_rfl) Try.func5
    (ChangeSpec.witness6 (enc := enc) (C := Try.checked) false ⟨#[], #[.int .i64 0, .agg #[.int .i64 0, .int .i64 0, .int .u8 0, .slice none 0 0]], []⟩ 8 (by kernel_rfl) (by kernel_rfl) (by kernel_rfl) (by kernel_rfl)) ?_
  intro W base args ds gs before hval0 hW hcnd hsz _
  have hval : ∀ (j : Nat) t v, Try.f5.params[j]? = some t → args[j]? = some v → Value.okWide Try.prog W .any base t v := hval0
  have hW' := hW
  obtain ⟨p, q, hA0, hV, rfl, hfz, hnd⟩ := hW
  have hA : DataW.TrodAll enc Try.prog W 0 (fun _ => true) true Try.f5.params.toList args.toList ds p := hA0
  rw [Try.params5] at hA hval
  obtain ⟨v0, vs0, d0, ds0, p0, q0, hargs, rfl, rfl, h0, r0⟩ := trodAll_cons hA
  obtain ⟨v1, vs1, d1, ds1, p1, q1, rfl, rfl, rfl, h1, r1⟩ := trodAll_cons r0
  obtain ⟨rfl, rfl, rfl⟩ := trodAll_nil r1
  obtain rfl : args = #[v0, v1] := by cases args; simp_all
  obtain ⟨rfl, rfl⟩ := trodVars_none hV
  obtain ⟨most, rfl, rfl, rfl, w0⟩ := open_int Try.underlying3 (hval 0 _ v0 rfl rfl) h0
  obtain ⟨a, b, x, A, n, c, rfl⟩ := open_op h1
  refine (spaceNil_any W most a b x A n c).mono fun e W' ⟨he, hb⟩ => ?_
  subst he
  refine ⟨_, rfl, post_of_below (pa := _) (pv := []) hW' (fun _ _ _ => trodAll_mk1 (shut_bool Try.underlying4 _)) (fun sp hsp => ?_) (fun _ _ => rfl) rfl hb (ok_one (by kernel_rfl) rfl (okWide_bool_mk Try.underlying4 _))⟩
  refine TrodAll_below laidOut (fun t ht => ?_) hA0 hb (fun x hx => hW'.lt x (by simpa using hx)) sp (fun x hx => hsp x (by simpa using hx))
  have : Try.f5.params.toList.all (fun t => Try.prog.readableRec t && decide (t < Try.prog.types.size)) = true := by kernel_rfl
  have := List.all_eq_true.1 this t ht
  simpa using this

theorem spaceNil_holds : Rows.SpaceNilSaid :=
  OpenClaim.holds_of_wide 5 Try.f5 rfl rfl rfl rfl rfl rfl rfl ⟨rfl, rfl, rfl, rfl, rfl⟩ rfl rfl rfl rfl rfl (by kernel_rfl) Try.func5 (by kernel_rfl)
    (of_decide_eq_true (by kernel_rfl)) (by unfold Func.isWrapper; first | (rw [if_pos (by decide +kernel)]; kernel_rfl) | (rw [if_neg (by decide +kernel)]; exact ⟨rfl, rfl⟩))
    (fun os started H enc _ => spaceNil_lifted os started H enc)

#print axioms spaceNil_holds
end Go.Proofs.Ytejjmjbkpodolaa
