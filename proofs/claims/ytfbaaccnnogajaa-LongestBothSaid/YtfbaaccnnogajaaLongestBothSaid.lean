/- The law LongestBoth: for every input it returns true and leaves what it was handed as it was. No conditions. -/
import Derived.Test.YtfbaaccnnogajaaSaid08
import Derived.Test.YtfbaaccnnogajaaLongestBoth4
import Derived.Lib.SmallJoins
namespace Go.Proofs.Ytfbaaccnnogajaa
open Go.RowKit Go.ChangeShapes Go.WideShapes Go.ChangeAt

theorem longestBoth_any (A B C : Option Addr) (ca cb ct : Nat) (at_ : Int) (Ma Mb : List Instr) (text : List UInt8) (w : World) (ha : SliceAt Rep.instr w (under w.heap.size) A ca Ma) (hb : SliceAt Rep.instr w (under w.heap.size) B cb Mb) (ht : SliceAt Rep.byte w (under w.heap.size) C ct text)
    (b1 : Ma.length ≤ 4611686018427387903) (b2 : Mb.length ≤ 4611686018427387903) :
    Calls Try.prog 6 #[.agg #[.slice A Ma.length ca, .slice B Mb.length cb, .slice C text.length ct, .int .i64 at_]] w fun e w' => e = .returned (.bool true) ∧ Below w.heap.size w w' := by
  by_cases h1 : 2147483647 < Ma.length + Mb.length ∨ 2147483647 < text.length
  · exact longestBoth_1 A B C _ ca _ cb _ ct at_ w b1 b2 h1
  by_cases h2 : Heavy (Ma.length + Mb.length + 1) text.length
  · exact longestBoth_2 A B C _ ca _ cb _ ct at_ w (by omega) (by omega) h2
  have h3 := ha.len; have h4 := ha.max; have h5 := hb.len; have h6 := hb.max
  by_cases hA : MShaped Ma <;> by_cases hB : MShaped Mb
  · by_cases h9 : 65536 < Ma.length + Mb.length
    · exact longestBoth_3d A B C _ ca _ cb _ ct at_ Ma Mb w (by omega) (by omega) (Lib.hid h2) (Lib.hid rfl) (Lib.hid rfl) (Lib.hid ha) (Lib.hid hb) (Lib.hid hA) (Lib.hid hB) h9
    · exact longestBoth_4 A B C _ ca _ cb _ ct at_ Ma Mb text w (by omega) (by omega) (Lib.hid h2) (Lib.hid rfl) (Lib.hid rfl) (Lib.hid ha) (Lib.hid hb) (Lib.hid hA) (Lib.hid hB) (by omega) (Lib.hid rfl) (Lib.hid ht) h3 h4 h5 h6
  · exact longestBoth_3c A B C _ ca _ cb _ ct at_ Ma Mb w (by omega) (by omega) (Lib.hid h2) (Lib.hid rfl) (Lib.hid rfl) (Lib.hid ha) (Lib.hid hb) (Lib.hid hA) (Lib.hid hB)
  · exact longestBoth_3b A B C _ ca _ cb _ ct at_ Ma Mb w (by omega) (by omega) (Lib.hid h2) (Lib.hid rfl) (Lib.hid rfl) (Lib.hid ha) (Lib.hid hb) (Lib.hid hA) (Lib.hid hB)
  · exact longestBoth_3a A B C _ ca _ cb _ ct at_ Ma Mb w (by omega) (by omega) (Lib.hid h2) (Lib.hid rfl) (Lib.hid rfl) (Lib.hid ha) (Lib.hid hb) (Lib.hid hA) (Lib.hid hB)
/-- A field that is a slice. -/
theorem Opens.sliceField {H : Type} {enc : TypeId × Value → H} {P : Program} {t e : TypeId} {α : Type} {r : Rep α} (ho : Opens P t r.slice) (hu : P.underlying t = some (.slice e)) {w : World} {base : Nat} {spare : Nat → Bool} {held : Bool} {fuel : Nat} {v : Value} {y : DataW H × List MemPlace} (h : DataW.trod enc P w base spare held fuel t [v] = some y)
    {ts : List TypeId} {ds : List (DataW H)} (hsz : (DataW.weightsEach P ts ds).all (· ≤ reachBytes) = true) (j : Nat) (htj : ts[j]? = some t) (hdj : ds[j]? = some y.1) :
    ∃ A c l, v = .slice A l.length c ∧ SliceAt r w (under w.heap.size) A c l ∧ l.length * P.bytesOf e ≤ 140737488351232 := by
  obtain ⟨l, A, c, e1, hs⟩ := ho enc w base spare held fuel _ _ h
  simp only [List.cons.injEq, and_true] at e1
  subst e1
  exact ⟨A, c, l, rfl, hs, slice_len (d := y.1) (p := y.2) hu ⟨fuel, by simpa [Value.cells] using h⟩ hsz j htj hdj⟩

set_option maxRecDepth 100000 in
theorem longestBoth_lifted (os : Os) (started : os.Started) (H : Type) (enc : TypeId × Value → H) :
    ReturnsInHanded {} Try.checked os 6 .any (Rows.longestBothSpec.pre6 enc Try.prog Try.f6 Rows.longestBothRow.domain false) (Rows.longestBothSpec.post enc Try.prog Try.f6 false true false false) := by
  refine returnsInHanded_of_change_sized (C := Try.checked) own started (by kernel_rfl) Try.func6
    (ChangeSpec.witness6 (enc := enc) (C := Try.checked) false ⟨#[], #[.agg #[.slice none 0 0, .slice none 0 0, .slice none 0 0, .int .i64 0]], []⟩ 8 (by kernel_rfl) (by kernel_rfl) (by kernel_rfl) (by kernel_rfl)) ?_
  intro W base args ds gs before hval0 hW hcnd hsz _
  have hval : ∀ (j : Nat) t v, Try.f6.params[j]? = some t → args[j]? = some v → Value.okWide Try.prog W .any base t v := hval0
  have hW' := hW
  obtain ⟨p, q, hA0, hV, rfl, hfz, hnd⟩ := hW
  have hA : DataW.TrodAll enc Try.prog W 0 (fun _ => true) true Try.f6.params.toList args.toList ds p := hA0
  rw [Try.params6] at hA hval
  obtain ⟨v0, vs0, d0, ds0, p0, q0, hargs, rfl, rfl, h0, r0⟩ := trodAll_cons hA
  obtain ⟨rfl, rfl, rfl⟩ := trodAll_nil r0
  obtain rfl : args = #[v0] := by cases args; simp_all
  obtain ⟨rfl, rfl⟩ := trodVars_none hV
  obtain ⟨u0, u1, u2, u3, y0, y1, y2, y3, nf, rfl, rfl, rfl, g0, g1, g2, g3⟩ := Joins.open_agg4 Try.underlying59 (by kernel_rfl) (by kernel_rfl) (hval 0 _ v0 rfl rfl) h0
  have hsz2 : (DataW.weightsEach Try.prog [22, 22, 23, 3] [y0.1, y1.1, y2.1, y3.1]).all (· ≤ reachBytes) = true := by
    refine List.all_eq_true.2 fun k hk => List.all_eq_true.1 hsz k (DataW.weights_mem_each (j := 0) rfl rfl k ?_)
    simp only [DataW.weights]
    exact hk
  obtain ⟨A, ca, Ma, rfl, hma, s1⟩ := openInstrs.sliceField Try.underlying22 g0 hsz2 0 rfl rfl
  obtain ⟨B, cb, Mb, rfl, hmb, s2⟩ := openInstrs.sliceField Try.underlying22 g1 hsz2 1 rfl rfl
  obtain ⟨T, ct, text, rfl, ht, -⟩ := openBytes.sliceField Try.underlying23 g2 hsz2 2 rfl rfl
  obtain ⟨at_, e3, -, -⟩ := DataW.trod_int Try.underlying3 g3
  simp only [List.cons.injEq, and_true] at e3
  subst e3
  rw [show Try.prog.bytesOf 64 = 56 by kernel_rfl] at s1 s2
  refine (longestBoth_any A B T ca cb ct at_ Ma Mb text W hma hmb ht (by omega) (by omega)).mono fun e W' ⟨he, hb⟩ => ?_
  subst he
  refine ⟨_, rfl, post_of_below (pa := _) (pv := []) hW' (fun _ _ _ => trodAll_mk1 (shut_bool Try.underlying4 _)) (fun sp hsp => ?_) (fun _ _ => rfl) rfl hb (ok_one (by kernel_rfl) rfl (okWide_bool_mk Try.underlying4 _))⟩
  refine TrodAll_below laidOut (fun t ht => ?_) hA0 hb (fun x hx => hW'.lt x (by simpa using hx)) sp (fun x hx => hsp x (by simpa using hx))
  have : Try.f6.params.toList.all (fun t => Try.prog.readableRec t && decide (t < Try.prog.types.size)) = true := by kernel_rfl
  have := List.all_eq_true.1 this t ht
  simpa using this

theorem longestBoth_holds : Rows.LongestBothSaid :=
  OpenClaim.holds_of_wide 6 Try.f6 rfl rfl rfl rfl rfl rfl rfl ⟨rfl, rfl, rfl, rfl, rfl⟩ rfl rfl rfl rfl rfl (by kernel_rfl) Try.func6 (by kernel_rfl)
    (of_decide_eq_true (by kernel_rfl)) (by unfold Func.isWrapper; first | (rw [if_pos (by decide +kernel)]; kernel_rfl) | (rw [if_neg (by decide +kernel)]; exact ⟨rfl, rfl⟩))
    (fun os started H enc _ => longestBoth_lifted os started H enc)

#print axioms longestBoth_holds
end Go.Proofs.Ytfbaaccnnogajaa
