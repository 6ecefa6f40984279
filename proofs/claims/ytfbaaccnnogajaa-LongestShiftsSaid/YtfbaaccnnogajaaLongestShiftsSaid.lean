/- The law LongestShifts: for every input it returns true and leaves what it was handed as it was. No conditions. -/
import Derived.Test.YtfbaaccnnogajaaSaid08
import Derived.Test.YtfbaaccnnogajaaLongestShifts
import Derived.Lib.SmallJoins
namespace Go.Proofs.Ytfbaaccnnogajaa
open Go.RowKit Go.ChangeShapes Go.WideShapes Go.ChangeAt

theorem longestShifts_any (A T1 T2 T3 : Option Addr) (cm ca ct cb : Nat) (M : List Instr) (ahead text behind : List UInt8) (w : World) (hm : SliceAt Rep.instr w (under w.heap.size) A cm M) (h3 : SliceAt Rep.byte w (under w.heap.size) T1 ca ahead) (h4 : SliceAt Rep.byte w (under w.heap.size) T2 ct text) (h5 : SliceAt Rep.byte w (under w.heap.size) T3 cb behind)
    (b1 : ahead.length ≤ 140737488351232) (b2 : text.length ≤ 140737488351232) (b3 : behind.length ≤ 140737488351232) :
    Calls Try.prog 5 #[.agg #[.slice A M.length cm, .slice T1 ahead.length ca, .slice T2 text.length ct, .slice T3 behind.length cb]] w fun e w' => e = .returned (.bool true) ∧ Below w.heap.size w w' := by
  by_cases h1 : 2147483647 < M.length ∨ 2147483647 < ahead.length + text.length + behind.length
  · exact longestShifts_1 A T1 T2 T3 _ cm _ ca _ ct _ cb w b1 b2 b3 h1
  by_cases h2 : Heavy M.length (ahead.length + text.length + behind.length)
  · exact longestShifts_2 A T1 T2 T3 _ cm _ ca _ ct _ cb w (by omega) (by omega) h2
  · exact longestShifts_3 A T1 T2 T3 _ cm _ ca _ ct _ cb M ahead text behind w (by omega) (by omega) (Lib.hid h2) (Lib.hid rfl) (Lib.hid hm) (Lib.hid rfl) (Lib.hid h3) (Lib.hid rfl) (Lib.hid h4) (Lib.hid rfl) (Lib.hid h5)
/-- A field that is a slice. -/
theorem Opens.sliceField {H : Type} {enc : TypeId × Value → H} {P : Program} {t e : TypeId} {α : Type} {r : Rep α} (ho : Opens P t r.slice) (hu : P.underlying t = some (.slice e)) {w : World} {base : Nat} {spare : Nat → Bool} {held : Bool} {fuel : Nat} {v : Value} {y : DataW H × List MemPlace} (h : DataW.trod enc P w base spare held fuel t [v] = some y)
    {ts : List TypeId} {ds : List (DataW H)} (hsz : (DataW.weightsEach P ts ds).all (· ≤ reachBytes) = true) (j : Nat) (htj : ts[j]? = some t) (hdj : ds[j]? = some y.1) :
    ∃ A c l, v = .slice A l.length c ∧ SliceAt r w (under w.heap.size) A c l ∧ l.length * P.bytesOf e ≤ 140737488351232 := by
  obtain ⟨l, A, c, e1, hs⟩ := ho enc w base spare held fuel _ _ h
  simp only [List.cons.injEq, and_true] at e1
  subst e1
  exact ⟨A, c, l, rfl, hs, slice_len (d := y.1) (p := y.2) hu ⟨fuel, by simpa [Value.cells] using h⟩ hsz j htj hdj⟩

set_option maxRecDepth 100000 in
theorem longestShifts_lifted (os : Os) (started : os.Started) (H : Type) (enc : TypeId × Value → H) :
    ReturnsInHanded {} Try.checked os 5 .any (Rows.longestShiftsSpec.pre6 enc Try.prog Try.f5 Rows.longestShiftsRow.domain false) (Rows.longestShiftsSpec.post enc Try.prog Try.f5 false true false false) := by
  refine returnsInHanded_of_change_sized (C := Try.checked) own started (by kernel_rfl) Try.func5
    (ChangeSpec.witness6 (enc := enc) (C := Try.checked) false ⟨#[], #[.agg #[.slice none 0 0, .slice none 0 0, .slice none 0 0, .slice none 0 0]], []⟩ 8 (by kernel_rfl) (by kernel_rfl) (by kernel_rfl) (by kernel_rfl)) ?_
  intro W base args ds gs before hval0 hW hcnd hsz _
  have hval : ∀ (j : Nat) t v, Try.f5.params[j]? = some t → args[j]? = some v → Value.okWide Try.prog W .any base t v := hval0
  have hW' := hW
  obtain ⟨p, q, hA0, hV, rfl, hfz, hnd⟩ := hW
  have hA : DataW.TrodAll enc Try.prog W 0 (fun _ => true) true Try.f5.params.toList args.toList ds p := hA0
  rw [Try.params5] at hA hval
  obtain ⟨v0, vs0, d0, ds0, p0, q0, hargs, rfl, rfl, h0, r0⟩ := trodAll_cons hA
  obtain ⟨rfl, rfl, rfl⟩ := trodAll_nil r0
  obtain rfl : args = #[v0] := by cases args; simp_all
  obtain ⟨rfl, rfl⟩ := trodVars_none hV
  obtain ⟨u0, u1, u2, u3, y0, y1, y2, y3, nf, rfl, rfl, rfl, g0, g1, g2, g3⟩ := Joins.open_agg4 Try.underlying53 (by kernel_rfl) (by kernel_rfl) (hval 0 _ v0 rfl rfl) h0
  have hsz2 : (DataW.weightsEach Try.prog [22, 23, 23, 23] [y0.1, y1.1, y2.1, y3.1]).all (· ≤ reachBytes) = true := by
    refine List.all_eq_true.2 fun k hk => List.all_eq_true.1 hsz k (DataW.weights_mem_each (j := 0) rfl rfl k ?_)
    simp only [DataW.weights]
    exact hk
  obtain ⟨A, cm, M, rfl, hm, -⟩ := openInstrs.sliceField Try.underlying22 g0 hsz2 0 rfl rfl
  obtain ⟨T1, ca, l1, rfl, hl1, s1⟩ := openBytes.sliceField Try.underlying23 g1 hsz2 1 rfl rfl
  obtain ⟨T2, ct, l2, rfl, hl2, s2⟩ := openBytes.sliceField Try.underlying23 g2 hsz2 2 rfl rfl
  obtain ⟨T3, cb, l3, rfl, hl3, s3⟩ := openBytes.sliceField Try.underlying23 g3 hsz2 3 rfl rfl
  rw [show Try.prog.bytesOf 5 = 1 by kernel_rfl] at s1 s2 s3
  refine (longestShifts_any A T1 T2 T3 cm ca ct cb M l1 l2 l3 W hm hl1 hl2 hl3 (by omega) (by omega) (by omega)).mono fun e W' ⟨he, hb⟩ => ?_
  subst he
  refine ⟨_, rfl, post_of_below (pa := _) (pv := []) hW' (fun _ _ _ => trodAll_mk1 (shut_bool Try.underlying4 _)) (fun sp hsp => ?_) (fun _ _ => rfl) rfl hb (ok_one (by kernel_rfl) rfl (okWide_bool_mk Try.underlying4 _))⟩
  refine TrodAll_below laidOut (fun t ht => ?_) hA0 hb (fun x hx => hW'.lt x (by simpa using hx)) sp (fun x hx => hsp x (by simpa using hx))
  have : Try.f5.params.toList.all (fun t => Try.prog.readableRec t && decide (t < Try.prog.types.size)) = true := by kernel_rfl
  have := List.all_eq_true.1 this t ht
  simpa using this

theorem longestShifts_holds : Rows.LongestShiftsSaid :=
  OpenClaim.holds_of_wide 5 Try.f5 rfl rfl rfl rfl rfl rfl rfl ⟨rfl, rfl, rfl, rfl, rfl⟩ rfl rfl rfl rfl rfl (by kernel_rfl) Try.func5 (by kernel_rfl)
    (of_decide_eq_true (by kernel_rfl)) (by unfold Func.isWrapper; first | (rw [if_pos (by decide +kernel)]; kernel_rfl) | (rw [if_neg (by decide +kernel)]; exact ⟨rfl, rfl⟩))
    (fun os started H enc _ => longestShifts_lifted os started H enc)

#print axioms longestShifts_holds
end Go.Proofs.Ytfbaaccnnogajaa
