/- 'galleylaw30.InplaceWhole': wherever the power goes. No conditions. -/
import Derived.Test.YtfommpbblpnljaaRows
import Derived.Test.YtfommpbblpnljaaChecked
import Derived.Test.YtfommpbblpnljaaWH36
import Derived.Test.YtfommpbblpnljaaWH47
import Derived.OpenShut
namespace Go.Proofs.Ytfommpbblpnljaa
open Go.RowKit Go.ChangeShapes Go.WideShapes Go.Deep Go.ChangeAt

set_option maxRecDepth 100000 in
theorem open_case30 {H : Type} {enc : TypeId × Value → H} {w : World} {base : Nat} {spare : Nat → Bool} {held : Bool} {fuel : Nat} {cs : List Value} {x : DataW H × List MemPlace} (h : DataW.trod enc Try.prog w base spare held fuel 41 cs = some x) :
    ∃ (room : Int) (fs : List Disk.Fin_) (Afs : Option Addr) (cfs : Nat) (fl : List (Int × Int)) (Afl : Option Addr) (cfl : Nat) (nm : ByteArray) (acts : List Disk.ActV) (Aacts : Option Addr) (cacts : Nat) (dir : Int) (keep : List Int) (Akeep : Option Addr) (ckeep : Nat), cs = [.int .i64 room, .slice Afs fs.length cfs, .slice Afl fl.length cfl, .string nm, .slice Aacts acts.length cacts, .int .i64 dir, .slice Akeep keep.length ckeep] ∧ (Lit.int .i64 room).wf = true ∧ SliceAt Rep.fin w (under w.heap.size) Afs cfs fs ∧ SliceAt Rep.fault w (under w.heap.size) Afl cfl fl ∧ nm.size ≤ maxLen ∧ SliceAt Rep.actv w (under w.heap.size) Aacts cacts acts ∧ (Lit.int .i64 dir).wf = true ∧ SliceAt (Rep.int .i64) w (under w.heap.size) Akeep ckeep keep ∧ ∀ N, (x.1.weights Try.prog 41).all (· ≤ N) = true → (fs.length * 56 ≤ N ∧ ∀ x ∈ fs, x.name.length ≤ N ∧ x.bytes.length ≤ N) ∧ (fl.length * 16 ≤ N) ∧ (nm.size ≤ N) ∧ (acts.length * 56 ≤ N ∧ ∀ a ∈ acts, a.name.length ≤ N ∧ a.parts.length ≤ N ∧ ∀ p ∈ a.parts, p.length ≤ N) ∧ (keep.length * 8 ≤ N) := by
  obtain ⟨ys, n', hn', hx, hlen, hyl, hf⟩ := DataW.trod_struct Try.underlying41 h
  have e0 := hf 0 _ rfl
  have e1 := hf 1 _ rfl
  have e2 := hf 2 _ rfl
  have e3 := hf 3 _ rfl
  have e4 := hf 4 _ rfl
  have e5 := hf 5 _ rfl
  have e6 := hf 6 _ rfl
  simp at hyl
  match ys, hyl with
  | [y0, y1, y2, y3, y4, y5, y6], _ =>
  have hl : cs.length = 7 := hlen.trans (by kernel_rfl)
  match cs, hl with
  | [k0, k1, k2, k3, k4, k5, k6], _ =>
  obtain ⟨room, r0, f0⟩ := Opens.int Try.underlying3 enc w base spare held _ [k0] y0 (by simpa [show Try.prog.cellsOf 3 = 1 by kernel_rfl] using e0)
  obtain ⟨fs, ⟨Afs, cfs, r1, f1⟩, w1⟩ := openFilesR enc w base spare held _ [k1] y1 (by simpa [show Try.prog.cellsOf 37 = 1 by kernel_rfl] using e1)
  obtain ⟨fl, ⟨Afl, cfl, r2, f2⟩, w2⟩ := openFaultsR enc w base spare held _ [k2] y2 (by simpa [show Try.prog.cellsOf 27 = 1 by kernel_rfl] using e2)
  obtain ⟨nm, ⟨r3, f3⟩, w3⟩ := OpensR.str Try.underlying9 enc w base spare held _ [k3] y3 (by simpa [show Try.prog.cellsOf 9 = 1 by kernel_rfl] using e3)
  obtain ⟨acts, ⟨Aacts, cacts, r4, f4⟩, w4⟩ := openActsR enc w base spare held _ [k4] y4 (by simpa [show Try.prog.cellsOf 38 = 1 by kernel_rfl] using e4)
  obtain ⟨dir, r5, f5⟩ := Opens.int Try.underlying3 enc w base spare held _ [k5] y5 (by simpa [show Try.prog.cellsOf 3 = 1 by kernel_rfl] using e5)
  obtain ⟨keep, ⟨Akeep, ckeep, r6, f6⟩, w6⟩ := openIntsR enc w base spare held _ [k6] y6 (by simpa [show Try.prog.cellsOf 39 = 1 by kernel_rfl] using e6)
  simp only [List.cons.injEq, and_true] at r0 r1 r2 r3 r4 r5 r6
  subst r0 r1 r2 r3 r4 r5 r6
  refine ⟨room, fs, Afs, cfs, fl, Afl, cfl, nm, acts, Aacts, cacts, dir, keep, Akeep, ckeep, rfl, f0, f1, f2, f3, f4, f5, f6, fun N hN => ?_⟩
  rw [hx] at hN
  simp only [DataW.weights, Try.underlying41, List.map_cons, List.map_nil, DataW.weightsEach, List.all_append, Bool.and_eq_true] at hN
  obtain ⟨-, g1, g2, g3, g4, -, g6, -⟩ := hN
  exact ⟨w1 N g1, w2 N g2, w3 N g3, w4 N g4, w6 N g6⟩
set_option maxRecDepth 100000 in
theorem open_case30_arg {H : Type} {enc : TypeId × Value → H} {w : World} {base : Nat} {spare : Nat → Bool} {held : Bool} {v : Value} {d : DataW H} {p : List MemPlace} (h : DataW.Trod enc Try.prog w base spare held 41 v d p) :
    ∃ (room : Int) (fs : List Disk.Fin_) (Afs : Option Addr) (cfs : Nat) (fl : List (Int × Int)) (Afl : Option Addr) (cfl : Nat) (nm : ByteArray) (acts : List Disk.ActV) (Aacts : Option Addr) (cacts : Nat) (dir : Int) (keep : List Int) (Akeep : Option Addr) (ckeep : Nat), v = .agg #[.int .i64 room, .slice Afs fs.length cfs, .slice Afl fl.length cfl, .string nm, .slice Aacts acts.length cacts, .int .i64 dir, .slice Akeep keep.length ckeep] ∧ (Lit.int .i64 room).wf = true ∧ SliceAt Rep.fin w (under w.heap.size) Afs cfs fs ∧ SliceAt Rep.fault w (under w.heap.size) Afl cfl fl ∧ nm.size ≤ maxLen ∧ SliceAt Rep.actv w (under w.heap.size) Aacts cacts acts ∧ (Lit.int .i64 dir).wf = true ∧ SliceAt (Rep.int .i64) w (under w.heap.size) Akeep ckeep keep ∧ ∀ N, (d.weights Try.prog 41).all (· ≤ N) = true → (fs.length * 56 ≤ N ∧ ∀ x ∈ fs, x.name.length ≤ N ∧ x.bytes.length ≤ N) ∧ (fl.length * 16 ≤ N) ∧ (nm.size ≤ N) ∧ (acts.length * 56 ≤ N ∧ ∀ a ∈ acts, a.name.length ≤ N ∧ a.parts.length ≤ N ∧ ∀ p ∈ a.parts, p.length ≤ N) ∧ (keep.length * 8 ≤ N) := by
  obtain ⟨fuel, h⟩ := h
  obtain ⟨room, fs, Afs, cfs, fl, Afl, cfl, nm, acts, Aacts, cacts, dir, keep, Akeep, ckeep, hcs, a0, a1, a2, a3, a4, a5, a6, hw⟩ := open_case30 h
  refine ⟨room, fs, Afs, cfs, fl, Afl, cfl, nm, acts, Aacts, cacts, dir, keep, Akeep, ckeep, ?_, a0, a1, a2, a3, a4, a5, a6, hw⟩
  cases v with
  | agg cells =>
    obtain rfl : cells = #[.int .i64 room, .slice Afs fs.length cfs, .slice Afl fl.length cfl, .string nm, .slice Aacts acts.length cacts, .int .i64 dir, .slice Akeep keep.length ckeep] := by
      cases cells
      simpa [Value.cells] using hcs
    rfl
  | _ => simp [Value.cells] at hcs

theorem own : ownKnob Try.prog.godebug = none := by kernel_rfl
theorem laidOut : laidOutB Try.prog = true := by kernel_rfl

set_option maxRecDepth 100000 in
theorem inplaceWhole_lifted (os : Os) (started : os.Started) (H : Type) (enc : TypeId × Value → H) :
    ReturnsInHanded {} Try.checked os 5 .any (Rows.inplaceWholeSpec.pre6 enc Try.prog Try.f5 Rows.inplaceWholeRow.domain false) (Rows.inplaceWholeSpec.post enc Try.prog Try.f5 false true false false) := by
  refine returnsInHanded_of_change_sized (C := Try.checked) own started (by kernel_rfl) Try.func5
    (ChangeSpec.witness6 (enc := enc) (C := Try.checked) false ⟨#[], #[.agg #[.int .i64 0, .slice none 0 0, .slice none 0 0, .string ⟨#[]⟩, .slice none 0 0, .int .i64 0, .slice none 0 0], .slice none 0 0], []⟩ 8 (by kernel_rfl) (by kernel_rfl) (by kernel_rfl) (by kernel_rfl)) ?_
  intro W base args ds gs before hval0 hW hcnd hsz _
  have hval : ∀ (j : Nat) t v, Try.f5.params[j]? = some t → args[j]? = some v → Value.okWide Try.prog W .any base t v := hval0
  have hW' := hW
  obtain ⟨p, q, hA0, hV, rfl, hfz, hnd⟩ := hW
  have hA : DataW.TrodAll enc Try.prog W 0 (fun _ => true) true Try.f5.params.toList args.toList ds p := hA0
  rw [Try.params5] at hA hval
  obtain ⟨v0, vs0, d0, ds0, p0, q0, hargs, rfl, rfl, h0, r0⟩ := trodAll_cons hA
  obtain ⟨v1, vs1, d1, ds1, p1, q1, rfl, rfl, rfl, h1, r1⟩ := trodAll_cons r0
  obtain ⟨rfl, rfl, rfl⟩ := trodAll_nil r1
  obtain rfl : args = #[v0, v1] := by cases args; simp_all
  obtain ⟨rfl, rfl⟩ := trodVars_none hV
  obtain ⟨room, fs, Afs, cfs, fl, Afl, cfl, nm, acts, Aacts, cacts, dir, keep, Akeep, ckeep, rfl, a0, a1, a2, a3, a4, a5, a6, w0⟩ := open_case30_arg h0
  obtain ⟨cA, cc, cuts, rfl, hcl, w1⟩ := openIntsR.sliceArg (fun cs e => by subst e; have := hval 1 _ _ rfl rfl; simp [Value.okWide, Try.underlying39, Cell.okWide, Cell.ok] at this) h1
  rw [Try.params5] at hsz
  simp only [List.cons_append, List.nil_append, List.append_nil, DataW.weightsEach, List.all_append, Bool.and_eq_true] at hsz
  have b0 := w0 reachBytes hsz.1
  simp only [reachBytes] at b0
  have b1 := w1 reachBytes hsz.2.1
  simp only [reachBytes] at b1
  refine (inplaceWhole_law (w := W) ⟨room, Afs, fs.length, cfs, Afl, fl.length, cfl, nm, Aacts, acts.length, cacts, dir, Akeep, keep.length, ckeep⟩ fs fl acts keep cuts cA cuts.length cc (Lib.hid rfl) (Lib.hid rfl) (Lib.hid rfl) (Lib.hid rfl) (Lib.hid a1) (Lib.hid a2) (Lib.hid a4) (Lib.hid a6) (Lib.hid fun f hf => ⟨Nat.le_trans (b0.1.2 f hf).1 (by omega), Nat.le_trans (b0.1.2 f hf).2 (by omega)⟩) (Lib.hid fun a ha => ⟨Nat.le_trans (b0.2.2.2.1.2 a ha).1 (by omega), Nat.le_trans (b0.2.2.2.1.2 a ha).2.1 (by omega), fun p hp => Nat.le_trans ((b0.2.2.2.1.2 a ha).2.2 p hp) (by omega)⟩) (by dsimp only; omega) (by dsimp only; omega) (by dsimp only; omega) (by dsimp only; omega) (by dsimp only; omega) (Lib.hid rfl) (Lib.hid hcl) (by omega)).mono fun e W' ⟨he, hb⟩ => ?_
  subst he
  refine ⟨_, rfl, post_of_below (pa := _) (pv := []) hW' (fun _ _ _ => trodAll_mk1 (shut_bool Try.underlying4 _)) (fun sp hsp => ?_) (fun _ _ => rfl) rfl hb (ok_one (by kernel_rfl) rfl (okWide_bool_mk Try.underlying4 _))⟩
  refine TrodAll_below laidOut (fun t ht => ?_) hA0 hb (fun x hx => hW'.lt x (by simpa using hx)) sp (fun x hx => hsp x (by simpa using hx))
  have : Try.f5.params.toList.all (fun t => Try.prog.readableRec t && decide (t < Try.prog.types.size)) = true := by kernel_rfl
  have := List.all_eq_true.1 this t ht
  simpa using this

theorem inplaceWhole_holds : Rows.InplaceWholeSaid :=
  OpenClaim.holds_of_wide 5 Try.f5 rfl rfl rfl rfl rfl rfl rfl ⟨rfl, rfl, rfl, rfl, rfl⟩ rfl rfl rfl rfl rfl (by kernel_rfl) Try.func5 (by kernel_rfl)
    (of_decide_eq_true (by kernel_rfl)) (by unfold Func.isWrapper; first | (rw [if_pos (by decide +kernel)]; kernel_rfl) | (rw [if_neg (by decide +kernel)]; exact ⟨rfl, rfl⟩))
    (fun os started H enc _ => inplaceWhole_lifted os started H enc)

#print axioms inplaceWhole_holds
end Go.Proofs.Ytfommpbblpnljaa
