/- 'galleylaw03.DiskSwap': wherever the power goes while a file is swapped for another one, it is wholly the old one or wholly the new one. No conditions. -/
import Derived.Test.YtignnohjggjkoaaRows
import Derived.Test.YtignnohjggjkoaaChecked
import Derived.Test.YtignnohjggjkoaaSaid
import Derived.Test.YtignnohjggjkoaaSaidR
import Derived.Test.YtignnohjggjkoaaDiskSwap
import Derived.OpenShut
namespace Go.Proofs.Ytignnohjggjkoaa
open Go.RowKit Go.ChangeShapes Go.WideShapes Go.Deep Go.ChangeAt

theorem OpensR.weaken {P : Program} {t : TypeId} {α : Type} {r : Rep α} {G G' : Nat → α → Prop} (h : OpensR P t r G) (hG : ∀ N y, G N y → G' N y) : OpensR P t r G' := by
  intro H enc w base spare held fuel cs x hx
  obtain ⟨y, hy, hw⟩ := h enc w base spare held fuel cs x hx
  exact ⟨y, hy, fun N hN => hG N y (hw N hN)⟩
theorem openBytesR : OpensR Try.prog 22 Rep.byte.slice (fun N l => l.length ≤ N) := OpensR.weaken (OpensR.slice (e := 5) Try.underlying22 (by kernel_rfl) (by decide) (OpensR.of (Opens.byte Try.underlying5))) fun N l h => by
  have h1 := h.1
  rw [show Try.prog.bytesOf 5 = 1 by kernel_rfl] at h1
  omega
theorem openIntsR : OpensR Try.prog 24 (Rep.int .i64).slice (fun N l => l.length * 8 ≤ N) := OpensR.weaken (OpensR.slice (e := 3) Try.underlying24 (by kernel_rfl) (by decide) (OpensR.of (Opens.int Try.underlying3))) fun N l h => by
  have h1 := h.1
  rw [show Try.prog.bytesOf 3 = 8 by kernel_rfl] at h1
  omega
theorem openRowsR : OpensR Try.prog 23 Rep.byte.slice.slice (fun N l => l.length * 24 ≤ N ∧ ∀ x ∈ l, x.length ≤ N) := OpensR.weaken (OpensR.slice (e := 22) Try.underlying23 (by kernel_rfl) (by decide) openBytesR) fun N l h => by
  obtain ⟨h1, h2⟩ := h
  rw [show Try.prog.bytesOf 22 = 24 by kernel_rfl] at h1
  exact ⟨by omega, h2⟩
set_option maxRecDepth 100000 in
theorem open_swap {H : Type} {enc : TypeId × Value → H} {w : World} {base : Nat} {spare : Nat → Bool} {held : Bool} {fuel : Nat} {cs : List Value} {x : DataW H × List MemPlace} (h : DataW.trod enc Try.prog w base spare held fuel 26 cs = some x) :
    ∃ (o : List UInt8) (Ao : Option Addr) (co : Nat) (ps : List (List UInt8)) (Aps : Option Addr) (cps : Nat) (at_ : Int) (last : Bool) (dir : Int) (keep : List Int) (Akeep : Option Addr) (ckeep : Nat), cs = [.slice Ao o.length co, .slice Aps ps.length cps, .int .i64 at_, .bool last, .int .i64 dir, .slice Akeep keep.length ckeep] ∧ SliceAt Rep.byte w (under w.heap.size) Ao co o ∧ SliceAt Rep.byte.slice w (under w.heap.size) Aps cps ps ∧ (Lit.int .i64 at_).wf = true ∧ (Lit.int .i64 dir).wf = true ∧ SliceAt (Rep.int .i64) w (under w.heap.size) Akeep ckeep keep ∧ ∀ N, (x.1.weights Try.prog 26).all (· ≤ N) = true → (o.length ≤ N) ∧ (ps.length * 24 ≤ N ∧ ∀ x ∈ ps, x.length ≤ N) ∧ (keep.length * 8 ≤ N) := by
  obtain ⟨ys, n', hn', hx, hlen, hyl, hf⟩ := DataW.trod_struct Try.underlying26 h
  have e0 := hf 0 _ rfl
  have e1 := hf 1 _ rfl
  have e2 := hf 2 _ rfl
  have e3 := hf 3 _ rfl
  have e4 := hf 4 _ rfl
  have e5 := hf 5 _ rfl
  simp at hyl
  match ys, hyl with
  | [y0, y1, y2, y3, y4, y5], _ =>
  have hl : cs.length = 6 := hlen.trans (by kernel_rfl)
  match cs, hl with
  | [k0, k1, k2, k3, k4, k5], _ =>
  obtain ⟨o, ⟨Ao, co, r0, f0⟩, w0⟩ := openBytesR enc w base spare held _ [k0] y0 (by simpa [show Try.prog.cellsOf 22 = 1 by kernel_rfl] using e0)
  obtain ⟨ps, ⟨Aps, cps, r1, f1⟩, w1⟩ := openRowsR enc w base spare held _ [k1] y1 (by simpa [show Try.prog.cellsOf 23 = 1 by kernel_rfl] using e1)
  obtain ⟨at_, r2, f2⟩ := Opens.int Try.underlying3 enc w base spare held _ [k2] y2 (by simpa [show Try.prog.cellsOf 3 = 1 by kernel_rfl] using e2)
  obtain ⟨last, r3⟩ := Opens.bool Try.underlying4 enc w base spare held _ [k3] y3 (by simpa [show Try.prog.cellsOf 4 = 1 by kernel_rfl] using e3)
  obtain ⟨dir, r4, f4⟩ := Opens.int Try.underlying3 enc w base spare held _ [k4] y4 (by simpa [show Try.prog.cellsOf 3 = 1 by kernel_rfl] using e4)
  obtain ⟨keep, ⟨Akeep, ckeep, r5, f5⟩, w5⟩ := openIntsR enc w base spare held _ [k5] y5 (by simpa [show Try.prog.cellsOf 24 = 1 by kernel_rfl] using e5)
  simp only [Rep.bool, List.cons.injEq, and_true] at r0 r1 r2 r3 r4 r5
  subst r0 r1 r2 r3 r4 r5
  refine ⟨o, Ao, co, ps, Aps, cps, at_, last, dir, keep, Akeep, ckeep, rfl, f0, f1, f2, f4, f5, fun N hN => ?_⟩
  rw [hx] at hN
  simp only [DataW.weights, Try.underlying26, List.map_cons, List.map_nil, DataW.weightsEach, List.all_append, Bool.and_eq_true] at hN
  obtain ⟨g0, g1, -, -, -, g5, -⟩ := hN
  exact ⟨w0 N g0, w1 N g1, w5 N g5⟩
set_option maxRecDepth 100000 in
theorem open_swap_arg {H : Type} {enc : TypeId × Value → H} {w : World} {base : Nat} {spare : Nat → Bool} {held : Bool} {v : Value} {d : DataW H} {p : List MemPlace} (h : DataW.Trod enc Try.prog w base spare held 26 v d p) :
    ∃ (o : List UInt8) (Ao : Option Addr) (co : Nat) (ps : List (List UInt8)) (Aps : Option Addr) (cps : Nat) (at_ : Int) (last : Bool) (dir : Int) (keep : List Int) (Akeep : Option Addr) (ckeep : Nat), v = .agg #[.slice Ao o.length co, .slice Aps ps.length cps, .int .i64 at_, .bool last, .int .i64 dir, .slice Akeep keep.length ckeep] ∧ SliceAt Rep.byte w (under w.heap.size) Ao co o ∧ SliceAt Rep.byte.slice w (under w.heap.size) Aps cps ps ∧ (Lit.int .i64 at_).wf = true ∧ (Lit.int .i64 dir).wf = true ∧ SliceAt (Rep.int .i64) w (under w.heap.size) Akeep ckeep keep ∧ ∀ N, (d.weights Try.prog 26).all (· ≤ N) = true → (o.length ≤ N) ∧ (ps.length * 24 ≤ N ∧ ∀ x ∈ ps, x.length ≤ N) ∧ (keep.length * 8 ≤ N) := by
  obtain ⟨fuel, h⟩ := h
  obtain ⟨o, Ao, co, ps, Aps, cps, at_, last, dir, keep, Akeep, ckeep, hcs, a0, a1, a2, a3, a4, hw⟩ := open_swap h
  refine ⟨o, Ao, co, ps, Aps, cps, at_, last, dir, keep, Akeep, ckeep, ?_, a0, a1, a2, a3, a4, hw⟩
  cases v with
  | agg cells =>
    obtain rfl : cells = #[.slice Ao o.length co, .slice Aps ps.length cps, .int .i64 at_, .bool last, .int .i64 dir, .slice Akeep keep.length ckeep] := by
      cases cells
      simpa [Value.cells] using hcs
    rfl
  | _ => simp [Value.cells] at hcs

theorem own : ownKnob Try.prog.godebug = none := by kernel_rfl
theorem laidOut : laidOutB Try.prog = true := by kernel_rfl

set_option maxRecDepth 100000 in
theorem diskSwap_lifted (os : Os) (started : os.Started) (H : Type) (enc : TypeId × Value → H) :
    ReturnsInHanded {} Try.checked os 3 .any (Rows.diskSwapSpec.pre6 enc Try.prog Try.f3 Rows.diskSwapRow.domain false) (Rows.diskSwapSpec.post enc Try.prog Try.f3 false true false false) := by
  refine returnsInHanded_of_change_sized (C := Try.checked) own started (by kernel_rfl) Try.func3
    (ChangeSpec.witness6 (enc := enc) (C := Try.checked) false ⟨#[], #[.agg #[.slice none 0 0, .slice none 0 0, .int .i64 0, .bool false, .int .i64 0, .slice none 0 0]], []⟩ 8 (by kernel_rfl) (by kernel_rfl) (by kernel_rfl) (by kernel_rfl)) ?_
  intro W base args ds gs before hval0 hW hcnd hsz _
  have hval : ∀ (j : Nat) t v, Try.f3.params[j]? = some t → args[j]? = some v → Value.okWide Try.prog W .any base t v := hval0
  have hW' := hW
  obtain ⟨p, q, hA0, hV, rfl, hfz, hnd⟩ := hW
  have hA : DataW.TrodAll enc Try.prog W 0 (fun _ => true) true Try.f3.params.toList args.toList ds p := hA0
  rw [Try.params3] at hA hval
  obtain ⟨v0, vs0, d0, ds0, p0, q0, hargs, rfl, rfl, h0, r0⟩ := trodAll_cons hA
  obtain ⟨rfl, rfl, rfl⟩ := trodAll_nil r0
  obtain rfl : args = #[v0] := by cases args; simp_all
  obtain ⟨rfl, rfl⟩ := trodVars_none hV
  obtain ⟨o, Ao, co, ps, Aps, cps, at_, last, dir, keep, Akeep, ckeep, rfl, a0, a1, a2, a3, a4, w0⟩ := open_swap_arg h0
  rw [Try.params3] at hsz
  simp only [List.cons_append, List.nil_append, List.append_nil, DataW.weightsEach, List.all_append, Bool.and_eq_true] at hsz
  have b0 := w0 reachBytes hsz.1
  simp only [reachBytes] at b0
  refine (diskSwap_any o ps at_ dir last keep Ao Aps Akeep o.length co ps.length cps keep.length ckeep (Lib.hid rfl) (Lib.hid rfl) (Lib.hid rfl) (Lib.hid a0) (Lib.hid a1) (Lib.hid a4) (Lib.hid a2) (by omega) (by omega) (Lib.hid fun p hp => Nat.le_trans (b0.2.1.2 p hp) (by omega))).mono fun e W' ⟨he, hb⟩ => ?_
  subst he
  refine ⟨_, rfl, post_of_below (pa := _) (pv := []) hW' (fun _ _ _ => trodAll_mk1 (shut_bool Try.underlying4 _)) (fun sp hsp => ?_) (fun _ _ => rfl) rfl hb (ok_one (by kernel_rfl) rfl (okWide_bool_mk Try.underlying4 _))⟩
  refine TrodAll_below laidOut (fun t ht => ?_) hA0 hb (fun x hx => hW'.lt x (by simpa using hx)) sp (fun x hx => hsp x (by simpa using hx))
  have : Try.f3.params.toList.all (fun t => Try.prog.readableRec t && decide (t < Try.prog.types.size)) = true := by kernel_rfl
  have := List.all_eq_true.1 this t ht
  simpa using this

theorem diskSwap_holds : Rows.DiskSwapSaid :=
  OpenClaim.holds_of_wide 3 Try.f3 rfl rfl rfl rfl rfl rfl rfl ⟨rfl, rfl, rfl, rfl, rfl⟩ rfl rfl rfl rfl rfl (by kernel_rfl) Try.func3 (by kernel_rfl)
    (of_decide_eq_true (by kernel_rfl)) (by unfold Func.isWrapper; first | (rw [if_pos (by decide +kernel)]; kernel_rfl) | (rw [if_neg (by decide +kernel)]; exact ⟨rfl, rfl⟩))
    (fun os started H enc _ => diskSwap_lifted os started H enc)

#print axioms diskSwap_holds
end Go.Proofs.Ytignnohjggjkoaa
