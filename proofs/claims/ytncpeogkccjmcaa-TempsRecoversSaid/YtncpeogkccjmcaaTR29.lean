/- Texts that lead to the claim, one behind the other: Files and faults that are handed in: how they open. No conditions. -/
import Derived.Test.YtncpeogkccjmcaaTR1
import Derived.Test.YtncpeogkccjmcaaTR2
import Derived.Test.YtncpeogkccjmcaaTR28
import Derived.OpenShut
namespace Go.Proofs.Ytncpeogkccjmcaa
open Go.RowKit Go.ChangeShapes Go.WideShapes Go.Deep Go.ChangeAt

theorem OpensR.weaken {P : Program} {t : TypeId} {α : Type} {r : Rep α} {G G' : Nat → α → Prop} (h : OpensR P t r G) (hG : ∀ N y, G N y → G' N y) : OpensR P t r G' := by
  intro H enc w base spare held fuel cs x hx
  obtain ⟨y, hy, hw⟩ := h enc w base spare held fuel cs x hx
  exact ⟨y, hy, fun N hN => hG N y (hw N hN)⟩
theorem openBytesR : OpensR Try.prog 50 Rep.byte.slice (fun N l => l.length ≤ N) := OpensR.weaken (OpensR.slice (e := 5) Try.underlying50 (by kernel_rfl) (by decide) (OpensR.of (Opens.byte Try.underlying5))) fun N l h => by
  have h1 := h.1
  rw [show Try.prog.bytesOf 5 = 1 by kernel_rfl] at h1
  omega
theorem openIntsR : OpensR Try.prog 35 (Rep.int .i64).slice (fun N l => l.length * 8 ≤ N) := OpensR.weaken (OpensR.slice (e := 3) Try.underlying35 (by kernel_rfl) (by decide) (OpensR.of (Opens.int Try.underlying3))) fun N l h => by
  have h1 := h.1
  rw [show Try.prog.bytesOf 3 = 8 by kernel_rfl] at h1
  omega
set_option maxRecDepth 100000 in
theorem openFaultR : OpensR Try.prog 79 Rep.fault (fun _ _ => True) := by
  intro H enc w base spare held fuel cs x hx
  obtain ⟨ys, n', hn', hx', hlen, hyl, hf⟩ := DataW.trod_struct Try.underlying79 hx
  have e0 := hf 0 _ rfl
  have e1 := hf 1 _ rfl
  simp at hyl
  match ys, hyl with
  | [y0, y1], _ =>
  have hl : cs.length = 2 := hlen.trans (by kernel_rfl)
  match cs, hl with
  | [k0, k1], _ =>
  obtain ⟨a, r0, f0⟩ := Opens.int Try.underlying3 enc w base spare held _ [k0] y0 (by simpa [show Try.prog.cellsOf 3 = 1 by kernel_rfl] using e0)
  obtain ⟨b, r1, f1⟩ := Opens.int Try.underlying28 enc w base spare held _ [k1] y1 (by simpa [show Try.prog.cellsOf 28 = 1 by kernel_rfl] using e1)
  simp only [List.cons.injEq, and_true] at r0 r1
  subst r0 r1
  exact ⟨(a, b), ⟨rfl, f0, f1⟩, fun _ _ => trivial⟩
theorem openFaultsR : OpensR Try.prog 34 Rep.fault.slice (fun N l => l.length * 16 ≤ N) := OpensR.weaken (OpensR.slice (e := 79) Try.underlying34 (by kernel_rfl) (by decide) openFaultR) fun N l h => by
  have h1 := h.1
  rw [show Try.prog.bytesOf 79 = 16 by kernel_rfl] at h1
  omega
theorem sv_of (x : ByteArray) : Value.string x = sv x.data.toList := by simp [sv]
theorem len_of (x : ByteArray) : x.data.toList.length = x.size := by rw [Array.length_toList]; rfl
set_option maxRecDepth 100000 in
theorem open_file {H : Type} {enc : TypeId × Value → H} {w : World} {base : Nat} {spare : Nat → Bool} {held : Bool} {fuel : Nat} {cs : List Value} {x : DataW H × List MemPlace} (h : DataW.trod enc Try.prog w base spare held fuel 52 cs = some x) :
    ∃ (nm : ByteArray) (bs : List UInt8) (Abs : Option Addr) (cbs : Nat) (sy : Int) (bd : Bool), cs = [.string nm, .slice Abs bs.length cbs, .int .i64 sy, .bool bd] ∧ nm.size ≤ maxLen ∧ SliceAt Rep.byte w (under w.heap.size) Abs cbs bs ∧ (Lit.int .i64 sy).wf = true ∧ ∀ N, (x.1.weights Try.prog 52).all (· ≤ N) = true → (nm.size ≤ N) ∧ (bs.length ≤ N) := by
  obtain ⟨ys, n', hn', hx, hlen, hyl, hf⟩ := DataW.trod_struct Try.underlying52 h
  have e0 := hf 0 _ rfl
  have e1 := hf 1 _ rfl
  have e2 := hf 2 _ rfl
  have e3 := hf 3 _ rfl
  simp at hyl
  match ys, hyl with
  | [y0, y1, y2, y3], _ =>
  have hl : cs.length = 4 := hlen.trans (by kernel_rfl)
  match cs, hl with
  | [k0, k1, k2, k3], _ =>
  obtain ⟨nm, ⟨r0, f0⟩, w0⟩ := OpensR.str Try.underlying9 enc w base spare held _ [k0] y0 (by simpa [show Try.prog.cellsOf 9 = 1 by kernel_rfl] using e0)
  obtain ⟨bs, ⟨Abs, cbs, r1, f1⟩, w1⟩ := openBytesR enc w base spare held _ [k1] y1 (by simpa [show Try.prog.cellsOf 50 = 1 by kernel_rfl] using e1)
  obtain ⟨sy, r2, f2⟩ := Opens.int Try.underlying3 enc w base spare held _ [k2] y2 (by simpa [show Try.prog.cellsOf 3 = 1 by kernel_rfl] using e2)
  obtain ⟨bd, r3⟩ := Opens.bool Try.underlying4 enc w base spare held _ [k3] y3 (by simpa [show Try.prog.cellsOf 4 = 1 by kernel_rfl] using e3)
  simp only [Rep.bool, List.cons.injEq, and_true] at r0 r1 r2 r3
  subst r0 r1 r2 r3
  refine ⟨nm, bs, Abs, cbs, sy, bd, rfl, f0, f1, f2, fun N hN => ?_⟩
  rw [hx] at hN
  simp only [DataW.weights, Try.underlying52, List.map_cons, List.map_nil, DataW.weightsEach, List.all_append, Bool.and_eq_true] at hN
  obtain ⟨g0, g1, -, -, -⟩ := hN
  exact ⟨w0 N g0, w1 N g1⟩
theorem openFinR : OpensR Try.prog 52 Rep.fin (fun N x => x.name.length ≤ N ∧ x.bytes.length ≤ N) := by
  intro H enc w base spare held fuel cs x hx
  obtain ⟨nm, bs, Abs, cbs, sy, bd, rfl, a0, a1, a2, hw⟩ := open_file hx
  refine ⟨⟨nm.data.toList, bs, sy, bd⟩, ⟨Abs, cbs, by rw [sv_of], a1, by rw [len_of]; exact a0, a2⟩, fun N hN => ?_⟩
  obtain ⟨h1, h2⟩ := hw N hN
  exact ⟨by rw [len_of]; exact h1, h2⟩
theorem openFilesR : OpensR Try.prog 33 Rep.fin.slice (fun N l => l.length * 56 ≤ N ∧ ∀ x ∈ l, x.name.length ≤ N ∧ x.bytes.length ≤ N) := OpensR.weaken (OpensR.slice (e := 52) Try.underlying33 (by kernel_rfl) (by decide) openFinR) fun N l h => by
  obtain ⟨h1, h2⟩ := h
  rw [show Try.prog.bytesOf 52 = 56 by kernel_rfl] at h1
  exact ⟨by omega, h2⟩
end Go.Proofs.Ytncpeogkccjmcaa
