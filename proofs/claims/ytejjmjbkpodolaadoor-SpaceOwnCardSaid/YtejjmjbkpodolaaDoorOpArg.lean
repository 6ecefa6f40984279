/- A script of calls as an argument: how it reads, how long its rows are. No conditions. -/
import Derived.Test.YtejjmjbkpodolaaDoorChecked
import Derived.Test.YtejjmjbkpodolaaDoorSaidR
import Derived.Test.YtejjmjbkpodolaaDoorOps25
namespace Go.Proofs.YtejjmjbkpodolaaDoor
open Go.RowKit Go.ChangeShapes Go.WideShapes Go.Deep Go.ChangeAt

theorem openBytesR : OpensR Tryd.prog 55 Rep.byte.slice (fun N l => l.length * Tryd.prog.bytesOf 5 ≤ N ∧ ∀ x ∈ l, True) := OpensR.slice (e := 5) Tryd.underlying55 (by kernel_rfl) (by decide) (OpensR.of (Opens.byte Tryd.underlying5))
set_option maxRecDepth 100000 in
theorem openOp : OpensR Tryd.prog 57 Rep.op (fun N o => o.2.2.2.length ≤ N) := by
  intro H enc w base spare held fuel cs x h
  obtain ⟨ys, n', hn', hy, hlen, hyl, hf⟩ := DataW.trod_struct Tryd.underlying57 h
  have e0 := hf 0 _ rfl
  have e1 := hf 1 _ rfl
  have e2 := hf 2 _ rfl
  have e3 := hf 3 _ rfl
  simp at hyl
  match ys, hyl with
  | [y0, y1, y2, y3], _ =>
  have hl4 : cs.length = 4 := hlen.trans (by kernel_rfl)
  match cs, hl4 with
  | [c0, c1, c2, c3], _ =>
  obtain ⟨a, r0⟩ := Opens.int Tryd.underlying3 enc w base spare held _ [c0] y0 (by simpa [show Tryd.prog.cellsOf 3 = 1 by kernel_rfl] using e0)
  obtain ⟨b, r1⟩ := Opens.int Tryd.underlying3 enc w base spare held _ [c1] y1 (by simpa [show Tryd.prog.cellsOf 3 = 1 by kernel_rfl] using e1)
  obtain ⟨k, r2⟩ := Opens.byte Tryd.underlying5 enc w base spare held _ [c2] y2 (by simpa [show Tryd.prog.cellsOf 5 = 1 by kernel_rfl] using e2)
  obtain ⟨l, r3, w3⟩ := openBytesR enc w base spare held _ [c3] y3 (by simpa [show Tryd.prog.cellsOf 55 = 1 by kernel_rfl] using e3)
  refine ⟨(a, b, k, l), ⟨[c0], [c1, c2, c3], rfl, r0, [c1], [c2, c3], rfl, r1, [c2], [c3], rfl, r2, r3⟩, fun N hN => ?_⟩
  rw [hy] at hN
  simp only [DataW.weights, Tryd.underlying57, List.map_cons, List.map_nil, DataW.weightsEach, List.all_append, Bool.and_eq_true] at hN
  obtain ⟨-, -, -, h3, -⟩ := hN
  have := (w3 N h3).1
  rw [show Tryd.prog.bytesOf 5 = 1 by kernel_rfl] at this
  show l.length ≤ N
  omega
theorem openOps : OpensR Tryd.prog 22 Rep.op.slice (fun N l => l.length * Tryd.prog.bytesOf 57 ≤ N ∧ ∀ x ∈ l, x.2.2.2.length ≤ N) := OpensR.slice (e := 57) Tryd.underlying22 (by kernel_rfl) (by decide) openOp
end Go.Proofs.YtejjmjbkpodolaaDoor
