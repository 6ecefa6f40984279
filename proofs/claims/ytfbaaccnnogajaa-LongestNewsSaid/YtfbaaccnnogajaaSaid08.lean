/- The arguments of chapter 8's laws: how they read. No conditions. -/
import Derived.Test.YtfbaaccnnogajaaRows
import Derived.Test.YtfbaaccnnogajaaSaid
import Derived.Test.YtfbaaccnnogajaaInstr
import Derived.OpenShut
namespace Go.Proofs.Ytfbaaccnnogajaa
open Go.RowKit Go.ChangeShapes Go.WideShapes Go.ChangeAt

theorem openU64 {H : Type} {enc : TypeId × Value → H} {w : World} {base : Nat} {spare : Nat → Bool} {held : Bool} {fuel : Nat} {cs : List Value} {x : DataW H × List MemPlace} (h : DataW.trod enc Try.prog w base spare held fuel 60 cs = some x) : ∃ y : Int, cs = [.int .u64 y] ∧ (Lit.int .u64 y).wf = true := by
  obtain ⟨n, rfl, _, hw⟩ := DataW.trod_int (k := .u64) (by kernel_rfl) h
  exact ⟨n, rfl, hw⟩
theorem openInstr : Opens Try.prog 64 Rep.instr := by
  intro H enc w base spare held fuel cs x h
  obtain ⟨ys, n', hn', hy, hlen, hyl, hf⟩ := DataW.trod_struct Try.underlying64 h
  have e0 : DataW.trod enc Try.prog w base spare held n' 55 ((cs.drop 0).take (Try.prog.cellsOf 55)) = ys[0]? := hf 0 _ rfl
  have e1 : DataW.trod enc Try.prog w base spare held n' 62 ((cs.drop 1).take (Try.prog.cellsOf 62)) = ys[1]? := hf 1 _ rfl
  have e2 : DataW.trod enc Try.prog w base spare held n' 3 ((cs.drop 5).take (Try.prog.cellsOf 3)) = ys[2]? := hf 2 _ rfl
  have e3 : DataW.trod enc Try.prog w base spare held n' 3 ((cs.drop 6).take (Try.prog.cellsOf 3)) = ys[3]? := hf 3 _ rfl
  simp at hyl
  rw [List.getElem?_eq_getElem (by omega)] at e0 e1 e2 e3
  rw [show Try.prog.cellsOf 64 = 7 by kernel_rfl] at hlen
  rw [show Try.prog.cellsOf 55 = 1 by kernel_rfl] at e0
  rw [show Try.prog.cellsOf 62 = 4 by kernel_rfl] at e1
  rw [show Try.prog.cellsOf 3 = 1 by kernel_rfl] at e2 e3
  obtain ⟨op, h0, _, hw0⟩ := DataW.trod_int Try.underlying55 e0
  obtain ⟨X, h2, _, hw2⟩ := DataW.trod_int Try.underlying3 e2
  obtain ⟨Y, h3, _, hw3⟩ := DataW.trod_int Try.underlying3 e3
  obtain ⟨zs, m', hm', hz, hzlen, hzl, hg⟩ := DataW.trod_array Try.underlying62 e1
  have g0 := hg 0 (by omega)
  have g1 := hg 1 (by omega)
  have g2 := hg 2 (by omega)
  have g3 := hg 3 (by omega)
  rw [List.getElem?_eq_getElem (by omega)] at g0 g1 g2 g3
  simp only [show Try.prog.cellsOf 60 = 1 by kernel_rfl] at g0 g1 g2 g3
  obtain ⟨q0, k0, hw4⟩ := openU64 g0
  obtain ⟨q1, k1, hw5⟩ := openU64 g1
  obtain ⟨q2, k2, hw6⟩ := openU64 g2
  obtain ⟨q3, k3, hw7⟩ := openU64 g3
  rcases cs with _ | ⟨a0, _ | ⟨a1, _ | ⟨a2, _ | ⟨a3, _ | ⟨a4, _ | ⟨a5, _ | ⟨a6, _ | ⟨a7, cs⟩⟩⟩⟩⟩⟩⟩⟩ <;> simp only [List.length_nil, List.length_cons] at hlen <;> try omega
  simp at h0 h2 h3 k0 k1 k2 k3
  subst h0 h2 h3 k0 k1 k2 k3
  exact ⟨⟨op, ⟨q0, q1, q2, q3⟩, X, Y⟩, Rep.instr_is.2 ⟨rfl, hw0, hw4, hw5, hw6, hw7, hw2, hw3⟩⟩
theorem openInstrs : Opens Try.prog 22 Rep.instr.slice := Opens.slice (e := 64) Try.underlying22 (by kernel_rfl) (by decide) openInstr
theorem openBytes : Opens Try.prog 23 Rep.byte.slice := Opens.slice (e := 5) Try.underlying23 (by kernel_rfl) (by decide) (Opens.byte Try.underlying5)
theorem own : ownKnob Try.prog.godebug = none := by kernel_rfl
theorem laidOut : laidOutB Try.prog = true := by kernel_rfl
end Go.Proofs.Ytfbaaccnnogajaa
