/- Texts that lead to the claim, one behind the other: Commands that are handed in: how they open. No conditions. -/
import Derived.Test.YtnpideapdjomgaaDoorRows
import Derived.Test.YtnpideapdjomgaaDoorRA1
import Derived.Test.YtnpideapdjomgaaDoorRA26
import Derived.OpenShut
namespace Go.Proofs.YtnpideapdjomgaaDoor
open Go.RowKit Go.ChangeShapes Go.WideShapes Go.Deep Go.ChangeAt

theorem weaken22 {P : Program} {t : TypeId} {α : Type} {r : Rep α} {G G' : Nat → α → Prop} (h : OpensR P t r G) (hG : ∀ N y, G N y → G' N y) : OpensR P t r G' := by
  intro H enc w base spare held fuel cs x hx
  obtain ⟨y, h1, h2⟩ := h enc w base spare held fuel cs x hx
  exact ⟨y, h1, fun N hN => hG N y (h2 N hN)⟩
theorem openBytes22 : OpensR Tryd.prog 39 Rep.byte.slice (fun N l => l.length ≤ N) := weaken22 (OpensR.slice (e := 5) Tryd.underlying39 (by kernel_rfl) (by decide) (OpensR.of (Opens.byte Tryd.underlying5))) fun N l h => by
  have := h.1
  rw [show Tryd.prog.bytesOf 5 = 1 by kernel_rfl] at this
  omega
set_option maxRecDepth 100000 in
theorem openPiece22 : OpensR Tryd.prog 76 Rep.piece (fun N p => p.text.length ≤ N) := by
  intro H enc w base spare held fuel cs x h
  obtain ⟨ys, n', hn', hy, hlen, hyl, hf⟩ := DataW.trod_struct Tryd.underlying76 h
  have e0 := hf 0 _ rfl
  have e1 := hf 1 _ rfl
  simp at hyl
  match ys, hyl with
  | [y0, y1], _ =>
  have hl2 : cs.length = 2 := hlen.trans (by kernel_rfl)
  match cs, hl2 with
  | [c0, c1], _ =>
  obtain ⟨a, r0⟩ := Opens.int Tryd.underlying3 enc w base spare held _ [c0] y0 (by simpa [show Tryd.prog.cellsOf 3 = 1 by kernel_rfl] using e0)
  obtain ⟨l, r1, w1⟩ := openBytes22 enc w base spare held _ [c1] y1 (by simpa [show Tryd.prog.cellsOf 39 = 1 by kernel_rfl] using e1)
  refine ⟨⟨a, l⟩, ⟨[c0], [c1], rfl, r0, r1⟩, fun N hN => ?_⟩
  rw [hy] at hN
  simp only [DataW.weights, Tryd.underlying76, List.map_cons, List.map_nil, DataW.weightsEach, List.all_append, Bool.and_eq_true] at hN
  exact w1 N (by first | exact hN.2.1 | exact hN.2)
theorem openPieces22 : OpensR Tryd.prog 40 Rep.piece.slice (fun N l => l.length ≤ N ∧ ∀ x ∈ l, x.text.length ≤ N) := weaken22 (OpensR.slice (e := 76) Tryd.underlying40 (by kernel_rfl) (by decide) openPiece22) fun N l h => by
  have := h.1
  rw [show Tryd.prog.bytesOf 76 = 32 by kernel_rfl] at this
  exact ⟨by omega, h.2⟩
theorem openU64_22 {H : Type} {enc : TypeId × Value → H} {w : World} {base : Nat} {spare : Nat → Bool} {held : Bool} {fuel : Nat} {cs : List Value} {x : DataW H × List MemPlace} (h : DataW.trod enc Tryd.prog w base spare held fuel 62 cs = some x) : ∃ y : Int, cs = [.int .u64 y] ∧ (Lit.int .u64 y).wf = true := by
  obtain ⟨n, rfl, _, hw⟩ := DataW.trod_int (k := .u64) (by kernel_rfl) h
  exact ⟨n, rfl, hw⟩
set_option maxRecDepth 100000 in
theorem openNd22 : Opens Tryd.prog 66 Rep.nd := by
  intro H enc w base spare held fuel cs x h
  obtain ⟨ys, n', hn', hy, hlen, hyl, hf⟩ := DataW.trod_struct Tryd.underlying66 h
  have e0 : DataW.trod enc Tryd.prog w base spare held n' 35 ((cs.drop 0).take (Tryd.prog.cellsOf 35)) = ys[0]? := hf 0 _ rfl
  have e1 : DataW.trod enc Tryd.prog w base spare held n' 64 ((cs.drop 1).take (Tryd.prog.cellsOf 64)) = ys[1]? := hf 1 _ rfl
  have e2 : DataW.trod enc Tryd.prog w base spare held n' 3 ((cs.drop 5).take (Tryd.prog.cellsOf 3)) = ys[2]? := hf 2 _ rfl
  have e3 : DataW.trod enc Tryd.prog w base spare held n' 3 ((cs.drop 6).take (Tryd.prog.cellsOf 3)) = ys[3]? := hf 3 _ rfl
  have e4 : DataW.trod enc Tryd.prog w base spare held n' 3 ((cs.drop 7).take (Tryd.prog.cellsOf 3)) = ys[4]? := hf 4 _ rfl
  have e5 : DataW.trod enc Tryd.prog w base spare held n' 3 ((cs.drop 8).take (Tryd.prog.cellsOf 3)) = ys[5]? := hf 5 _ rfl
  simp at hyl
  rw [List.getElem?_eq_getElem (by omega)] at e0 e1 e2 e3 e4 e5
  rw [show Tryd.prog.cellsOf 66 = 9 by kernel_rfl] at hlen
  rw [show Tryd.prog.cellsOf 35 = 1 by kernel_rfl] at e0
  rw [show Tryd.prog.cellsOf 64 = 4 by kernel_rfl] at e1
  rw [show Tryd.prog.cellsOf 3 = 1 by kernel_rfl] at e2 e3 e4 e5
  obtain ⟨op, h0, _, hw0⟩ := DataW.trod_int Tryd.underlying35 e0
  obtain ⟨X, h2, _, hw2⟩ := DataW.trod_int Tryd.underlying3 e2
  obtain ⟨Y, h3, _, hw3⟩ := DataW.trod_int Tryd.underlying3 e3
  obtain ⟨X4, h4, _, hw24⟩ := DataW.trod_int Tryd.underlying3 e4
  obtain ⟨Y5, h5, _, hw35⟩ := DataW.trod_int Tryd.underlying3 e5
  obtain ⟨zs, m', hm', hz, hzlen, hzl, hg⟩ := DataW.trod_array Tryd.underlying64 e1
  have g0 := hg 0 (by omega)
  have g1 := hg 1 (by omega)
  have g2 := hg 2 (by omega)
  have g3 := hg 3 (by omega)
  rw [List.getElem?_eq_getElem (by omega)] at g0 g1 g2 g3
  simp only [show Tryd.prog.cellsOf 62 = 1 by kernel_rfl] at g0 g1 g2 g3
  obtain ⟨q0, k0, hw4⟩ := openU64_22 g0
  obtain ⟨q1, k1, hw5⟩ := openU64_22 g1
  obtain ⟨q2, k2, hw6⟩ := openU64_22 g2
  obtain ⟨q3, k3, hw7⟩ := openU64_22 g3
  rcases cs with _ | ⟨a0, _ | ⟨a1, _ | ⟨a2, _ | ⟨a3, _ | ⟨a4, _ | ⟨a5, _ | ⟨a6, _ | ⟨a7, _ | ⟨a8, _ | ⟨a9, cs⟩⟩⟩⟩⟩⟩⟩⟩⟩⟩ <;> simp only [List.length_nil, List.length_cons] at hlen <;> try omega
  simp at h0 h2 h3 h4 h5 k0 k1 k2 k3
  subst h0 h2 h3 h4 h5 k0 k1 k2 k3
  exact ⟨⟨op, q0, q1, q2, q3, X, Y, X4, Y5⟩, rfl, hw0, hw4, hw5, hw6, hw7, hw2, hw3, hw24, hw35⟩
theorem openNds22 : OpensR Tryd.prog 36 Rep.nd.slice (fun N l => l.length ≤ N) := weaken22 (OpensR.slice (e := 66) Tryd.underlying36 (by kernel_rfl) (by decide) (OpensR.of openNd22)) fun N l h => by
  have := h.1
  rw [show Tryd.prog.bytesOf 66 = 72 by kernel_rfl] at this
  omega
set_option maxRecDepth 100000 in
theorem openAddr22 {H : Type} {enc : TypeId × Value → H} {w : World} {base : Nat} {spare : Nat → Bool} {held : Bool} {fuel : Nat} {cs : List Value} {x : DataW H × List MemPlace} (h : DataW.trod enc Tryd.prog w base spare held fuel 38 cs = some x) :
    ∃ (k n : Int) (re : List Nd) (A : Option Addr) (c : Nat), cs = [.int .i8 k, .int .i64 n, .slice A re.length c] ∧ (Lit.int .i8 k).wf = true ∧ (Lit.int .i64 n).wf = true ∧ SliceAt Rep.nd w (under w.heap.size) A c re ∧ ∀ N, (x.1.weights Tryd.prog 38).all (· ≤ N) = true → re.length ≤ N := by
  obtain ⟨ys, n', hn', hy, hlen, hyl, hf⟩ := DataW.trod_struct Tryd.underlying38 h
  have e0 := hf 0 _ rfl
  have e1 := hf 1 _ rfl
  have e2 := hf 2 _ rfl
  simp at hyl
  match ys, hyl with
  | [y0, y1, y2], _ =>
  have hl2 : cs.length = 3 := hlen.trans (by kernel_rfl)
  match cs, hl2 with
  | [c0, c1, c2], _ =>
  obtain ⟨a, r0, f0⟩ := Opens.int (k := .i8) Tryd.underlying35 enc w base spare held _ [c0] y0 (by simpa [show Tryd.prog.cellsOf 35 = 1 by kernel_rfl] using e0)
  obtain ⟨b, r1, f1⟩ := Opens.int Tryd.underlying3 enc w base spare held _ [c1] y1 (by simpa [show Tryd.prog.cellsOf 3 = 1 by kernel_rfl] using e1)
  obtain ⟨l, ⟨A, c, r2, f2⟩, w2⟩ := openNds22 enc w base spare held _ [c2] y2 (by simpa [show Tryd.prog.cellsOf 36 = 1 by kernel_rfl] using e2)
  simp only [List.cons.injEq, and_true] at r0 r1 r2
  subst r0 r1 r2
  refine ⟨a, b, l, A, c, rfl, f0, f1, f2, fun N hN => ?_⟩
  rw [hy] at hN
  simp only [DataW.weights, Tryd.underlying38, List.map_cons, List.map_nil, DataW.weightsEach, List.all_append, Bool.and_eq_true] at hN
  exact w2 N (by first | exact hN.2.2.1 | exact hN.2.2)
theorem bcells_of : ∀ cs : List Value, (∀ v ∈ cs, ∃ b : UInt8, v = .int .u8 b.toNat) → ∃ t, cs = bcells t := by
  intro cs
  induction cs with
  | nil => intro _; exact ⟨[], rfl⟩
  | cons v cs ih =>
    intro h
    obtain ⟨b, rfl⟩ := h v (by simp)
    obtain ⟨t, rfl⟩ := ih fun u hu => h u (List.mem_cons_of_mem _ hu)
    exact ⟨b :: t, rfl⟩
set_option maxRecDepth 100000 in
theorem openTable22 {H : Type} {enc : TypeId × Value → H} {w : World} {base : Nat} {spare : Nat → Bool} {held : Bool} {fuel : Nat} {cs : List Value} {x : DataW H × List MemPlace} (h : DataW.trod enc Tryd.prog w base spare held fuel 42 cs = some x) : ∃ t, cs = bcells t ∧ t.length = 256 := by
  obtain ⟨zs, m', hm', hz, hzlen, hzl, hg⟩ := DataW.trod_array Tryd.underlying42 h
  rw [show Tryd.prog.cellsOf 42 = 256 by kernel_rfl] at hzlen
  simp only [show Tryd.prog.cellsOf 5 = 1 by kernel_rfl] at hg
  obtain ⟨t, rfl⟩ := bcells_of cs (fun v hv => by
    obtain ⟨i, hi, rfl⟩ := List.mem_iff_getElem.1 hv
    have g := hg i (by omega)
    rw [List.getElem?_eq_getElem (by omega), Nat.mul_one] at g
    have e : (cs.drop i).take 1 = [cs[i]] := by rw [List.drop_eq_getElem_cons hi]; rfl
    rw [e] at g
    obtain ⟨b, hb⟩ := Opens.byte Tryd.underlying5 enc w base spare held _ _ _ g
    exact ⟨b, by simpa [Rep.byte] using hb⟩)
  exact ⟨t, rfl, by rwa [bcells_len] at hzlen⟩
set_option maxRecDepth 100000 in
set_option maxHeartbeats 2000000 in
theorem openCmd22 : OpensR Tryd.prog 44 Rep.cm (fun N c => c.a.re.length ≤ N ∧ c.b.re.length ≤ N ∧ c.text.length ≤ N ∧ c.re.length ≤ N ∧ c.fill.length ≤ N ∧ ∀ p ∈ c.fill, p.text.length ≤ N) := by
  intro H enc w base spare held fuel cs x h
  obtain ⟨ys, n', hn', hy, hlen, hyl, hf⟩ := DataW.trod_struct Tryd.underlying44 h
  have e0 : DataW.trod enc Tryd.prog w base spare held n' 38 ((cs.drop 0).take (Tryd.prog.cellsOf 38)) = ys[0]? := hf 0 _ rfl
  have e1 : DataW.trod enc Tryd.prog w base spare held n' 38 ((cs.drop 3).take (Tryd.prog.cellsOf 38)) = ys[1]? := hf 1 _ rfl
  have e2 : DataW.trod enc Tryd.prog w base spare held n' 4 ((cs.drop 6).take (Tryd.prog.cellsOf 4)) = ys[2]? := hf 2 _ rfl
  have e3 : DataW.trod enc Tryd.prog w base spare held n' 5 ((cs.drop 7).take (Tryd.prog.cellsOf 5)) = ys[3]? := hf 3 _ rfl
  have e4 : DataW.trod enc Tryd.prog w base spare held n' 3 ((cs.drop 8).take (Tryd.prog.cellsOf 3)) = ys[4]? := hf 4 _ rfl
  have e5 : DataW.trod enc Tryd.prog w base spare held n' 39 ((cs.drop 9).take (Tryd.prog.cellsOf 39)) = ys[5]? := hf 5 _ rfl
  have e6 : DataW.trod enc Tryd.prog w base spare held n' 36 ((cs.drop 10).take (Tryd.prog.cellsOf 36)) = ys[6]? := hf 6 _ rfl
  have e7 : DataW.trod enc Tryd.prog w base spare held n' 40 ((cs.drop 11).take (Tryd.prog.cellsOf 40)) = ys[7]? := hf 7 _ rfl
  have e8 : DataW.trod enc Tryd.prog w base spare held n' 3 ((cs.drop 12).take (Tryd.prog.cellsOf 3)) = ys[8]? := hf 8 _ rfl
  have e9 : DataW.trod enc Tryd.prog w base spare held n' 4 ((cs.drop 13).take (Tryd.prog.cellsOf 4)) = ys[9]? := hf 9 _ rfl
  have e10 : DataW.trod enc Tryd.prog w base spare held n' 4 ((cs.drop 14).take (Tryd.prog.cellsOf 4)) = ys[10]? := hf 10 _ rfl
  have e11 : DataW.trod enc Tryd.prog w base spare held n' 4 ((cs.drop 15).take (Tryd.prog.cellsOf 4)) = ys[11]? := hf 11 _ rfl
  have e12 : DataW.trod enc Tryd.prog w base spare held n' 42 ((cs.drop 16).take (Tryd.prog.cellsOf 42)) = ys[12]? := hf 12 _ rfl
  simp at hyl
  rw [show Tryd.prog.cellsOf 44 = 272 by kernel_rfl] at hlen
  rw [show Tryd.prog.cellsOf 38 = 3 by kernel_rfl] at e0 e1
  rw [show Tryd.prog.cellsOf 4 = 1 by kernel_rfl] at e2 e9 e10 e11
  rw [show Tryd.prog.cellsOf 5 = 1 by kernel_rfl] at e3
  rw [show Tryd.prog.cellsOf 3 = 1 by kernel_rfl] at e4 e8
  rw [show Tryd.prog.cellsOf 39 = 1 by kernel_rfl] at e5
  rw [show Tryd.prog.cellsOf 36 = 1 by kernel_rfl] at e6
  rw [show Tryd.prog.cellsOf 40 = 1 by kernel_rfl] at e7
  rw [show Tryd.prog.cellsOf 42 = 256 by kernel_rfl] at e12
  match ys, hyl with
  | [y0, y1, y2, y3, y4, y5, y6, y7, y8, y9, y10, y11, y12], _ =>
  obtain ⟨ak, an, are, A1, c1, h0, f01, f02, s0, w0⟩ := openAddr22 e0
  obtain ⟨bk, bn, bre, A2, c2, h1, f11, f12, s1, w1⟩ := openAddr22 e1
  obtain ⟨nt, h2⟩ := Opens.bool Tryd.underlying4 enc w base spare held _ _ _ e2
  obtain ⟨nm, h3⟩ := Opens.byte Tryd.underlying5 enc w base spare held _ _ _ e3
  obtain ⟨ps, h4, f4⟩ := Opens.int Tryd.underlying3 enc w base spare held _ _ _ e4
  obtain ⟨tx, ⟨A3, c3, h5, s5⟩, w5⟩ := openBytes22 enc w base spare held _ _ _ e5
  obtain ⟨re, ⟨A4, c4, h6, s6⟩, w6⟩ := openNds22 enc w base spare held _ _ _ e6
  obtain ⟨fi, ⟨A5, c5, h7, s7⟩, w7⟩ := openPieces22 enc w base spare held _ _ _ e7
  obtain ⟨ct, h8, f8⟩ := Opens.int Tryd.underlying3 enc w base spare held _ _ _ e8
  obtain ⟨al, h9⟩ := Opens.bool Tryd.underlying4 enc w base spare held _ _ _ e9
  obtain ⟨pr, h10⟩ := Opens.bool Tryd.underlying4 enc w base spare held _ _ _ e10
  obtain ⟨wr, h11⟩ := Opens.bool Tryd.underlying4 enc w base spare held _ _ _ e11
  obtain ⟨tb, h12, f12'⟩ := openTable22 e12
  have hh2 : (cs.drop 6).take 1 = [.bool nt] := h2
  have hh3 : (cs.drop 7).take 1 = [.int .u8 nm.toNat] := h3
  have hh9 : (cs.drop 13).take 1 = [.bool al] := h9
  have hh10 : (cs.drop 14).take 1 = [.bool pr] := h10
  have hh11 : (cs.drop 15).take 1 = [.bool wr] := h11
  refine ⟨⟨⟨ak, an, are⟩, ⟨bk, bn, bre⟩, nt, nm, ps, tx, re, fi, ct, al, pr, wr, tb⟩, ⟨⟨A1, c1, A2, c2, A3, c3, A4, c4, A5, c5⟩, ?_, ⟨f01, f02, f11, f12, f4, f8, f12'⟩, ⟨s0, s1, s5, s6, s7⟩⟩, fun N hN => ?_⟩
  · have e16 : cs.drop 16 = bcells tb := by rw [← h12, List.take_of_length_le (by rw [List.length_drop]; omega)]
    clear e0 e1 e2 e3 e4 e5 e6 e7 e8 e9 e10 e11 e12 h12 hf hy h2 h3 h9 h10 h11
    rcases cs with _ | ⟨a0, _ | ⟨a1, _ | ⟨a2, _ | ⟨a3, _ | ⟨a4, _ | ⟨a5, _ | ⟨a6, _ | ⟨a7, _ | ⟨a8, _ | ⟨a9, _ | ⟨a10, _ | ⟨a11, _ | ⟨a12, _ | ⟨a13, _ | ⟨a14, _ | ⟨a15, cs⟩⟩⟩⟩⟩⟩⟩⟩⟩⟩⟩⟩⟩⟩⟩⟩ <;> simp only [List.length_nil, List.length_cons] at hlen <;> try omega
    simp only [List.drop_succ_cons, List.drop_zero, List.take_succ_cons, List.take_zero, List.cons.injEq, and_true] at h0 h1 hh2 hh3 h4 h5 h6 h7 h8 hh9 hh10 hh11 e16
    obtain ⟨rfl, rfl, rfl⟩ := h0
    obtain ⟨rfl, rfl, rfl⟩ := h1
    subst hh2 hh3 h4 h5 h6 h7 h8 hh9 hh10 hh11 e16
    rfl
  · rw [hy] at hN
    simp only [DataW.weights, Tryd.underlying44, List.map_cons, List.map_nil, DataW.weightsEach, List.all_append, Bool.and_eq_true] at hN
    obtain ⟨g0, g1, -, -, -, g5, g6, g7, -⟩ := hN
    exact ⟨w0 N g0, w1 N g1, w5 N g5, w6 N g6, (w7 N g7).1, (w7 N g7).2⟩
theorem openCmds22 : OpensR Tryd.prog 22 Rep.cm.slice (fun N l => l.length ≤ N ∧ (N ≤ 140737488351232 → ∀ x ∈ l, x.reach)) := weaken22 (OpensR.slice (e := 44) Tryd.underlying22 (by kernel_rfl) (by decide) openCmd22) fun N l h => by
  have := h.1
  rw [show Tryd.prog.bytesOf 44 = 440 by kernel_rfl] at this
  refine ⟨by omega, fun hN x hx => ?_⟩
  obtain ⟨a, b, c, d, e, f⟩ := h.2 x hx
  exact ⟨by omega, by omega, by omega, by omega, by omega, fun p hp => Nat.le_trans (f p hp) hN⟩
end Go.Proofs.YtnpideapdjomgaaDoor
