/- Texts that lead to the claim, one behind the other: Is it what was resolved: the walk of resolve.Good. Condition: room; the library's variables hold what they hold. -/
import Derived.Test.YtnpideapdjomgaaDoorRA40
import Derived.Test.YtnpideapdjomgaaDoorRA44
namespace Go.Proofs.YtnpideapdjomgaaDoor
open Go.RowKit Go.ChangeShapes Go.WideShapes Go.Deep

def ba (t : ByteArray) : List UInt8 := t.data.toList
def Pg.good (p : Pg) : Bool := match Res.resolve (p.cmds.map Cm.rc) with
  | .ok r => decide (p.tos = r.1) && decide (p.files.map (fun t => t.data.toList) = r.2)
  | .error _ => false
theorem files_same (fs gs : List ByteArray) {r : List (List UInt8)} (h : fs.map (fun t => t.data.toList) = r) : decide (gs.map (fun t => t.data.toList) = r) = decide (gs = fs) := by
  subst h
  rw [Bool.eq_iff_iff, decide_eq_true_eq, decide_eq_true_eq]
  constructor
  · intro h
    induction gs generalizing fs with
    | nil => cases fs with | nil => rfl | cons a l => simp at h
    | cons b gs ih =>
      cases fs with
      | nil => simp at h
      | cons a l =>
        simp only [List.map_cons, List.cons.injEq] at h
        rw [ba_inj h.1, ih l h.2]
  · rintro rfl; rfl
set_option maxRecDepth 100000 in
set_option maxHeartbeats 8000000 in
theorem good_any {p : Pg} {s : PgS} {w : World} {S : Blocks} (hp : Hid (PgL w S p s)) (hS : Hid (∀ b, S b → b < w.heap.size)) (hE : Hid (Env22 w)) (hR : Hid (∀ x ∈ p.cmds, x.room)) (hn : Hid (p.cmds.length ≤ 33554432)) (X : Array Value) (hX : X = pcells p s) :
    Calls Tryd.prog 15 #[.agg X] w fun e w' => e = .returned (.bool p.good) ∧ Below w.heap.size w w' := by
  obtain ⟨w1, hw1⟩ : ∃ W, W = w.alloc (.cells X 28) := ⟨_, rfl⟩
  have HW1 := Lib.hid hw1
  have HB1 : Hid (Below w.heap.size w w1) := Lib.hid (by rw [hw1]; exact (Below.refl _ w).alloc (Nat.le_refl _) _)
  have HX1 : Hid (w1.heap[w.heap.size]? = some (.cells X 28 (0, 0))) := Lib.hid (by rw [hw1]; exact heap_alloc_new w _)
  obtain ⟨gx, hgx⟩ : ∃ g, g = w.heap.size := ⟨_, rfl⟩
  rw [← hgx] at HX1
  have HCX : Hid (∀ W, Below w1.heap.size w1 W → W.cell? ⟨gx, 0, none⟩ = some (.slice s.A1 p.cmds.length s.c1) ∧ W.cell? ⟨gx, 1, none⟩ = some (.slice s.A2 p.tos.length s.c2) ∧ W.cell? ⟨gx, 2, none⟩ = some (.slice s.A3 p.files.length s.c3) ∧ W.cell? ⟨gx, 3, none⟩ = some (.bool p.quiet)) := Lib.hid fun W hW => by
    have h : ∀ k, W.cell? ⟨gx, k, none⟩ = X[k]? := fun k => cell_of_row W gx k _ _ (0, 0) ((hW.block _ (Array.getElem?_eq_some_iff.1 HX1.out).1).trans HX1.out)
    refine ⟨?_, ?_, ?_, ?_⟩ <;> (rw [h, hX]; rfl)
  obtain ⟨x0, -, -, x3⟩ := HCX.out w1 (Below.refl _ _)
  have HRES : Hid (Calls Tryd.prog 8 #[.slice s.A1 p.cmds.length s.c1, .bool p.quiet] w1 fun e w' => ResAns p.cmds p.quiet w1 e w') := Lib.hid (resolve_any s.A1 _ s.c1 p.cmds p.quiet w1 S (Lib.hid rfl) (Lib.hid (hp.out.cmds.keep (fun _ h => h) (Same.of_below HB1.out hS.out))) (Lib.hid fun b h => Nat.lt_of_lt_of_le (hS.out b h) HB1.out.size) (Lib.hid (hE.out.below HB1.out)) hR hn.out)
  have HGX := Lib.hid hgx
  clear hX hw1 hgx
  go_enter Tryd.func15, Tryd.ntmps15
  go_upto_region 1 with fail
  rw [← HW1.out, ← HGX.out]
  cases hr : Res.resolve (p.cmds.map Cm.rc) with
  | error x =>
    have HG : Hid (p.good = false) := Lib.hid (by unfold Pg.good; rw [hr])
    have hx1 := (Res.resolve_code hr).1
    obtain ⟨xc, hxc⟩ : ∃ xc, xc = x.1 := ⟨_, rfl⟩
    have hne : (xc == 0) = false := by rw [hxc]; rcases hx1 with h | h | h | h | h <;> rw [h] <;> rfl
    have HRES2 : Hid (Calls Tryd.prog 8 #[.slice s.A1 p.cmds.length s.c1, .bool p.quiet] w1 fun e w' => (∃ y, e = .returned (.tuple #[.agg #[.slice none 0 0, .slice none 0 0, .slice none 0 0, .bool false], .int .i64 xc, .int .i64 y])) ∧ Below w1.heap.size w1 w') := Lib.hid (HRES.out.mono (by
      rintro e w' ⟨hb, h⟩
      rw [hr] at h
      obtain ⟨hi, rfl⟩ := h
      exact ⟨⟨_, by rw [hxc]⟩, hb⟩))
    clear hx1 hxc hr HRES
    go_wp2_with (go_at_call 8; refine HRES2.out.mono ?_; rintro _ w2 ⟨⟨y, rfl⟩, hb2⟩; have HB2 := Lib.hid hb2; clear hb2)
    go_ret
    exact ⟨by rw [HG.out]; first | rfl | (simp [hne]; done) | (simp [hne, Act.eval]; done), HB1.out.trans ((HB2.out.alloc HB2.out.size _).mono HB1.out.size)⟩
  | ok r =>
    obtain ⟨t1, ht1⟩ : ∃ b, b = decide (p.tos = r.1) := ⟨_, rfl⟩
    obtain ⟨t2, ht2⟩ : ∃ b, b = decide (p.files.map (fun t => t.data.toList) = r.2) := ⟨_, rfl⟩
    have HG : Hid (p.good = (t1 && t2)) := Lib.hid (by unfold Pg.good; rw [hr, ht1, ht2])
    have HT1 := Lib.hid ht1
    have HT2 := Lib.hid ht2
    have HRES2 : Hid (Calls Tryd.prog 8 #[.slice s.A1 p.cmds.length s.c1, .bool p.quiet] w1 fun e w' => ∃ A1 c1 A2 n2 c2 A3 c3 fs, e = .returned (.tuple #[.agg #[.slice A1 p.cmds.length c1, .slice A2 n2 c2, .slice A3 fs.length c3, .bool p.quiet], .int .i64 0, .int .i64 0]) ∧ Below w1.heap.size w1 w' ∧ n2 = r.1.length ∧ SliceAt (Rep.int .i64) w' (under w'.heap.size) A2 c2 r.1 ∧ SliceAt Rep.str w' (under w'.heap.size) A3 c3 fs ∧ fs.map (fun t => t.data.toList) = r.2) := Lib.hid (HRES.out.mono (by
      rintro e w' ⟨hb, h⟩
      rw [hr] at h
      obtain ⟨A1, c1, A3, c3, fs, rfl, hok⟩ := h
      have h2 := hok.tob
      have hlen := hok.len
      have h4 := hok.filesAt
      have h5 := hok.fl
      have h6 := ints_of h2 hok.tw (by have := hn.out; omega)
      refine ⟨A1, c1, _, p.cmds.length, r.1.length, A3, c3, fs, by rw [hlen], hb, hlen.symm, h6.up fun b hb' => ?_, h4.up fun b hb' => hb'.2, h5⟩
      rw [hb']; exact (Array.getElem?_eq_some_iff.1 h2).1))
    clear ht1 ht2 hr HRES
    go_upto_region 2 with (go_at_call 8; refine HRES2.out.mono ?_; rintro _ w2 ⟨A1, c1, A2, n2, c2, A3, c3, fs, rfl, hb2, hn2, hs2, hs3, hfs⟩; have HB2 := Lib.hid hb2; have HS2 := Lib.hid hs2; have HS3 := Lib.hid hs3; have HFS := Lib.hid hfs; have HN2 := Lib.hid hn2; clear hb2 hs2 hs3 hfs hn2)
    obtain ⟨w3, hw3⟩ : ∃ W, W = w2.alloc (.cells #[.slice A1 p.cmds.length c1, .slice A2 n2 c2, .slice A3 fs.length c3, .bool p.quiet] 28) := ⟨_, rfl⟩
    obtain ⟨g2, hg2⟩ : ∃ g, g = w2.heap.size := ⟨_, rfl⟩
    rw [← hw3, ← hg2]
    have HB3 : Hid (Below w1.heap.size w1 w3) := Lib.hid (by rw [hw3]; exact HB2.out.alloc HB2.out.size _)
    have HB23 : Hid (Below w2.heap.size w2 w3) := Lib.hid (by rw [hw3]; exact (Below.refl _ _).alloc (Nat.le_refl _) _)
    have HP3 : Hid (w3.heap[g2]? = some (.cells #[.slice A1 p.cmds.length c1, .slice A2 n2 c2, .slice A3 fs.length c3, .bool p.quiet] 28 (0, 0))) := Lib.hid (by rw [hw3, hg2]; exact heap_alloc_new _ _)
    clear hw3 hg2 x0 x3
    obtain ⟨-, y1, -, -⟩ := HCX.out w3 HB3.out
    have z1 : w3.cell? ⟨g2, 1, none⟩ = some (.slice A2 n2 c2) := (cell_of_row w3 _ 1 _ _ (0, 0) HP3.out).trans rfl
    have HKP : Hid (∀ W, Below w3.heap.size w3 W → SliceAt (Rep.int .i64) W (under W.heap.size) s.A2 s.c2 p.tos ∧ SliceAt Rep.str W (under W.heap.size) s.A3 s.c3 p.files ∧ SliceAt (Rep.int .i64) W (under W.heap.size) A2 c2 r.1 ∧ SliceAt Rep.str W (under W.heap.size) A3 c3 fs ∧ W.cell? ⟨gx, 2, none⟩ = some (.slice s.A3 p.files.length s.c3) ∧ W.cell? ⟨g2, 2, none⟩ = some (.slice A3 fs.length c3)) := Lib.hid fun W hW => by
      have hb1 : Below w.heap.size w W := HB1.out.trans ((HB3.out.trans (hW.mono HB3.out.size)).mono HB1.out.size)
      have hb2 : Below w2.heap.size w2 W := HB23.out.trans (hW.mono HB23.out.size)
      refine ⟨hp.out.tos.keep (fun b h => Nat.lt_of_lt_of_le (hS.out b h) hb1.size) (Same.of_below hb1 hS.out), hp.out.files.keep (fun b h => Nat.lt_of_lt_of_le (hS.out b h) hb1.size) (Same.of_below hb1 hS.out), HS2.out.keep (fun b h => Nat.lt_of_lt_of_le h hb2.size) (Same.of_below hb2 fun b h => h), HS3.out.keep (fun b h => Nat.lt_of_lt_of_le h hb2.size) (Same.of_below hb2 fun b h => h), (HCX.out W (HB3.out.trans (hW.mono HB3.out.size))).2.2.1, ?_⟩
      exact (cell_of_row W _ 2 _ _ (0, 0) ((hW.block _ (Array.getElem?_eq_some_iff.1 HP3.out).1).trans HP3.out)).trans rfl
    have HQ1 : Hid (Calls Tryd.prog 27 #[.slice s.A2 p.tos.length s.c2, .slice A2 n2 c2] w3 fun e w' => e = .returned (.bool t1) ∧ Below w3.heap.size w3 w') := Lib.hid (by
      obtain ⟨a, -, b, -⟩ := HKP.out w3 (Below.refl _ _)
      rw [HT1.out]
      exact eqInts_any _ _ _ _ _ _ p.tos r.1 w3 _ (Lib.hid rfl) HN2 (Lib.hid a) (Lib.hid b) (Lib.hid fun _ h => h))
    have HQ2 : Hid (∀ W, Below w3.heap.size w3 W → Calls Tryd.prog 28 #[.slice s.A3 p.files.length s.c3, .slice A3 fs.length c3] W fun e w' => e = .returned (.bool t2) ∧ Below w3.heap.size w3 w') := Lib.hid fun W hW => by
      obtain ⟨-, a, -, b, -⟩ := HKP.out W hW
      rw [HT2.out, files_same fs p.files HFS.out]
      refine (eqStrs_any _ _ _ _ _ _ p.files fs W _ (Lib.hid rfl) (Lib.hid rfl) (Lib.hid a) (Lib.hid b) (Lib.hid fun _ h => h)).mono ?_
      rintro e w' ⟨rfl, h⟩
      exact ⟨rfl, hW.trans (h.mono hW.size)⟩
    cases t1
    case false =>
      go_wp2_with (go_at_call 27; refine HQ1.out.mono ?_; rintro _ w4 ⟨rfl, hb4⟩; have HB4 := Lib.hid hb4; clear hb4)
      go_ret
      exact ⟨by rw [HG.out]; rfl, HB1.out.trans ((HB3.out.trans (HB4.out.mono HB3.out.size)).mono HB1.out.size)⟩
    case true =>
      go_wp2_with (first
        | (go_at_call 27; refine HQ1.out.mono ?_; rintro _ w4 ⟨rfl, hb4⟩; have HB4 := Lib.hid hb4; obtain ⟨-, -, -, -, u2, v2⟩ := HKP.out w4 hb4; clear hb4)
        | (go_at_call 28; refine (HQ2.out _ HB4.out).mono ?_; rintro _ w5 ⟨rfl, hb5⟩; have HB5 := Lib.hid hb5; clear hb5))
      go_ret
      exact ⟨by rw [HG.out]; rfl, HB1.out.trans ((HB3.out.trans (HB5.out.mono HB3.out.size)).mono HB1.out.size)⟩
end Go.Proofs.YtnpideapdjomgaaDoor
