/- Texts that lead to the claim, one behind the other: May it be a command: the walk of parse.Shaped. Condition: the library's variables hold what they hold. -/
import Derived.Test.YtnpideapdjomgaaDoorRA33
import Derived.Test.YtnpideapdjomgaaDoorRA34
import Derived.Test.YtnpideapdjomgaaDoorRA8
import Derived.Test.YtnpideapdjomgaaDoorRA35
import Derived.Test.YtnpideapdjomgaaDoorRA36
import Derived.Deep.RegionHeld3
import Derived.Deep.RegionWith
namespace Go.Proofs.YtnpideapdjomgaaDoor
open Go.RowKit Go.Shelf Go.Deep Go.ChangeShapes Go.WideShapes

namespace Cmd
def rest (c : Cm) : Bool :=
  if c.name != 115 then c.re.isEmpty && c.fill.isEmpty && c.count == 0 && !c.all && !c.print && !c.write
  else (c.re.isEmpty || (Syn.shaped c.re && decide (Proofs.YtnpideapdjomgaaDoor.most c.fill ≤ (Syn.groups c.re : Nat)))) && Proofs.YtnpideapdjomgaaDoor.shaped c.fill && decide (0 ≤ c.count) && decide (c.count ≤ 1048576)
def odd (c : Cm) : Bool := decide (most c.name < many c) || (many c == 1 && c.a.kind == 0) || (most c.name == 0 && c.not) || decide (c.pos < 0) || !said c || (c.name != 121 && !c.table.all (· == 0))
/-- May it be a command? -/
def shaped (c : Cm) : Bool := right c.a && right c.b && !odd c && rest c
end Cmd
theorem below_dr22 {B : Nat} (w : World) (m : Nat) : Below B w (w.drewN m) := ⟨rfl, rfl, rfl, Nat.le_refl _, fun _ _ => rfl⟩
theorem eSynSh : ∀ args w, (callFunc 32 args).run Tryd.prog w = .ok (.enter 32 args) w := enters_of Tryd.func32 (by kernel_rfl) rfl
/-- What a command's walk knows ahead. -/
structure CmEnv (w : World) (S : Blocks) (X : Array Value) (c : Cm) (s : CmS) : Prop where
  x : CmX X c s
  l : CmL w S c s
  s : ∀ b, S b → b < w.heap.size
  e : Env22 w
theorem CmEnv.far {w w' : World} {S : Blocks} {X : Array Value} {c : Cm} {s : CmS} (h : CmEnv w S X c s) (hb : Below w.heap.size w w') : CmEnv w' S X c s :=
  ⟨h.x, h.l.keep (fun _ h => h) (Same.of_below hb h.s), fun b hb' => Nat.lt_of_lt_of_le (h.s b hb') hb.size, h.e.below hb⟩
set_option maxRecDepth 100000 in
set_option maxHeartbeats 8000000 in
/-- The two addresses looked at: up to region 10. -/
theorem shapedCm_any {X : Array Value} {c : Cm} {s : CmS} {w : World} {S : Blocks} (H : Hid (CmEnv w S X c s)) :
    Calls Tryd.prog 19 #[.agg X] w fun e w' => e = .returned (.bool (Cmd.shaped c)) ∧ Below w.heap.size w w' := by
  obtain ⟨w1, hw1⟩ : ∃ w1, w1 = w.alloc (.cells X 44) := ⟨_, rfl⟩
  have hb1 : Below w.heap.size w w1 := by rw [hw1]; exact Below.alloc (Below.refl _ _) (Nat.le_refl _) _
  have hk1 : w1.heap[w.heap.size]? = some (.cells X 44 (0, 0)) := by rw [hw1]; exact heap_alloc_new _ _
  have x7 : w1.cell? ⟨w.heap.size, 7, none⟩ = some (.int .u8 c.name.toNat) := (cm_cell hk1 H.out.x (by omega)).trans rfl
  have x0 : w1.cell? ⟨w.heap.size, 0, none⟩ = some (.int .i8 c.a.kind) := (cm_cell hk1 H.out.x (by omega)).trans rfl
  have x1 : w1.cell? ⟨w.heap.size, 1, none⟩ = some (.int .i64 c.a.n) := (cm_cell hk1 H.out.x (by omega)).trans rfl
  have x2 : w1.cell? ⟨w.heap.size, 2, none⟩ = some (.slice s.A1 c.a.re.length s.c1) := (cm_cell hk1 H.out.x (by omega)).trans rfl
  have x3 : w1.cell? ⟨w.heap.size, 3, none⟩ = some (.int .i8 c.b.kind) := (cm_cell hk1 H.out.x (by omega)).trans rfl
  have x4 : w1.cell? ⟨w.heap.size, 4, none⟩ = some (.int .i64 c.b.n) := (cm_cell hk1 H.out.x (by omega)).trans rfl
  have x5 : w1.cell? ⟨w.heap.size, 5, none⟩ = some (.slice s.A2 c.b.re.length s.c2) := (cm_cell hk1 H.out.x (by omega)).trans rfl
  have HB1 := Lib.hid hb1
  have HW1 := Lib.hid hw1
  have HK1 := Lib.hid hk1
  obtain ⟨nm, hnm⟩ : ∃ nm, nm = c.name := ⟨_, rfl⟩
  obtain ⟨ka, hka⟩ : ∃ k, k = c.a.kind := ⟨_, rfl⟩
  obtain ⟨kb, hkb⟩ : ∃ k, k = c.b.kind := ⟨_, rfl⟩
  obtain ⟨an, han⟩ : ∃ k, k = c.a.n := ⟨_, rfl⟩
  obtain ⟨bn, hbn⟩ : ∃ k, k = c.b.n := ⟨_, rfl⟩
  obtain ⟨la, hla⟩ : ∃ k, k = c.a.re.length := ⟨_, rfl⟩
  obtain ⟨lb, hlb⟩ : ∃ k, k = c.b.re.length := ⟨_, rfl⟩
  obtain ⟨A1, hA1⟩ : ∃ k, k = s.A1 := ⟨_, rfl⟩
  obtain ⟨A2, hA2⟩ : ∃ k, k = s.A2 := ⟨_, rfl⟩
  obtain ⟨c1, hc1⟩ : ∃ k, k = s.c1 := ⟨_, rfl⟩
  obtain ⟨c2, hc2⟩ : ∃ k, k = s.c2 := ⟨_, rfl⟩
  rw [← hnm] at x7
  rw [← hka] at x0
  rw [← han] at x1
  rw [← hA1, ← hc1, ← hla] at x2
  rw [← hkb] at x3
  rw [← hbn] at x4
  rw [← hA2, ← hc2, ← hlb] at x5
  obtain ⟨ra, hra⟩ : ∃ r, r = Cmd.right c.a := ⟨_, rfl⟩
  obtain ⟨rb, hrb⟩ : ∃ r, r = Cmd.right c.b := ⟨_, rfl⟩
  have HRA : Hid (∀ W, Below w.heap.size w W → Calls Tryd.prog 30 #[.agg #[.int .i8 ka, .int .i64 an, .slice A1 la c1]] W fun e w' => e = .returned (.bool ra) ∧ Below W.heap.size W w') := Lib.hid fun W hW => by
    have h := H.out.far hW
    rw [hka, han, hA1, hc1, hra]
    exact right_ad (Lib.hid hla) (Lib.hid h.l.a) (Lib.hid h.s)
  have HRB : Hid (∀ W, Below w.heap.size w W → Calls Tryd.prog 30 #[.agg #[.int .i8 kb, .int .i64 bn, .slice A2 lb c2]] W fun e w' => e = .returned (.bool rb) ∧ Below W.heap.size W w') := Lib.hid fun W hW => by
    have h := H.out.far hW
    rw [hkb, hbn, hA2, hc2, hrb]
    exact right_ad (Lib.hid hlb) (Lib.hid h.l.b) (Lib.hid h.s)
  have HF : Hid (Cmd.shaped c = (ra && rb && !Cmd.odd c && Cmd.rest c)) := Lib.hid (by rw [hra, hrb]; rfl)
  have HNM := Lib.hid hnm
  have HKA := Lib.hid hka
  have HKB := Lib.hid hkb
  clear hw1 hb1 hk1 hnm hka hkb han hbn hla hlb hA1 hA2 hc1 hc2 hra hrb
  go_enter Tryd.func19, Tryd.ntmps19
  go_upto_region 1 with fail
  rw [← HW1.out]
  go_upto_region 3 with (go_at_call 29; refine (most_any nm _).mono ?_; rintro _ w2 ⟨rfl, rfl⟩)
  have hlt0 : w.heap.size < w1.heap.size := (Array.getElem?_eq_some_iff.1 HK1.out).1
  obtain ⟨w2, hw2⟩ : ∃ w2, w2 = w1.alloc (.cells #[.int .i8 ka, .int .i64 an, .slice A1 la c1, .int .i8 kb, .int .i64 bn, .slice A2 lb c2] 38) := ⟨_, rfl⟩
  rw [← hw2]
  have hb2 : Below w.heap.size w w2 := HB1.out.trans (by rw [hw2]; exact Below.alloc (Below.refl _ _) HB1.out.size _)
  have hk2 : w2.heap[w.heap.size]? = some (.cells X 44 (0, 0)) := by rw [hw2, Below.heap_alloc _ _ _ hlt0]; exact HK1.out
  have hg2 : w2.heap[w1.heap.size]? = some (.cells #[.int .i8 ka, .int .i64 an, .slice A1 la c1, .int .i8 kb, .int .i64 bn, .slice A2 lb c2] 38 (0, 0)) := by rw [hw2]; exact heap_alloc_new _ _
  obtain ⟨gb, hgb⟩ : ∃ gb, gb = w1.heap.size := ⟨_, rfl⟩
  rw [← hgb] at hg2 ⊢
  obtain ⟨M, hM⟩ : ∃ M, M = Cmd.most nm := ⟨_, rfl⟩
  rw [← hM]
  have HM := Lib.hid hM
  obtain ⟨bA, hbA⟩ : ∃ b, (ka != 0) = b := ⟨_, rfl⟩
  obtain ⟨bB, hbB⟩ : ∃ b, (kb != 0) = b := ⟨_, rfl⟩
  obtain ⟨WS, hWS⟩ : ∃ WS : World → Prop, WS = fun W => Below w.heap.size w W ∧ W.heap[w.heap.size]? = some (.cells X 44 (0, 0)) ∧ W.heap[gb]? = some (.cells #[.int .i8 ka, .int .i64 an, .slice A1 la c1, .int .i8 kb, .int .i64 bn, .slice A2 lb c2] 38 (0, 0)) := ⟨_, rfl⟩
  have HWS := Lib.hid hWS
  have HWN : Hid (∀ W W', WS W → Below W.heap.size W W' → WS W') := Lib.hid (by
    rw [hWS]
    rintro W W' ⟨a, b, c⟩ hb
    exact ⟨a.trans (hb.mono a.size), (hb.block _ (Array.getElem?_eq_some_iff.1 b).1).trans b, (hb.block _ (Array.getElem?_eq_some_iff.1 c).1).trans c⟩)
  have HW2 : Hid (WS w2) := Lib.hid (by rw [hWS]; exact ⟨hb2, hk2, hg2⟩)
  have HBA := Lib.hid hbA
  have HBB := Lib.hid hbB
  clear hw2 hb2 hk2 hg2 hgb hM hWS hlt0 x7 x0 x1 x2 x3 x4 x5
  go_wp2
  go_loopg [4, 16] 2 (fun j v4 v16 wr => ∃ (i : Nat) (a : Int), v4 = .int .i64 a ∧ v16 = .int .i64 (i : Nat) ∧ j = 2 - i ∧ Hid ((i = 0 ∧ a = 0) ∨ (i = 1 ∧ a = (if bA then 1 else 0) ∧ ra = true) ∨ (i = 2 ∧ a = (if bA then 1 else 0) + (if bB then 1 else 0) ∧ ra = true ∧ rb = true)) ∧ Hid (WS wr))
  case atStart => exact ⟨0, 0, rfl, rfl, rfl, Lib.hid (.inl ⟨rfl, rfl⟩), HW2⟩
  case round =>
    obtain ⟨i, a, rfl, rfl, hj, HA, HW⟩ := hrel
    obtain ⟨wq, rfl⟩ : ∃ W : World, W = wr := ⟨_, rfl⟩
    have hws := HW.out
    rw [HWS.out] at hws
    obtain ⟨hbq, hkq, hgq⟩ := hws
    rcases HA.out with ⟨rfl, rfl⟩ | ⟨rfl, hai, har⟩ | ⟨rfl, hai, har, hbr⟩
    · have y0 : wq.cell? ⟨gb, 0, none⟩ = some (.int .i8 ka) := (cell_of_row wq gb 0 _ _ (0, 0) hgq).trans rfl
      have y1 : wq.cell? ⟨gb, 1, none⟩ = some (.int .i64 an) := (cell_of_row wq gb 1 _ _ (0, 0) hgq).trans rfl
      have y2 : wq.cell? ⟨gb, 2, none⟩ = some (.slice A1 la c1) := (cell_of_row wq gb 2 _ _ (0, 0) hgq).trans rfl
      have HBQ := Lib.hid hbq
      clear hbq hkq hgq hbB
      go_upto_region 5 with fail
      have hb3 : Below wq.heap.size wq (wq.alloc (.cells #[.int .i8 ka, .int .i64 an, .slice A1 la c1] 38)) := Below.alloc (Below.refl _ _) (Nat.le_refl _) _
      have hn3 : (wq.alloc (.cells #[.int .i8 ka, .int .i64 an, .slice A1 la c1] 38)).heap[wq.heap.size]? = some (.cells #[.int .i8 ka, .int .i64 an, .slice A1 la c1] 38 (0, 0)) := heap_alloc_new _ _
      generalize wq.alloc (.cells #[.int .i8 ka, .int .i64 an, .slice A1 la c1] 38) = w3 at hb3 hn3 ⊢
      have z0 : w3.cell? ⟨wq.heap.size, 0, none⟩ = some (.int .i8 ka) := (cell_of_row w3 _ 0 _ _ (0, 0) hn3).trans rfl
      have z1 : w3.cell? ⟨wq.heap.size, 1, none⟩ = some (.int .i64 an) := (cell_of_row w3 _ 1 _ _ (0, 0) hn3).trans rfl
      have z2 : w3.cell? ⟨wq.heap.size, 2, none⟩ = some (.slice A1 la c1) := (cell_of_row w3 _ 2 _ _ (0, 0) hn3).trans rfl
      have HC := Lib.hid (HRA.out w3 (HBQ.out.trans (hb3.mono HBQ.out.size)))
      have HB3 := Lib.hid hb3
      have hlt3 : wq.heap.size < w3.heap.size := (Array.getElem?_eq_some_iff.1 hn3).1
      clear hb3 hn3 y0 y1 y2
      cases ra
      · go_wp2_with (go_at_call 30; refine HC.out.mono ?_; rintro _ w4 ⟨rfl, hb4⟩; have HB4 := Lib.hid hb4; clear hb4)
        go_ret
        exact ⟨by rw [HF.out]; rfl, HBQ.out.trans ((HB3.out.trans (HB4.out.mono HB3.out.size)).mono HBQ.out.size)⟩
      · go_upto_region 7 with (go_at_call 30; refine HC.out.mono ?_; rintro _ w4 ⟨rfl, hb4⟩; have HB4 := Lib.hid hb4; have z4 : w4.cell? ⟨wq.heap.size, 0, none⟩ = some (.int .i8 ka) := (hb4.cell (p := ⟨wq.heap.size, 0, none⟩) hlt3).trans z0; clear hb4)
        have HW4 : Hid (WS w4) := Lib.hid (HWN.out _ _ HW.out (HB3.out.trans (HB4.out.mono HB3.out.size)))
        cases bA
        · go_wp2_with fail
          go_roundg 1
          case measure => omega
          case rel => exact ⟨1, 0, rfl, by simp, rfl, Lib.hid (.inr (.inl ⟨rfl, rfl, by simp⟩)), HW4⟩
        · go_wp2_with fail
          go_roundg 1
          case measure => omega
          case rel => exact ⟨1, 1, by simp, by simp, rfl, Lib.hid (.inr (.inl ⟨rfl, rfl, by simp⟩)), HW4⟩
    · have y0 : wq.cell? ⟨gb, 3, none⟩ = some (.int .i8 kb) := (cell_of_row wq gb 3 _ _ (0, 0) hgq).trans rfl
      have y1 : wq.cell? ⟨gb, 4, none⟩ = some (.int .i64 bn) := (cell_of_row wq gb 4 _ _ (0, 0) hgq).trans rfl
      have y2 : wq.cell? ⟨gb, 5, none⟩ = some (.slice A2 lb c2) := (cell_of_row wq gb 5 _ _ (0, 0) hgq).trans rfl
      have HBQ := Lib.hid hbq
      subst har
      have ha0 : 0 ≤ a := by rw [hai]; split <;> omega
      have ha1 : a ≤ 1 := by rw [hai]; split <;> omega
      have HAI := Lib.hid hai
      clear hbq hkq hgq hbA hai
      go_upto_region 5 with fail
      have hb3 : Below wq.heap.size wq (wq.alloc (.cells #[.int .i8 kb, .int .i64 bn, .slice A2 lb c2] 38)) := Below.alloc (Below.refl _ _) (Nat.le_refl _) _
      have hn3 : (wq.alloc (.cells #[.int .i8 kb, .int .i64 bn, .slice A2 lb c2] 38)).heap[wq.heap.size]? = some (.cells #[.int .i8 kb, .int .i64 bn, .slice A2 lb c2] 38 (0, 0)) := heap_alloc_new _ _
      generalize wq.alloc (.cells #[.int .i8 kb, .int .i64 bn, .slice A2 lb c2] 38) = w3 at hb3 hn3 ⊢
      have z0 : w3.cell? ⟨wq.heap.size, 0, none⟩ = some (.int .i8 kb) := (cell_of_row w3 _ 0 _ _ (0, 0) hn3).trans rfl
      have z1 : w3.cell? ⟨wq.heap.size, 1, none⟩ = some (.int .i64 bn) := (cell_of_row w3 _ 1 _ _ (0, 0) hn3).trans rfl
      have z2 : w3.cell? ⟨wq.heap.size, 2, none⟩ = some (.slice A2 lb c2) := (cell_of_row w3 _ 2 _ _ (0, 0) hn3).trans rfl
      have HC := Lib.hid (HRB.out w3 (HBQ.out.trans (hb3.mono HBQ.out.size)))
      have HB3 := Lib.hid hb3
      have hlt3 : wq.heap.size < w3.heap.size := (Array.getElem?_eq_some_iff.1 hn3).1
      clear hb3 hn3 y0 y1 y2
      cases rb
      · go_wp2_with (go_at_call 30; refine HC.out.mono ?_; rintro _ w4 ⟨rfl, hb4⟩; have HB4 := Lib.hid hb4; clear hb4)
        go_ret
        exact ⟨by rw [HF.out]; rfl, HBQ.out.trans ((HB3.out.trans (HB4.out.mono HB3.out.size)).mono HBQ.out.size)⟩
      · go_upto_region 7 with (go_at_call 30; refine HC.out.mono ?_; rintro _ w4 ⟨rfl, hb4⟩; have HB4 := Lib.hid hb4; have z4 : w4.cell? ⟨wq.heap.size, 0, none⟩ = some (.int .i8 kb) := (hb4.cell (p := ⟨wq.heap.size, 0, none⟩) hlt3).trans z0; clear hb4)
        have HW4 : Hid (WS w4) := Lib.hid (HWN.out _ _ HW.out (HB3.out.trans (HB4.out.mono HB3.out.size)))
        cases bB
        · go_wp2_with fail
          go_roundg 0
          case measure => omega
          case rel => exact ⟨2, a, rfl, by simp, rfl, Lib.hid (.inr (.inr ⟨rfl, by rw [HAI.out]; simp, by simp, by simp⟩)), HW4⟩
        · go_wp2_with fail
          go_roundg 0
          case measure => omega
          case rel => exact ⟨2, a + 1, rfl, by simp, rfl, Lib.hid (.inr (.inr ⟨rfl, by rw [HAI.out]; simp, by simp, by simp⟩)), HW4⟩
    · subst har hbr
      have ha0 : 0 ≤ a := by rw [hai]; split <;> split <;> omega
      have ha2 : a ≤ 2 := by rw [hai]; split <;> split <;> omega
      have HMANY : Hid (Cmd.many c = a) := Lib.hid (by rw [hai]; unfold Cmd.many; rw [← HKA.out, ← HKB.out, HBA.out, HBB.out])
      have x0 : wq.cell? ⟨w.heap.size, 0, none⟩ = some (.int .i8 ka) := by rw [HKA.out]; exact (cm_cell hkq H.out.x (by omega)).trans rfl
      have x7 : wq.cell? ⟨w.heap.size, 7, none⟩ = some (.int .u8 nm.toNat) := by rw [HNM.out]; exact (cm_cell hkq H.out.x (by omega)).trans rfl
      obtain ⟨nt, hnt⟩ : ∃ nt, nt = c.not := ⟨_, rfl⟩
      obtain ⟨po, hpo⟩ : ∃ po, po = c.pos := ⟨_, rfl⟩
      have x6 : wq.cell? ⟨w.heap.size, 6, none⟩ = some (.bool nt) := by rw [hnt]; exact (cm_cell hkq H.out.x (by omega)).trans rfl
      have x8 : wq.cell? ⟨w.heap.size, 8, none⟩ = some (.int .i64 po) := by rw [hpo]; exact (cm_cell hkq H.out.x (by omega)).trans rfl
      obtain ⟨TT, hTT⟩ : ∃ TT, TT = (bcells c.table).toArray := ⟨_, rfl⟩
      obtain ⟨ZZ, hZZ⟩ : ∃ ZZ, ZZ = (bcells zeros).toArray := ⟨_, rfl⟩
      obtain ⟨tz, htz⟩ : ∃ tz, tz = c.table.all (· == 0) := ⟨_, rfl⟩
      have HTT := Lib.hid hTT
      have hneq : ∀ W, (binOp .neq 42 (.agg TT) (.agg ZZ)).run Tryd.prog W = .ok (.bool (!tz)) W := fun W => by rw [htz]; exact run_neq_table H.out.x.wf.table (by rw [hTT]) (by rw [hZZ]) W
      have hzt : ∀ W, (zeroValue 42).run Tryd.prog W = .ok (.agg ZZ) W := by rw [hZZ]; exact (zero_of_info table_info).1
      obtain ⟨sd, hsd⟩ : ∃ sd, sd = Cmd.said c := ⟨_, rfl⟩
      have HSD : Hid (Calls Tryd.prog 31 #[.agg X] wq fun e w' => e = .returned (.bool sd) ∧ Below wq.heap.size wq w') := Lib.hid (by
        have h := H.out.far hbq
        rw [hsd]; exact said_any (Lib.hid h.x) (Lib.hid h.l) (Lib.hid h.s) (Lib.hid h.e))
      have e121 : ((nm.toNat : Int) == 121) = (nm == 121) := u8_eq nm 121 (by omega)
      have HODD : Hid (Cmd.odd c = (decide (M < a) || ((a == 1) && (ka == 0)) || ((M == 0) && nt) || decide (po < 0) || !sd || (nm != 121 && !tz))) := Lib.hid (by
        unfold Cmd.odd
        rw [HMANY.out, ← HNM.out, ← HM.out, ← HKA.out, ← hnt, ← hpo, ← hsd, ← htz])
      obtain ⟨od, hod⟩ : ∃ od, od = Cmd.odd c := ⟨_, rfl⟩
      have HOD : Hid (od = (decide (M < a) || ((a == 1) && (ka == 0)) || ((M == 0) && nt) || decide (po < 0) || !sd || (nm != 121 && !tz))) := Lib.hid (by rw [hod]; exact HODD.out)
      rw [← hod] at HF
      have hlt0 : w.heap.size < wq.heap.size := (Array.getElem?_eq_some_iff.1 hkq).1
      have HKQ := Lib.hid hkq
      clear hbq hkq hgq hai hnt hpo hTT hZZ htz hsd hod hbA hbB HBA HBB
      go_upto_region 10 with fail
      go_cut [70] from 29 (fun v70 wc => v70 = .bool od ∧ Hid (WS wc))
      case first =>
        cases h1 : decide (M < a)
        case true =>
          go_wp2_with fail
          go_meet
          case rel => exact ⟨by rw [HOD.out, h1]; first | rfl | simp, HW⟩
        cases h2 : (a == 1)
        case false =>
          cases h3 : (M == 0)
          case false =>
            cases h4 : decide (po < 0)
            case true =>
              go_wp2_with fail
              go_meet
              case rel => exact ⟨by rw [HOD.out, h1, h2, h3, h4]; first | rfl | simp, HW⟩
            cases sd
            case false =>
              go_wp2_with (refine wpList_load_cm HKQ.out H.out.x (.tmp 1) rfl rfl rfl ?_)
              refine HSD.out.mono ?_
              rintro _ w5 ⟨rfl, hb5⟩
              have HK5 : Hid (w5.heap[w.heap.size]? = some (.cells X 44 (0, 0))) := Lib.hid ((hb5.block _ hlt0).trans HKQ.out)
              have x7a : w5.cell? ⟨w.heap.size, 7, none⟩ = some (.int .u8 nm.toNat) := (hb5.cell (p := ⟨w.heap.size, 7, none⟩) hlt0).trans x7
              have HB5 := Lib.hid hb5
              clear hb5
              go_wp2_with fail
              go_meet
              case rel => exact ⟨by rw [HOD.out, h1, h2, h3, h4]; first | rfl | simp, Lib.hid (HWN.out _ _ HW.out HB5.out)⟩
            cases h121 : (nm == 121)
            · rw [h121] at e121
              have e121n : ((nm.toNat : Int) != 121) = true := by rw [bne, e121]; rfl
              have h121n : (nm != 121) = true := by rw [bne, h121]; rfl
              cases tz
              · skip
                go_wp2_with (refine wpList_load_cm HKQ.out H.out.x (.tmp 1) rfl rfl rfl ?_)
                refine HSD.out.mono ?_
                rintro _ w5 ⟨rfl, hb5⟩
                have HK5 : Hid (w5.heap[w.heap.size]? = some (.cells X 44 (0, 0))) := Lib.hid ((hb5.block _ hlt0).trans HKQ.out)
                have x7a : w5.cell? ⟨w.heap.size, 7, none⟩ = some (.int .u8 nm.toNat) := (hb5.cell (p := ⟨w.heap.size, 7, none⟩) hlt0).trans x7
                have HB5 := Lib.hid hb5
                clear hb5
                go_wp2_with (refine wpList_load_table HK5.out H.out.x (.tmp 65) rfl rfl rfl TT HTT.out ?_)
                go_meet
                case rel => exact ⟨by rw [HOD.out, h1, h2, h3, h4, h121n]; first | rfl | simp, Lib.hid (HWN.out _ _ HW.out HB5.out)⟩
              · skip
                go_wp2_with (refine wpList_load_cm HKQ.out H.out.x (.tmp 1) rfl rfl rfl ?_)
                refine HSD.out.mono ?_
                rintro _ w5 ⟨rfl, hb5⟩
                have HK5 : Hid (w5.heap[w.heap.size]? = some (.cells X 44 (0, 0))) := Lib.hid ((hb5.block _ hlt0).trans HKQ.out)
                have x7a : w5.cell? ⟨w.heap.size, 7, none⟩ = some (.int .u8 nm.toNat) := (hb5.cell (p := ⟨w.heap.size, 7, none⟩) hlt0).trans x7
                have HB5 := Lib.hid hb5
                clear hb5
                go_wp2_with (refine wpList_load_table HK5.out H.out.x (.tmp 65) rfl rfl rfl TT HTT.out ?_)
                go_meet
                case rel => exact ⟨by rw [HOD.out, h1, h2, h3, h4, h121n]; first | rfl | simp, Lib.hid (HWN.out _ _ HW.out HB5.out)⟩
            · rw [h121] at e121
              have e121n : ((nm.toNat : Int) != 121) = false := by rw [bne, e121]; rfl
              have h121n : (nm != 121) = false := by rw [bne, h121]; rfl
              go_wp2_with (refine wpList_load_cm HKQ.out H.out.x (.tmp 1) rfl rfl rfl ?_)
              refine HSD.out.mono ?_
              rintro _ w5 ⟨rfl, hb5⟩
              have HK5 : Hid (w5.heap[w.heap.size]? = some (.cells X 44 (0, 0))) := Lib.hid ((hb5.block _ hlt0).trans HKQ.out)
              have x7a : w5.cell? ⟨w.heap.size, 7, none⟩ = some (.int .u8 nm.toNat) := (hb5.cell (p := ⟨w.heap.size, 7, none⟩) hlt0).trans x7
              have HB5 := Lib.hid hb5
              clear hb5
              go_wp2_with fail
              go_meet
              case rel => exact ⟨by rw [HOD.out, h1, h2, h3, h4, h121n]; first | rfl | simp, Lib.hid (HWN.out _ _ HW.out HB5.out)⟩
          cases nt
          case true =>
            go_wp2_with fail
            go_meet
            case rel => exact ⟨by rw [HOD.out, h1, h2, h3]; first | rfl | simp, HW⟩
          cases h4 : decide (po < 0)
          case true =>
            go_wp2_with fail
            go_meet
            case rel => exact ⟨by rw [HOD.out, h1, h2, h3, h4]; first | rfl | simp, HW⟩
          cases sd
          case false =>
            go_wp2_with (refine wpList_load_cm HKQ.out H.out.x (.tmp 1) rfl rfl rfl ?_)
            refine HSD.out.mono ?_
            rintro _ w5 ⟨rfl, hb5⟩
            have HK5 : Hid (w5.heap[w.heap.size]? = some (.cells X 44 (0, 0))) := Lib.hid ((hb5.block _ hlt0).trans HKQ.out)
            have x7a : w5.cell? ⟨w.heap.size, 7, none⟩ = some (.int .u8 nm.toNat) := (hb5.cell (p := ⟨w.heap.size, 7, none⟩) hlt0).trans x7
            have HB5 := Lib.hid hb5
            clear hb5
            go_wp2_with fail
            go_meet
            case rel => exact ⟨by rw [HOD.out, h1, h2, h3, h4]; first | rfl | simp, Lib.hid (HWN.out _ _ HW.out HB5.out)⟩
          cases h121 : (nm == 121)
          · rw [h121] at e121
            have e121n : ((nm.toNat : Int) != 121) = true := by rw [bne, e121]; rfl
            have h121n : (nm != 121) = true := by rw [bne, h121]; rfl
            cases tz
            · skip
              go_wp2_with (refine wpList_load_cm HKQ.out H.out.x (.tmp 1) rfl rfl rfl ?_)
              refine HSD.out.mono ?_
              rintro _ w5 ⟨rfl, hb5⟩
              have HK5 : Hid (w5.heap[w.heap.size]? = some (.cells X 44 (0, 0))) := Lib.hid ((hb5.block _ hlt0).trans HKQ.out)
              have x7a : w5.cell? ⟨w.heap.size, 7, none⟩ = some (.int .u8 nm.toNat) := (hb5.cell (p := ⟨w.heap.size, 7, none⟩) hlt0).trans x7
              have HB5 := Lib.hid hb5
              clear hb5
              go_wp2_with (refine wpList_load_table HK5.out H.out.x (.tmp 65) rfl rfl rfl TT HTT.out ?_)
              go_meet
              case rel => exact ⟨by rw [HOD.out, h1, h2, h3, h4, h121n]; first | rfl | simp, Lib.hid (HWN.out _ _ HW.out HB5.out)⟩
            · skip
              go_wp2_with (refine wpList_load_cm HKQ.out H.out.x (.tmp 1) rfl rfl rfl ?_)
              refine HSD.out.mono ?_
              rintro _ w5 ⟨rfl, hb5⟩
              have HK5 : Hid (w5.heap[w.heap.size]? = some (.cells X 44 (0, 0))) := Lib.hid ((hb5.block _ hlt0).trans HKQ.out)
              have x7a : w5.cell? ⟨w.heap.size, 7, none⟩ = some (.int .u8 nm.toNat) := (hb5.cell (p := ⟨w.heap.size, 7, none⟩) hlt0).trans x7
              have HB5 := Lib.hid hb5
              clear hb5
              go_wp2_with (refine wpList_load_table HK5.out H.out.x (.tmp 65) rfl rfl rfl TT HTT.out ?_)
              go_meet
              case rel => exact ⟨by rw [HOD.out, h1, h2, h3, h4, h121n]; first | rfl | simp, Lib.hid (HWN.out _ _ HW.out HB5.out)⟩
          · rw [h121] at e121
            have e121n : ((nm.toNat : Int) != 121) = false := by rw [bne, e121]; rfl
            have h121n : (nm != 121) = false := by rw [bne, h121]; rfl
            go_wp2_with (refine wpList_load_cm HKQ.out H.out.x (.tmp 1) rfl rfl rfl ?_)
            refine HSD.out.mono ?_
            rintro _ w5 ⟨rfl, hb5⟩
            have HK5 : Hid (w5.heap[w.heap.size]? = some (.cells X 44 (0, 0))) := Lib.hid ((hb5.block _ hlt0).trans HKQ.out)
            have x7a : w5.cell? ⟨w.heap.size, 7, none⟩ = some (.int .u8 nm.toNat) := (hb5.cell (p := ⟨w.heap.size, 7, none⟩) hlt0).trans x7
            have HB5 := Lib.hid hb5
            clear hb5
            go_wp2_with fail
            go_meet
            case rel => exact ⟨by rw [HOD.out, h1, h2, h3, h4, h121n]; first | rfl | simp, Lib.hid (HWN.out _ _ HW.out HB5.out)⟩
        cases h2k : (ka == 0)
        case true =>
          go_wp2_with fail
          go_meet
          case rel => exact ⟨by rw [HOD.out, h1, h2, h2k]; first | rfl | simp, HW⟩
        cases h3 : (M == 0)
        case false =>
          cases h4 : decide (po < 0)
          case true =>
            go_wp2_with fail
            go_meet
            case rel => exact ⟨by rw [HOD.out, h1, h2, h2k, h3, h4]; first | rfl | simp, HW⟩
          cases sd
          case false =>
            go_wp2_with (refine wpList_load_cm HKQ.out H.out.x (.tmp 1) rfl rfl rfl ?_)
            refine HSD.out.mono ?_
            rintro _ w5 ⟨rfl, hb5⟩
            have HK5 : Hid (w5.heap[w.heap.size]? = some (.cells X 44 (0, 0))) := Lib.hid ((hb5.block _ hlt0).trans HKQ.out)
            have x7a : w5.cell? ⟨w.heap.size, 7, none⟩ = some (.int .u8 nm.toNat) := (hb5.cell (p := ⟨w.heap.size, 7, none⟩) hlt0).trans x7
            have HB5 := Lib.hid hb5
            clear hb5
            go_wp2_with fail
            go_meet
            case rel => exact ⟨by rw [HOD.out, h1, h2, h2k, h3, h4]; first | rfl | simp, Lib.hid (HWN.out _ _ HW.out HB5.out)⟩
          cases h121 : (nm == 121)
          · rw [h121] at e121
            have e121n : ((nm.toNat : Int) != 121) = true := by rw [bne, e121]; rfl
            have h121n : (nm != 121) = true := by rw [bne, h121]; rfl
            cases tz
            · skip
              go_wp2_with (refine wpList_load_cm HKQ.out H.out.x (.tmp 1) rfl rfl rfl ?_)
              refine HSD.out.mono ?_
              rintro _ w5 ⟨rfl, hb5⟩
              have HK5 : Hid (w5.heap[w.heap.size]? = some (.cells X 44 (0, 0))) := Lib.hid ((hb5.block _ hlt0).trans HKQ.out)
              have x7a : w5.cell? ⟨w.heap.size, 7, none⟩ = some (.int .u8 nm.toNat) := (hb5.cell (p := ⟨w.heap.size, 7, none⟩) hlt0).trans x7
              have HB5 := Lib.hid hb5
              clear hb5
              go_wp2_with (refine wpList_load_table HK5.out H.out.x (.tmp 65) rfl rfl rfl TT HTT.out ?_)
              go_meet
              case rel => exact ⟨by rw [HOD.out, h1, h2, h2k, h3, h4, h121n]; first | rfl | simp, Lib.hid (HWN.out _ _ HW.out HB5.out)⟩
            · skip
              go_wp2_with (refine wpList_load_cm HKQ.out H.out.x (.tmp 1) rfl rfl rfl ?_)
              refine HSD.out.mono ?_
              rintro _ w5 ⟨rfl, hb5⟩
              have HK5 : Hid (w5.heap[w.heap.size]? = some (.cells X 44 (0, 0))) := Lib.hid ((hb5.block _ hlt0).trans HKQ.out)
              have x7a : w5.cell? ⟨w.heap.size, 7, none⟩ = some (.int .u8 nm.toNat) := (hb5.cell (p := ⟨w.heap.size, 7, none⟩) hlt0).trans x7
              have HB5 := Lib.hid hb5
              clear hb5
              go_wp2_with (refine wpList_load_table HK5.out H.out.x (.tmp 65) rfl rfl rfl TT HTT.out ?_)
              go_meet
              case rel => exact ⟨by rw [HOD.out, h1, h2, h2k, h3, h4, h121n]; first | rfl | simp, Lib.hid (HWN.out _ _ HW.out HB5.out)⟩
          · rw [h121] at e121
            have e121n : ((nm.toNat : Int) != 121) = false := by rw [bne, e121]; rfl
            have h121n : (nm != 121) = false := by rw [bne, h121]; rfl
            go_wp2_with (refine wpList_load_cm HKQ.out H.out.x (.tmp 1) rfl rfl rfl ?_)
            refine HSD.out.mono ?_
            rintro _ w5 ⟨rfl, hb5⟩
            have HK5 : Hid (w5.heap[w.heap.size]? = some (.cells X 44 (0, 0))) := Lib.hid ((hb5.block _ hlt0).trans HKQ.out)
            have x7a : w5.cell? ⟨w.heap.size, 7, none⟩ = some (.int .u8 nm.toNat) := (hb5.cell (p := ⟨w.heap.size, 7, none⟩) hlt0).trans x7
            have HB5 := Lib.hid hb5
            clear hb5
            go_wp2_with fail
            go_meet
            case rel => exact ⟨by rw [HOD.out, h1, h2, h2k, h3, h4, h121n]; first | rfl | simp, Lib.hid (HWN.out _ _ HW.out HB5.out)⟩
        cases nt
        case true =>
          go_wp2_with fail
          go_meet
          case rel => exact ⟨by rw [HOD.out, h1, h2, h2k, h3]; first | rfl | simp, HW⟩
        cases h4 : decide (po < 0)
        case true =>
          go_wp2_with fail
          go_meet
          case rel => exact ⟨by rw [HOD.out, h1, h2, h2k, h3, h4]; first | rfl | simp, HW⟩
        cases sd
        case false =>
          go_wp2_with (refine wpList_load_cm HKQ.out H.out.x (.tmp 1) rfl rfl rfl ?_)
          refine HSD.out.mono ?_
          rintro _ w5 ⟨rfl, hb5⟩
          have HK5 : Hid (w5.heap[w.heap.size]? = some (.cells X 44 (0, 0))) := Lib.hid ((hb5.block _ hlt0).trans HKQ.out)
          have x7a : w5.cell? ⟨w.heap.size, 7, none⟩ = some (.int .u8 nm.toNat) := (hb5.cell (p := ⟨w.heap.size, 7, none⟩) hlt0).trans x7
          have HB5 := Lib.hid hb5
          clear hb5
          go_wp2_with fail
          go_meet
          case rel => exact ⟨by rw [HOD.out, h1, h2, h2k, h3, h4]; first | rfl | simp, Lib.hid (HWN.out _ _ HW.out HB5.out)⟩
        cases h121 : (nm == 121)
        · rw [h121] at e121
          have e121n : ((nm.toNat : Int) != 121) = true := by rw [bne, e121]; rfl
          have h121n : (nm != 121) = true := by rw [bne, h121]; rfl
          cases tz
          · skip
            go_wp2_with (refine wpList_load_cm HKQ.out H.out.x (.tmp 1) rfl rfl rfl ?_)
            refine HSD.out.mono ?_
            rintro _ w5 ⟨rfl, hb5⟩
            have HK5 : Hid (w5.heap[w.heap.size]? = some (.cells X 44 (0, 0))) := Lib.hid ((hb5.block _ hlt0).trans HKQ.out)
            have x7a : w5.cell? ⟨w.heap.size, 7, none⟩ = some (.int .u8 nm.toNat) := (hb5.cell (p := ⟨w.heap.size, 7, none⟩) hlt0).trans x7
            have HB5 := Lib.hid hb5
            clear hb5
            go_wp2_with (refine wpList_load_table HK5.out H.out.x (.tmp 65) rfl rfl rfl TT HTT.out ?_)
            go_meet
            case rel => exact ⟨by rw [HOD.out, h1, h2, h2k, h3, h4, h121n]; first | rfl | simp, Lib.hid (HWN.out _ _ HW.out HB5.out)⟩
          · skip
            go_wp2_with (refine wpList_load_cm HKQ.out H.out.x (.tmp 1) rfl rfl rfl ?_)
            refine HSD.out.mono ?_
            rintro _ w5 ⟨rfl, hb5⟩
            have HK5 : Hid (w5.heap[w.heap.size]? = some (.cells X 44 (0, 0))) := Lib.hid ((hb5.block _ hlt0).trans HKQ.out)
            have x7a : w5.cell? ⟨w.heap.size, 7, none⟩ = some (.int .u8 nm.toNat) := (hb5.cell (p := ⟨w.heap.size, 7, none⟩) hlt0).trans x7
            have HB5 := Lib.hid hb5
            clear hb5
            go_wp2_with (refine wpList_load_table HK5.out H.out.x (.tmp 65) rfl rfl rfl TT HTT.out ?_)
            go_meet
            case rel => exact ⟨by rw [HOD.out, h1, h2, h2k, h3, h4, h121n]; first | rfl | simp, Lib.hid (HWN.out _ _ HW.out HB5.out)⟩
        · rw [h121] at e121
          have e121n : ((nm.toNat : Int) != 121) = false := by rw [bne, e121]; rfl
          have h121n : (nm != 121) = false := by rw [bne, h121]; rfl
          go_wp2_with (refine wpList_load_cm HKQ.out H.out.x (.tmp 1) rfl rfl rfl ?_)
          refine HSD.out.mono ?_
          rintro _ w5 ⟨rfl, hb5⟩
          have HK5 : Hid (w5.heap[w.heap.size]? = some (.cells X 44 (0, 0))) := Lib.hid ((hb5.block _ hlt0).trans HKQ.out)
          have x7a : w5.cell? ⟨w.heap.size, 7, none⟩ = some (.int .u8 nm.toNat) := (hb5.cell (p := ⟨w.heap.size, 7, none⟩) hlt0).trans x7
          have HB5 := Lib.hid hb5
          clear hb5
          go_wp2_with fail
          go_meet
          case rel => exact ⟨by rw [HOD.out, h1, h2, h2k, h3, h4, h121n]; first | rfl | simp, Lib.hid (HWN.out _ _ HW.out HB5.out)⟩
      case rest =>
        obtain ⟨rfl, HWC⟩ := hcut
        obtain ⟨w6, rfl⟩ : ∃ W : World, W = wc := ⟨_, rfl⟩
        clear hneq hzt x0 x6 x8 HKQ HSD e121
        cases od
        case true =>
          have hws := HWC.out
          rw [HWS.out] at hws
          go_wp2_with fail
          go_ret
          exact ⟨by rw [HF.out]; rfl, hws.1⟩
        have HF2 : Hid (Cmd.shaped c = Cmd.rest c) := Lib.hid (by rw [HF.out]; rfl)
        have hws := HWC.out
        rw [HWS.out] at hws
        obtain ⟨hb6, hk6, -⟩ := hws
        obtain ⟨rl, hrl⟩ : ∃ k, k = c.re.length := ⟨_, rfl⟩
        obtain ⟨fl, hfl⟩ : ∃ k, k = c.fill.length := ⟨_, rfl⟩
        obtain ⟨A4, hA4⟩ : ∃ k, k = s.A4 := ⟨_, rfl⟩
        obtain ⟨A5, hA5⟩ : ∃ k, k = s.A5 := ⟨_, rfl⟩
        obtain ⟨c4, hc4⟩ : ∃ k, k = s.c4 := ⟨_, rfl⟩
        obtain ⟨c5, hc5⟩ : ∃ k, k = s.c5 := ⟨_, rfl⟩
        obtain ⟨ct, hct⟩ : ∃ k, k = c.count := ⟨_, rfl⟩
        obtain ⟨b1, hb1⟩ : ∃ k, k = c.all := ⟨_, rfl⟩
        obtain ⟨b2, hb2⟩ : ∃ k, k = c.print := ⟨_, rfl⟩
        obtain ⟨b3, hb3⟩ : ∃ k, k = c.write := ⟨_, rfl⟩
        have y7 : w6.cell? ⟨w.heap.size, 7, none⟩ = some (.int .u8 nm.toNat) := by rw [HNM.out]; exact (cm_cell hk6 H.out.x (by omega)).trans rfl
        have y10 : w6.cell? ⟨w.heap.size, 10, none⟩ = some (.slice A4 rl c4) := by rw [hrl, hA4, hc4]; exact (cm_cell hk6 H.out.x (by omega)).trans rfl
        have y11 : w6.cell? ⟨w.heap.size, 11, none⟩ = some (.slice A5 fl c5) := by rw [hfl, hA5, hc5]; exact (cm_cell hk6 H.out.x (by omega)).trans rfl
        have y12 : w6.cell? ⟨w.heap.size, 12, none⟩ = some (.int .i64 ct) := by rw [hct]; exact (cm_cell hk6 H.out.x (by omega)).trans rfl
        have y13 : w6.cell? ⟨w.heap.size, 13, none⟩ = some (.bool b1) := by rw [hb1]; exact (cm_cell hk6 H.out.x (by omega)).trans rfl
        have y14 : w6.cell? ⟨w.heap.size, 14, none⟩ = some (.bool b2) := by rw [hb2]; exact (cm_cell hk6 H.out.x (by omega)).trans rfl
        have y15 : w6.cell? ⟨w.heap.size, 15, none⟩ = some (.bool b3) := by rw [hb3]; exact (cm_cell hk6 H.out.x (by omega)).trans rfl
        have hre0 : ∀ {α : Type} (l : List α), l.isEmpty = ((l.length : Int) == 0) := fun l => by
          cases l with
          | nil => rfl
          | cons a l => rw [List.isEmpty_cons, eq_comm, beq_eq_false_iff_ne, List.length_cons]; omega
        have h6 := H.out.far hb6
        have hrc : rl ≤ c4 := by rw [hrl, hc4]; exact h6.l.re.len
        have hrm : c4 ≤ 9223372036854775807 := by rw [hc4]; exact h6.l.re.max
        have hfc : fl ≤ c5 := by rw [hfl, hc5]; exact h6.l.fill.len
        have hfm : c5 ≤ 9223372036854775807 := by rw [hc5]; exact h6.l.fill.max
        obtain ⟨sh, hsh⟩ : ∃ k, k = Syn.shaped c.re := ⟨_, rfl⟩
        obtain ⟨gr, hgr⟩ : ∃ k, k = Syn.groups c.re := ⟨_, rfl⟩
        obtain ⟨mo, hmo⟩ : ∃ k, k = most c.fill := ⟨_, rfl⟩
        obtain ⟨fs, hfs⟩ : ∃ k, k = shaped c.fill := ⟨_, rfl⟩
        have HRL := Lib.hid hrl
        have HFL := Lib.hid hfl
        have HS1 : Hid (∀ W, Below w.heap.size w W → Calls Tryd.prog 32 #[.slice A4 rl c4] W fun e w' => e = .returned (.bool sh) ∧ Below W.heap.size W w') := Lib.hid fun W hW => by
          have h := H.out.far hW
          rw [hA4, hc4, hsh]; exact synShaped_any HRL (Lib.hid h.l.re) (Lib.hid h.s)
        have HS2 : Hid (∀ W, Below w.heap.size w W → Calls Tryd.prog 34 #[.slice A4 rl c4] W fun e w' => e = .returned (.int .i64 (gr : Nat)) ∧ Below W.heap.size W w') := Lib.hid fun W hW => by
          have h := H.out.far hW
          rw [hA4, hc4, hgr]; exact synGroups_any HRL (Lib.hid h.l.re) (Lib.hid h.s)
        have HS3 : Hid (∀ W, Below w.heap.size w W → Calls Tryd.prog 33 #[.slice A5 fl c5] W fun e w' => e = .returned (.int .i64 mo) ∧ Below W.heap.size W w') := Lib.hid fun W hW => by
          have h := H.out.far hW
          rw [hA5, hc5, hmo]; exact fillMost_any _ _ _ _ _ _ HFL (Lib.hid h.l.fill) (Lib.hid h.s)
        have HS4 : Hid (∀ W, Below w.heap.size w W → Calls Tryd.prog 35 #[.slice A5 fl c5] W fun e w' => e = .returned (.bool fs) ∧ Below W.heap.size W w') := Lib.hid fun W hW => by
          have h := H.out.far hW
          rw [hA5, hc5, hfs, hfl]; exact shaped_any _ _ _ _ (h.l.fill.up h.s)
        have HRE : Hid (Cmd.rest c = if nm != 115 then ((rl : Int) == 0) && ((fl : Int) == 0) && ct == 0 && !b1 && !b2 && !b3 else (((rl : Int) == 0) || (sh && decide (mo ≤ (gr : Int)))) && fs && decide (0 ≤ ct) && decide (ct ≤ 1048576)) := Lib.hid (by
          unfold Cmd.rest
          rw [hre0, hre0, HNM.out, hrl, hfl, hct, hb1, hb2, hb3, hsh, hgr, hmo, hfs])
        have e115 : ((nm.toNat : Int) == 115) = (nm == 115) := u8_eq nm 115 (by omega)
        have HB6 := Lib.hid hb6
        have HK6 := Lib.hid hk6
        have hlt6 : w.heap.size < w6.heap.size := (Array.getElem?_eq_some_iff.1 hk6).1
        clear hb6 hk6 hrl hfl hA4 hA5 hc4 hc5 hct hb1 hb2 hb3 hsh hgr hmo hfs hre0 h6 hlt0 ha0 ha2
        cases h115 : (nm == 115)
        · rw [h115] at e115
          have e115n : ((nm.toNat : Int) != 115) = true := by rw [bne, e115]; rfl
          have h115n : (nm != 115) = true := by rw [bne, h115]; rfl
          have HR2 : Hid (Cmd.shaped c = (((rl : Int) == 0) && ((fl : Int) == 0) && ct == 0 && !b1 && !b2 && !b3)) := Lib.hid (by rw [HF2.out, HRE.out, h115n]; rfl)
          cases p1 : ((rl : Int) == 0)
          case false =>
            go_wp2_with fail
            go_ret
            exact ⟨by rw [HR2.out, p1]; rfl, HB6.out⟩
          cases p2 : ((fl : Int) == 0)
          case false =>
            go_wp2_with fail
            go_ret
            exact ⟨by rw [HR2.out, p1, p2]; rfl, HB6.out⟩
          cases p3 : (ct == 0)
          case false =>
            go_wp2_with fail
            go_ret
            exact ⟨by rw [HR2.out, p1, p2, p3]; rfl, HB6.out⟩
          cases b1
          case true =>
            go_wp2_with fail
            go_ret
            exact ⟨by rw [HR2.out, p1, p2, p3]; rfl, HB6.out⟩
          cases b2
          case true =>
            go_wp2_with fail
            go_ret
            exact ⟨by rw [HR2.out, p1, p2, p3]; rfl, HB6.out⟩
          go_wp2_with fail
          go_ret
          exact ⟨by rw [HR2.out, p1, p2, p3]; simp, HB6.out⟩
        · rw [h115] at e115
          have e115n : ((nm.toNat : Int) != 115) = false := by rw [bne, e115]; rfl
          have h115n : (nm != 115) = false := by rw [bne, h115]; rfl
          have HR2 : Hid (Cmd.shaped c = ((((rl : Int) == 0) || (sh && decide (mo ≤ (gr : Int)))) && fs && decide (0 ≤ ct) && decide (ct ≤ 1048576))) := Lib.hid (by rw [HF2.out, HRE.out, h115n]; rfl)
          obtain ⟨bad, hbad⟩ : ∃ bad, bad = !(((rl : Int) == 0) || (sh && decide (mo ≤ (gr : Int)))) := ⟨_, rfl⟩
          have HR3 : Hid (Cmd.shaped c = (!bad && fs && decide (0 ≤ ct) && decide (ct ≤ 1048576))) := Lib.hid (by rw [HR2.out, hbad, Bool.not_not])
          have HBD := Lib.hid hbad
          obtain ⟨SW, hSW⟩ : ∃ SW : World → Prop, SW = fun W => Below w6.heap.size w6 W ∧ W.cell? ⟨w.heap.size, 10, none⟩ = some (.slice A4 rl c4) ∧ W.cell? ⟨w.heap.size, 11, none⟩ = some (.slice A5 fl c5) := ⟨_, rfl⟩
          have HK : Hid (∀ wa wb : World, SW wa → Below wa.heap.size wa wb → SW wb) := Lib.hid (by
            rw [hSW]
            rintro wa wb ⟨a, b, c⟩ hb
            exact ⟨a.trans (hb.mono a.size), (hb.cell (World.block_lt_of_cell? wa _ b)).trans b, (hb.cell (World.block_lt_of_cell? wa _ c)).trans c⟩)
          have HK0 : Hid (SW w6.drew) := Lib.hid (by rw [hSW]; exact ⟨⟨rfl, rfl, rfl, Nat.le_refl _, fun _ _ => rfl⟩, y10, y11⟩)
          have HT1 : Hid (∀ W, (Below w6.heap.size w6 W ∧ W.cell? ⟨w.heap.size, 10, none⟩ = some (.slice A4 rl c4) ∧ W.cell? ⟨w.heap.size, 11, none⟩ = some (.slice A5 fl c5)) → Calls Tryd.prog 32 #[.slice A4 rl c4] W fun e w' => e = .returned (.bool sh) ∧ Below W.heap.size W w') := Lib.hid fun W hW => HS1.out W (HB6.out.trans (hW.1.mono HB6.out.size))
          have HT2 : Hid (∀ W, (Below w6.heap.size w6 W ∧ W.cell? ⟨w.heap.size, 10, none⟩ = some (.slice A4 rl c4) ∧ W.cell? ⟨w.heap.size, 11, none⟩ = some (.slice A5 fl c5)) → Calls Tryd.prog 34 #[.slice A4 rl c4] W fun e w' => e = .returned (.int .i64 (gr : Nat)) ∧ Below W.heap.size W w') := Lib.hid fun W hW => HS2.out W (HB6.out.trans (hW.1.mono HB6.out.size))
          have HT3 : Hid (∀ W, (Below w6.heap.size w6 W ∧ W.cell? ⟨w.heap.size, 10, none⟩ = some (.slice A4 rl c4) ∧ W.cell? ⟨w.heap.size, 11, none⟩ = some (.slice A5 fl c5)) → Calls Tryd.prog 33 #[.slice A5 fl c5] W fun e w' => e = .returned (.int .i64 mo) ∧ Below W.heap.size W w') := Lib.hid fun W hW => HS3.out W (HB6.out.trans (hW.1.mono HB6.out.size))
          subst hSW
          clear hbad
          go_upto_region 14 with fail
          go_cut [122] from 104 (fun v122 wc => v122 = .bool bad ∧ Hid (Below w6.heap.size w6 wc))
          case first =>
            by_cases hr0 : rl = 0
            · subst hr0
              go_quiet (fail)
              go_wp2_with fail
              go_meet
              case rel => exact ⟨by rw [HBD.out]; rfl, Lib.hid (below_dr22 _ _)⟩
            · have hg : decide ((0 : Int) < (rl : Int)) = true := by simp; omega
              have hg0 : 0 < rl := by omega
              have HZ : Hid (((rl : Int) == 0) = false) := Lib.hid (by rw [beq_eq_false_iff_ne]; omega)
              clear hr0
              cases sh
              · have HU1 : Hid (∀ W, Below w6.heap.size w6 W → Calls Tryd.prog 32 #[.slice A4 rl c4] W fun e w' => e = .returned (.bool false) ∧ Below w6.heap.size w6 w') := Lib.hid fun W hW => (HS1.out W (HB6.out.trans (hW.mono HB6.out.size))).mono fun e w' h => ⟨h.1, hW.trans (h.2.mono hW.size)⟩
                first
                  | go_region_with (go_at_call 32; refine (HU1.out _ (by first | exact Below.refl _ _ | exact (Below.refl _ _).drew)).mono ?_; rintro _ w7 ⟨rfl, hb7⟩; have HB7 : Hid (Below w6.heap.size w6 w7) := Lib.hid hb7; clear hb7)
                  | fail
                all_goals
                  go_wp2_with fail
                  go_meet
                  case rel => exact ⟨by rw [HBD.out, HZ.out]; rfl, HB7⟩
              · cases hmg : decide ((gr : Int) < mo)
                all_goals
                  have HMG : Hid (decide (mo ≤ (gr : Int)) = !decide ((gr : Int) < mo)) := Lib.hid (by
                    rw [Bool.eq_iff_iff]; simp)
                  rw [hmg] at HMG
                  go_region_held3 (fun W => Below w6.heap.size w6 W ∧ W.cell? ⟨w.heap.size, 10, none⟩ = some (.slice A4 rl c4) ∧ W.cell? ⟨w.heap.size, 11, none⟩ = some (.slice A5 fl c5))
                    (first | exact HK0.out | exact HK.out _ _ (by assumption) (by assumption) | fail)
                    (first | (go_at_call 32; refine (HT1.out _ (by assumption)).mono ?_; rintro e w7 ⟨rfl, hb7⟩) | (go_at_call 33; refine (HT3.out _ (by assumption)).mono ?_; rintro e w7 ⟨rfl, hb7⟩) | (go_at_call 34; refine (HT2.out _ (by assumption)).mono ?_; rintro e w7 ⟨rfl, hb7⟩) | fail)
                  all_goals
                    go_wp2_with fail
                    go_meet
                    case rel => exact ⟨by rw [HBD.out, HZ.out, HMG.out]; first | rfl | simp, Lib.hid (And.left (by assumption))⟩
          case rest =>
            obtain ⟨rfl, HBW⟩ := hcut
            obtain ⟨w7, rfl⟩ : ∃ W : World, W = wc := ⟨_, rfl⟩
            clear HK HK0
            have y11a : w7.cell? ⟨w.heap.size, 11, none⟩ = some (.slice A5 fl c5) := (HBW.out.cell (p := ⟨w.heap.size, 11, none⟩) hlt6).trans y11
            have y12a : w7.cell? ⟨w.heap.size, 12, none⟩ = some (.int .i64 ct) := (HBW.out.cell (p := ⟨w.heap.size, 12, none⟩) hlt6).trans y12
            have HB7 : Hid (Below w.heap.size w w7) := Lib.hid (HB6.out.trans (HBW.out.mono HB6.out.size))
            have HC4 := Lib.hid (HS4.out w7 HB7.out)
            have hlt7 : w.heap.size < w7.heap.size := Nat.lt_of_lt_of_le hlt6 HBW.out.size
            cases bad
            case true =>
              go_wp2_with fail
              go_ret
              exact ⟨by rw [HR3.out]; rfl, HB7.out⟩
            cases fs
            case false =>
              go_wp2_with (go_at_call 35; refine HC4.out.mono ?_; rintro _ w8 ⟨rfl, hb8⟩; have HB8 := Lib.hid hb8; clear hb8)
              go_ret
              exact ⟨by rw [HR3.out]; rfl, HB7.out.trans (HB8.out.mono HB7.out.size)⟩
            cases q1 : decide (0 ≤ ct)
            · go_wp2_with (go_at_call 35; refine HC4.out.mono ?_; rintro _ w8 ⟨rfl, hb8⟩; have y12b : w8.cell? ⟨w.heap.size, 12, none⟩ = some (.int .i64 ct) := (hb8.cell (p := ⟨w.heap.size, 12, none⟩) hlt7).trans y12a; have HB8 := Lib.hid hb8; clear hb8)
              go_ret
              exact ⟨by rw [HR3.out, q1]; rfl, HB7.out.trans (HB8.out.mono HB7.out.size)⟩
            · go_wp2_with (go_at_call 35; refine HC4.out.mono ?_; rintro _ w8 ⟨rfl, hb8⟩; have y12b : w8.cell? ⟨w.heap.size, 12, none⟩ = some (.int .i64 ct) := (hb8.cell (p := ⟨w.heap.size, 12, none⟩) hlt7).trans y12a; have HB8 := Lib.hid hb8; clear hb8)
              go_ret
              exact ⟨by rw [HR3.out, q1]; simp, HB7.out.trans (HB8.out.mono HB7.out.size)⟩
end Go.Proofs.YtnpideapdjomgaaDoor
