/- Texts that lead to the claim, one behind the other: Commands compared: the walks of AlikeCmd, EqCmd, EqCmds. No conditions. | Commands, lists of commands compared: the walks of EqCmd, EqCmds. No conditions. | Programs in memory, compared: the walk of EqProgram. No conditions. -/
import Derived.Test.YtnpideapdjomgaaDoorRA42
import Derived.Test.YtnpideapdjomgaaDoorRA12
import Derived.Test.YtnpideapdjomgaaDoorRA22
import Derived.Deep.RegionHeld3
import Derived.Test.YtnpideapdjomgaaDoorRA11
import Derived.Test.YtnpideapdjomgaaDoorRA43
namespace Go.Proofs.YtnpideapdjomgaaDoor
open Go.RowKit Go.ChangeShapes Go.WideShapes Go.Deep

deriving instance DecidableEq for Ad
deriving instance DecidableEq for Cm
theorem Ad.eqB_eq (a b : Ad) : a.eqB b = decide (a = b) := by
  cases a; cases b
  unfold Ad.eqB
  rw [Bool.eq_iff_iff]
  simp [and_assoc]
def Cm.alikeB (x y : Cm) : Bool := x.a.eqB y.a && x.b.eqB y.b && decide (x.not = y.not) && decide (x.name = y.name) && decide (x.text = y.text) && decide (x.re = y.re) && (decide (x.fill = y.fill) && decide (x.count = y.count) && decide (x.all = y.all) && decide (x.print = y.print) && decide (x.write = y.write) && decide (x.table = y.table))
theorem Cm.eqB_eq (x y : Cm) : (decide (x.pos = y.pos) && x.alikeB y) = decide (x = y) := by
  unfold Cm.alikeB
  rw [Ad.eqB_eq, Ad.eqB_eq]
  cases x; cases y
  rw [Bool.eq_iff_iff]
  simp only [Bool.and_eq_true, decide_eq_true_eq, Cm.mk.injEq]
  constructor
  · rintro ⟨rfl, ⟨⟨⟨⟨⟨rfl, rfl⟩, rfl⟩, rfl⟩, rfl⟩, rfl⟩, ⟨⟨⟨⟨rfl, rfl⟩, rfl⟩, rfl⟩, rfl⟩, rfl⟩
    exact ⟨rfl, rfl, rfl, rfl, rfl, rfl, rfl, rfl, rfl, rfl, rfl, rfl, rfl⟩
  · rintro ⟨rfl, rfl, rfl, rfl, rfl, rfl, rfl, rfl, rfl, rfl, rfl, rfl, rfl⟩
    exact ⟨rfl, ⟨⟨⟨⟨⟨rfl, rfl⟩, rfl⟩, rfl⟩, rfl⟩, rfl⟩, ⟨⟨⟨⟨rfl, rfl⟩, rfl⟩, rfl⟩, rfl⟩, rfl⟩
theorem all_same {t u : List UInt8} (ht : t.length = 256) (hu : u.length = 256) : ((List.range 256).all fun i => (t.getD i 0 == u.getD i 0)) = decide (t = u) := by
  rw [Bool.eq_iff_iff, List.all_eq_true, decide_eq_true_eq]
  constructor
  · intro H
    apply List.ext_getElem (by omega)
    intro i h1 h2
    have := H i (List.mem_range.2 (by omega))
    rw [List.getD_eq_getElem?_getD, List.getD_eq_getElem?_getD, List.getElem?_eq_getElem h1, List.getElem?_eq_getElem h2] at this
    simpa using this
  · rintro rfl i _; simp
theorem run_eq_tables {t u : List UInt8} {X Z : Array Value} (ht : t.length = 256) (hu : u.length = 256) (hX : X.toList = bcells t) (hZ : Z.toList = bcells u) (w : World) :
    (binOp .eql 42 (.agg X) (.agg Z)).run Tryd.prog w = .ok (.bool (decide (t = u))) w := by
  have hut : Tryd.prog.underlying 42 = some (.array 256 5) := by kernel_rfl
  have hi : Tryd.prog.info? 5 = some (Tryd.prog.info? 5).get! := by kernel_rfl
  have hc : Tryd.prog.cellsOf 5 = 1 := by kernel_rfl
  rw [run_eql_struct, show (10000 : Nat) = 9998 + 1 + 1 from rfl, run_equalIn_array w (9998 + 1) _ _ hut hi, hc, run_eqItems_bytes 9998 hX hZ w _ (fun i hi => by have := List.mem_range.1 hi; rw [ht, hu]; omega), all_same ht hu]
  rfl
/-- Two commands in boxes. -/
structure CmTwo (w : World) (X Y : Array Value) (gx gy : Nat) (x y : Cm) (s t : CmS) (S : Blocks) : Prop where
  fx : CmX X x s
  fy : CmX Y y t
  bx : w.heap[gx]? = some (.cells X 44 (0, 0))
  by_ : w.heap[gy]? = some (.cells Y 44 (0, 0))
  lx : CmL w S x s
  ly : CmL w S y t
  hS : ∀ b, S b → b < w.heap.size
section
variable {w W : World} {X Y : Array Value} {gx gy : Nat} {x y : Cm} {s t : CmS} {S : Blocks}
theorem CmTwo.far (h : CmTwo w X Y gx gy x y s t S) (hb : Below w.heap.size w W) : CmTwo W X Y gx gy x y s t S :=
  ⟨h.fx, h.fy, (hb.block _ (Array.getElem?_eq_some_iff.1 h.bx).1).trans h.bx, (hb.block _ (Array.getElem?_eq_some_iff.1 h.by_).1).trans h.by_, h.lx.keep (fun _ h => h) (Same.of_below hb h.hS), h.ly.keep (fun _ h => h) (Same.of_below hb h.hS), fun b hb' => Nat.lt_of_lt_of_le (h.hS b hb') hb.size⟩
theorem CmTwo.cx (h : CmTwo w X Y gx gy x y s t S) {k : Nat} (hk : k < 16) : w.cell? ⟨gx, k, none⟩ = (hcells x s)[k]? := cm_cell h.bx h.fx hk
theorem CmTwo.cy (h : CmTwo w X Y gx gy x y s t S) {k : Nat} (hk : k < 16) : w.cell? ⟨gy, k, none⟩ = (hcells y t)[k]? := cm_cell h.by_ h.fy hk
theorem CmTwo.made (hx : CmX X x s) (hy : CmX Y y t) (lx : CmL w S x s) (ly : CmL w S y t) (hS : ∀ b, S b → b < w.heap.size)   : CmTwo ((w.alloc (.cells X 44)).alloc (.cells Y 44)) X Y w.heap.size (w.heap.size + 1) x y s t S := by
  have hb : Below w.heap.size w ((w.alloc (.cells X 44)).alloc (.cells Y 44)) := ((Below.refl _ w).alloc (Nat.le_refl _) _).alloc (by simp) _
  refine ⟨hx, hy, ?_, ?_, lx.keep (fun _ h => h) (Same.of_below hb hS), ly.keep (fun _ h => h) (Same.of_below hb hS), fun b h => Nat.lt_of_lt_of_le (hS b h) hb.size⟩
  · rw [Below.heap_alloc _ _ _ (by simp)]; exact heap_alloc_new w _
  · have := heap_alloc_new (w.alloc (.cells X 44)) (.cells Y 44)
    rwa [show (w.alloc (.cells X 44)).heap.size = w.heap.size + 1 from by simp] at this
end
set_option maxRecDepth 100000 in
set_option maxHeartbeats 8000000 in
theorem alike_any {X Y : Array Value} {x y : Cm} {s t : CmS} {w : World} {S : Blocks} (hx : Hid (CmX X x s)) (hy : Hid (CmX Y y t)) (lx : Hid (CmL w S x s)) (ly : Hid (CmL w S y t)) (hS : Hid (∀ b, S b → b < w.heap.size)) :
    Calls Tryd.prog 40 #[.agg X, .agg Y] w fun e w' => e = .returned (.bool (x.alikeB y)) ∧ Below w.heap.size w w' := by
  obtain ⟨w2, hw2⟩ : ∃ W, W = (w.alloc (.cells X 44)).alloc (.cells Y 44) := ⟨_, rfl⟩
  have HW2 := Lib.hid hw2
  have HB2 : Hid (Below w.heap.size w w2) := Lib.hid (by rw [hw2]; exact ((Below.refl _ w).alloc (Nat.le_refl _) _).alloc (by simp) _)
  have HTW : Hid (CmTwo w2 X Y w.heap.size (w.heap.size + 1) x y s t S) := Lib.hid (by rw [hw2]; exact CmTwo.made hx.out hy.out lx.out ly.out hS.out)
  obtain ⟨gx, hgx⟩ : ∃ g, g = w.heap.size := ⟨_, rfl⟩
  obtain ⟨gy, hgy⟩ : ∃ g, g = w.heap.size + 1 := ⟨_, rfl⟩
  have HT : Hid (CmTwo w2 X Y gx gy x y s t S) := Lib.hid (by rw [hgx, hgy]; exact HTW.out)
  clear HTW hw2
  have wfx := hx.out.wf
  have wfy := hy.out.wf
  have HWX := Lib.hid wfx
  have HWY := Lib.hid wfy
  clear wfx wfy
  obtain ⟨t1, ht1⟩ : ∃ b, b = x.a.eqB y.a := ⟨_, rfl⟩
  obtain ⟨t2, ht2⟩ : ∃ b, b = x.b.eqB y.b := ⟨_, rfl⟩
  obtain ⟨t3, ht3⟩ : ∃ b, b = decide (x.not = y.not) := ⟨_, rfl⟩
  obtain ⟨t4, ht4⟩ : ∃ b, b = decide (x.name = y.name) := ⟨_, rfl⟩
  obtain ⟨t5, ht5⟩ : ∃ b, b = decide (x.text = y.text) := ⟨_, rfl⟩
  obtain ⟨t6, ht6⟩ : ∃ b, b = decide (x.re = y.re) := ⟨_, rfl⟩
  obtain ⟨t7, ht7⟩ : ∃ b, b = decide (x.fill = y.fill) := ⟨_, rfl⟩
  obtain ⟨t8, ht8⟩ : ∃ b, b = decide (x.count = y.count) := ⟨_, rfl⟩
  obtain ⟨t9, ht9⟩ : ∃ b, b = decide (x.all = y.all) := ⟨_, rfl⟩
  obtain ⟨ta, hta⟩ : ∃ b, b = decide (x.print = y.print) := ⟨_, rfl⟩
  obtain ⟨tb, htb⟩ : ∃ b, b = decide (x.write = y.write) := ⟨_, rfl⟩
  obtain ⟨tc, htc⟩ : ∃ b, b = decide (x.table = y.table) := ⟨_, rfl⟩
  have HF : Hid (x.alikeB y = (t1 && t2 && t3 && t4 && t5 && t6 && (t7 && t8 && t9 && ta && tb && tc))) := Lib.hid (by rw [ht1, ht2, ht3, ht4, ht5, ht6, ht7, ht8, ht9, hta, htb, htc]; rfl)
  have e3 : (x.not != y.not) = !t3 := by rw [ht3, bne]; cases x.not <;> cases y.not <;> rfl
  have e3b : (x.not = y.not) = (t3 = true) := by rw [ht3]; simp
  have e9b : (x.all = y.all) = (t9 = true) := by rw [ht9]; simp
  have eab : (x.print = y.print) = (ta = true) := by rw [hta]; simp
  have ebb : (x.write = y.write) = (tb = true) := by rw [htb]; simp
  have e4 : ((x.name.toNat : Int) != (y.name.toNat : Int)) = !t4 := by
    rw [ht4, bne]; congr 1
    rw [Bool.eq_iff_iff]; simp only [beq_iff_eq, decide_eq_true_eq]
    constructor
    · intro h; exact UInt8.toNat_inj.1 (by omega)
    · intro h; rw [h]
  have e8 : (x.count == y.count) = t8 := by rw [ht8]; exact (Bool.eq_iff_iff.2 (by simp))
  have e9 : (x.all == y.all) = t9 := by rw [ht9]; cases x.all <;> cases y.all <;> rfl
  have ea : (x.print == y.print) = ta := by rw [hta]; cases x.print <;> cases y.print <;> rfl
  have eb : (x.write == y.write) = tb := by rw [htb]; cases x.write <;> cases y.write <;> rfl
  have HC1 : Hid (Calls Tryd.prog 51 #[.agg #[.int .i8 x.a.kind, .int .i64 x.a.n, .slice s.A1 x.a.re.length s.c1], .agg #[.int .i8 y.a.kind, .int .i64 y.a.n, .slice t.A1 y.a.re.length t.c1]] w2 fun e w' => e = .returned (.bool t1) ∧ Below w2.heap.size w2 w') := Lib.hid (by rw [ht1]; exact eqAddr_any _ _ _ _ x.a y.a w2 S (Lib.hid HT.out.lx.a) (Lib.hid HT.out.ly.a) (Lib.hid HT.out.hS))
  have HC2 : Hid (∀ W, Below w2.heap.size w2 W → Calls Tryd.prog 51 #[.agg #[.int .i8 x.b.kind, .int .i64 x.b.n, .slice s.A2 x.b.re.length s.c2], .agg #[.int .i8 y.b.kind, .int .i64 y.b.n, .slice t.A2 y.b.re.length t.c2]] W fun e w' => e = .returned (.bool t2) ∧ Below w2.heap.size w2 w') := Lib.hid fun W hW => by
    have h := HT.out.far hW
    rw [ht2]
    refine (eqAddr_any _ _ _ _ x.b y.b W S (Lib.hid h.lx.b) (Lib.hid h.ly.b) (Lib.hid h.hS)).mono ?_
    rintro e w' ⟨rfl, hb⟩
    exact ⟨rfl, hW.trans (hb.mono hW.size)⟩
  have HC5 : Hid (∀ W, Below w2.heap.size w2 W → Calls Tryd.prog 13 #[.slice s.A3 x.text.length s.c3, .slice t.A3 y.text.length t.c3] W fun e w' => e = .returned (.bool t5) ∧ Below w2.heap.size w2 w') := Lib.hid fun W hW => by
    have h := HT.out.far hW
    rw [ht5]
    refine (eqBytes _ _ _ _ x.text y.text W S S h.lx.text h.ly.text).mono ?_
    rintro e w' ⟨rfl, k, rfl⟩
    exact ⟨rfl, ⟨hW.os, hW.tape, hW.output, hW.size, hW.block⟩⟩
  have HC6 : Hid (∀ W, Below w2.heap.size w2 W → Calls Tryd.prog 52 #[.slice s.A4 x.re.length s.c4, .slice t.A4 y.re.length t.c4] W fun e w' => e = .returned (.bool t6) ∧ Below w2.heap.size w2 w') := Lib.hid fun W hW => by
    have h := HT.out.far hW
    rw [ht6]
    refine (eqNodes_any _ _ _ _ _ _ x.re y.re W S (Lib.hid rfl) (Lib.hid rfl) (Lib.hid h.lx.re) (Lib.hid h.ly.re) (Lib.hid h.hS)).mono ?_
    rintro e w' ⟨rfl, hb⟩
    exact ⟨rfl, hW.trans (hb.mono hW.size)⟩
  have HC7 : Hid (∀ W, Below w2.heap.size w2 W → Calls Tryd.prog 53 #[.slice s.A5 x.fill.length s.c5, .slice t.A5 y.fill.length t.c5] W fun e w' => e = .returned (.bool t7) ∧ Below w2.heap.size w2 w') := Lib.hid fun W hW => by
    have h := HT.out.far hW
    rw [ht7]
    refine (eqPieces_any _ _ _ _ _ _ x.fill y.fill W S (Lib.hid rfl) (Lib.hid rfl) (Lib.hid h.lx.fill) (Lib.hid h.ly.fill) (Lib.hid h.hS)).mono ?_
    rintro e w' ⟨rfl, hb⟩
    exact ⟨rfl, hW.trans (hb.mono hW.size)⟩
  have htab := fun W => run_eq_tables (t := x.table) (u := y.table) HWX.out.table HWY.out.table (X := (bcells x.table).toArray) (Z := (bcells y.table).toArray) rfl rfl W
  rw [← htc] at htab
  clear ht1 ht2 ht3 ht4 ht5 ht6 ht7 ht8 ht9 hta htb htc
  go_enter Tryd.func40, Tryd.ntmps40
  go_upto_region 1 with fail
  rw [← HW2.out, ← hgy, ← hgx]
  have HGX := Lib.hid hgx
  have HGY := Lib.hid hgy
  clear hgx hgy
  go_cut [48] from 5 to 48 (fun v wc => v = .bool (!(t1 && t2 && t3 && t4 && t5 && t6)) ∧ Hid (Below w2.heap.size w2 wc))
  case first =>
    have pw20 : w2.cell? ⟨gx, 0, none⟩ = some (.int .i8 x.a.kind) := (HT.out.cx (by omega)).trans rfl
    have qw20 : w2.cell? ⟨gy, 0, none⟩ = some (.int .i8 y.a.kind) := (HT.out.cy (by omega)).trans rfl
    have pw21 : w2.cell? ⟨gx, 1, none⟩ = some (.int .i64 x.a.n) := (HT.out.cx (by omega)).trans rfl
    have qw21 : w2.cell? ⟨gy, 1, none⟩ = some (.int .i64 y.a.n) := (HT.out.cy (by omega)).trans rfl
    have pw22 : w2.cell? ⟨gx, 2, none⟩ = some (.slice s.A1 x.a.re.length s.c1) := (HT.out.cx (by omega)).trans rfl
    have qw22 : w2.cell? ⟨gy, 2, none⟩ = some (.slice t.A1 y.a.re.length t.c1) := (HT.out.cy (by omega)).trans rfl
    cases t1
    case false =>
      go_wp2_with (first
        | (go_at_call_of 51 (s.A1); refine HC1.out.mono ?_; rintro _ w3 ⟨rfl, hb3⟩; have HT3 := Lib.hid (HT.out.far hb3); have HB3 := Lib.hid hb3; clear hb3; have pw33 : w3.cell? ⟨gx, 3, none⟩ = some (.int .i8 x.b.kind) := (HT3.out.cx (by omega)).trans rfl; have qw33 : w3.cell? ⟨gy, 3, none⟩ = some (.int .i8 y.b.kind) := (HT3.out.cy (by omega)).trans rfl; have pw34 : w3.cell? ⟨gx, 4, none⟩ = some (.int .i64 x.b.n) := (HT3.out.cx (by omega)).trans rfl; have qw34 : w3.cell? ⟨gy, 4, none⟩ = some (.int .i64 y.b.n) := (HT3.out.cy (by omega)).trans rfl; have pw35 : w3.cell? ⟨gx, 5, none⟩ = some (.slice s.A2 x.b.re.length s.c2) := (HT3.out.cx (by omega)).trans rfl; have qw35 : w3.cell? ⟨gy, 5, none⟩ = some (.slice t.A2 y.b.re.length t.c2) := (HT3.out.cy (by omega)).trans rfl))
      go_meet
      case rel => exact ⟨by first | rfl | (simp; done) | (simp [e3b]; done), HB3⟩
    cases t2
    case false =>
      go_wp2_with (first
        | (go_at_call_of 51 (s.A1); refine HC1.out.mono ?_; rintro _ w3 ⟨rfl, hb3⟩; have HT3 := Lib.hid (HT.out.far hb3); have HB3 := Lib.hid hb3; clear hb3; have pw33 : w3.cell? ⟨gx, 3, none⟩ = some (.int .i8 x.b.kind) := (HT3.out.cx (by omega)).trans rfl; have qw33 : w3.cell? ⟨gy, 3, none⟩ = some (.int .i8 y.b.kind) := (HT3.out.cy (by omega)).trans rfl; have pw34 : w3.cell? ⟨gx, 4, none⟩ = some (.int .i64 x.b.n) := (HT3.out.cx (by omega)).trans rfl; have qw34 : w3.cell? ⟨gy, 4, none⟩ = some (.int .i64 y.b.n) := (HT3.out.cy (by omega)).trans rfl; have pw35 : w3.cell? ⟨gx, 5, none⟩ = some (.slice s.A2 x.b.re.length s.c2) := (HT3.out.cx (by omega)).trans rfl; have qw35 : w3.cell? ⟨gy, 5, none⟩ = some (.slice t.A2 y.b.re.length t.c2) := (HT3.out.cy (by omega)).trans rfl)
        | (go_at_call_of 51 (s.A2); refine (HC2.out _ HB3.out).mono ?_; rintro _ w4 ⟨rfl, hb4⟩; have HT4 := Lib.hid (HT.out.far hb4); have HB4 := Lib.hid hb4; clear hb4; have pw46 : w4.cell? ⟨gx, 6, none⟩ = some (.bool x.not) := (HT4.out.cx (by omega)).trans rfl; have qw46 : w4.cell? ⟨gy, 6, none⟩ = some (.bool y.not) := (HT4.out.cy (by omega)).trans rfl; have pw47 : w4.cell? ⟨gx, 7, none⟩ = some (.int .u8 x.name.toNat) := (HT4.out.cx (by omega)).trans rfl; have qw47 : w4.cell? ⟨gy, 7, none⟩ = some (.int .u8 y.name.toNat) := (HT4.out.cy (by omega)).trans rfl; have pw49 : w4.cell? ⟨gx, 9, none⟩ = some (.slice s.A3 x.text.length s.c3) := (HT4.out.cx (by omega)).trans rfl; have qw49 : w4.cell? ⟨gy, 9, none⟩ = some (.slice t.A3 y.text.length t.c3) := (HT4.out.cy (by omega)).trans rfl))
      go_meet
      case rel => exact ⟨by first | rfl | (simp; done) | (simp [e3b]; done), HB4⟩
    cases t3
    case false =>
      go_wp2_with (first
        | (go_at_call_of 51 (s.A1); refine HC1.out.mono ?_; rintro _ w3 ⟨rfl, hb3⟩; have HT3 := Lib.hid (HT.out.far hb3); have HB3 := Lib.hid hb3; clear hb3; have pw33 : w3.cell? ⟨gx, 3, none⟩ = some (.int .i8 x.b.kind) := (HT3.out.cx (by omega)).trans rfl; have qw33 : w3.cell? ⟨gy, 3, none⟩ = some (.int .i8 y.b.kind) := (HT3.out.cy (by omega)).trans rfl; have pw34 : w3.cell? ⟨gx, 4, none⟩ = some (.int .i64 x.b.n) := (HT3.out.cx (by omega)).trans rfl; have qw34 : w3.cell? ⟨gy, 4, none⟩ = some (.int .i64 y.b.n) := (HT3.out.cy (by omega)).trans rfl; have pw35 : w3.cell? ⟨gx, 5, none⟩ = some (.slice s.A2 x.b.re.length s.c2) := (HT3.out.cx (by omega)).trans rfl; have qw35 : w3.cell? ⟨gy, 5, none⟩ = some (.slice t.A2 y.b.re.length t.c2) := (HT3.out.cy (by omega)).trans rfl)
        | (go_at_call_of 51 (s.A2); refine (HC2.out _ HB3.out).mono ?_; rintro _ w4 ⟨rfl, hb4⟩; have HT4 := Lib.hid (HT.out.far hb4); have HB4 := Lib.hid hb4; clear hb4; have pw46 : w4.cell? ⟨gx, 6, none⟩ = some (.bool x.not) := (HT4.out.cx (by omega)).trans rfl; have qw46 : w4.cell? ⟨gy, 6, none⟩ = some (.bool y.not) := (HT4.out.cy (by omega)).trans rfl; have pw47 : w4.cell? ⟨gx, 7, none⟩ = some (.int .u8 x.name.toNat) := (HT4.out.cx (by omega)).trans rfl; have qw47 : w4.cell? ⟨gy, 7, none⟩ = some (.int .u8 y.name.toNat) := (HT4.out.cy (by omega)).trans rfl; have pw49 : w4.cell? ⟨gx, 9, none⟩ = some (.slice s.A3 x.text.length s.c3) := (HT4.out.cx (by omega)).trans rfl; have qw49 : w4.cell? ⟨gy, 9, none⟩ = some (.slice t.A3 y.text.length t.c3) := (HT4.out.cy (by omega)).trans rfl))
      go_meet
      case rel => exact ⟨by first | rfl | (simp; done) | (simp [e3b]; done), HB4⟩
    cases t4
    case false =>
      go_wp2_with (first
        | (go_at_call_of 51 (s.A1); refine HC1.out.mono ?_; rintro _ w3 ⟨rfl, hb3⟩; have HT3 := Lib.hid (HT.out.far hb3); have HB3 := Lib.hid hb3; clear hb3; have pw33 : w3.cell? ⟨gx, 3, none⟩ = some (.int .i8 x.b.kind) := (HT3.out.cx (by omega)).trans rfl; have qw33 : w3.cell? ⟨gy, 3, none⟩ = some (.int .i8 y.b.kind) := (HT3.out.cy (by omega)).trans rfl; have pw34 : w3.cell? ⟨gx, 4, none⟩ = some (.int .i64 x.b.n) := (HT3.out.cx (by omega)).trans rfl; have qw34 : w3.cell? ⟨gy, 4, none⟩ = some (.int .i64 y.b.n) := (HT3.out.cy (by omega)).trans rfl; have pw35 : w3.cell? ⟨gx, 5, none⟩ = some (.slice s.A2 x.b.re.length s.c2) := (HT3.out.cx (by omega)).trans rfl; have qw35 : w3.cell? ⟨gy, 5, none⟩ = some (.slice t.A2 y.b.re.length t.c2) := (HT3.out.cy (by omega)).trans rfl)
        | (go_at_call_of 51 (s.A2); refine (HC2.out _ HB3.out).mono ?_; rintro _ w4 ⟨rfl, hb4⟩; have HT4 := Lib.hid (HT.out.far hb4); have HB4 := Lib.hid hb4; clear hb4; have pw46 : w4.cell? ⟨gx, 6, none⟩ = some (.bool x.not) := (HT4.out.cx (by omega)).trans rfl; have qw46 : w4.cell? ⟨gy, 6, none⟩ = some (.bool y.not) := (HT4.out.cy (by omega)).trans rfl; have pw47 : w4.cell? ⟨gx, 7, none⟩ = some (.int .u8 x.name.toNat) := (HT4.out.cx (by omega)).trans rfl; have qw47 : w4.cell? ⟨gy, 7, none⟩ = some (.int .u8 y.name.toNat) := (HT4.out.cy (by omega)).trans rfl; have pw49 : w4.cell? ⟨gx, 9, none⟩ = some (.slice s.A3 x.text.length s.c3) := (HT4.out.cx (by omega)).trans rfl; have qw49 : w4.cell? ⟨gy, 9, none⟩ = some (.slice t.A3 y.text.length t.c3) := (HT4.out.cy (by omega)).trans rfl))
      go_meet
      case rel => exact ⟨by first | rfl | (simp; done) | (simp [e3b]; done), HB4⟩
    cases t5
    case false =>
      go_wp2_with (first
        | (go_at_call_of 51 (s.A1); refine HC1.out.mono ?_; rintro _ w3 ⟨rfl, hb3⟩; have HT3 := Lib.hid (HT.out.far hb3); have HB3 := Lib.hid hb3; clear hb3; have pw33 : w3.cell? ⟨gx, 3, none⟩ = some (.int .i8 x.b.kind) := (HT3.out.cx (by omega)).trans rfl; have qw33 : w3.cell? ⟨gy, 3, none⟩ = some (.int .i8 y.b.kind) := (HT3.out.cy (by omega)).trans rfl; have pw34 : w3.cell? ⟨gx, 4, none⟩ = some (.int .i64 x.b.n) := (HT3.out.cx (by omega)).trans rfl; have qw34 : w3.cell? ⟨gy, 4, none⟩ = some (.int .i64 y.b.n) := (HT3.out.cy (by omega)).trans rfl; have pw35 : w3.cell? ⟨gx, 5, none⟩ = some (.slice s.A2 x.b.re.length s.c2) := (HT3.out.cx (by omega)).trans rfl; have qw35 : w3.cell? ⟨gy, 5, none⟩ = some (.slice t.A2 y.b.re.length t.c2) := (HT3.out.cy (by omega)).trans rfl)
        | (go_at_call_of 51 (s.A2); refine (HC2.out _ HB3.out).mono ?_; rintro _ w4 ⟨rfl, hb4⟩; have HT4 := Lib.hid (HT.out.far hb4); have HB4 := Lib.hid hb4; clear hb4; have pw46 : w4.cell? ⟨gx, 6, none⟩ = some (.bool x.not) := (HT4.out.cx (by omega)).trans rfl; have qw46 : w4.cell? ⟨gy, 6, none⟩ = some (.bool y.not) := (HT4.out.cy (by omega)).trans rfl; have pw47 : w4.cell? ⟨gx, 7, none⟩ = some (.int .u8 x.name.toNat) := (HT4.out.cx (by omega)).trans rfl; have qw47 : w4.cell? ⟨gy, 7, none⟩ = some (.int .u8 y.name.toNat) := (HT4.out.cy (by omega)).trans rfl; have pw49 : w4.cell? ⟨gx, 9, none⟩ = some (.slice s.A3 x.text.length s.c3) := (HT4.out.cx (by omega)).trans rfl; have qw49 : w4.cell? ⟨gy, 9, none⟩ = some (.slice t.A3 y.text.length t.c3) := (HT4.out.cy (by omega)).trans rfl)
        | (go_at_call 13; refine (HC5.out _ HB4.out).mono ?_; rintro _ w5 ⟨rfl, hb5⟩; have HT5 := Lib.hid (HT.out.far hb5); have HB5 := Lib.hid hb5; clear hb5; have pw510 : w5.cell? ⟨gx, 10, none⟩ = some (.slice s.A4 x.re.length s.c4) := (HT5.out.cx (by omega)).trans rfl; have qw510 : w5.cell? ⟨gy, 10, none⟩ = some (.slice t.A4 y.re.length t.c4) := (HT5.out.cy (by omega)).trans rfl))
      go_meet
      case rel => exact ⟨by first | rfl | (simp; done) | (simp [e3b]; done), HB5⟩
    cases t6
    case false =>
      go_wp2_with (first
        | (go_at_call_of 51 (s.A1); refine HC1.out.mono ?_; rintro _ w3 ⟨rfl, hb3⟩; have HT3 := Lib.hid (HT.out.far hb3); have HB3 := Lib.hid hb3; clear hb3; have pw33 : w3.cell? ⟨gx, 3, none⟩ = some (.int .i8 x.b.kind) := (HT3.out.cx (by omega)).trans rfl; have qw33 : w3.cell? ⟨gy, 3, none⟩ = some (.int .i8 y.b.kind) := (HT3.out.cy (by omega)).trans rfl; have pw34 : w3.cell? ⟨gx, 4, none⟩ = some (.int .i64 x.b.n) := (HT3.out.cx (by omega)).trans rfl; have qw34 : w3.cell? ⟨gy, 4, none⟩ = some (.int .i64 y.b.n) := (HT3.out.cy (by omega)).trans rfl; have pw35 : w3.cell? ⟨gx, 5, none⟩ = some (.slice s.A2 x.b.re.length s.c2) := (HT3.out.cx (by omega)).trans rfl; have qw35 : w3.cell? ⟨gy, 5, none⟩ = some (.slice t.A2 y.b.re.length t.c2) := (HT3.out.cy (by omega)).trans rfl)
        | (go_at_call_of 51 (s.A2); refine (HC2.out _ HB3.out).mono ?_; rintro _ w4 ⟨rfl, hb4⟩; have HT4 := Lib.hid (HT.out.far hb4); have HB4 := Lib.hid hb4; clear hb4; have pw46 : w4.cell? ⟨gx, 6, none⟩ = some (.bool x.not) := (HT4.out.cx (by omega)).trans rfl; have qw46 : w4.cell? ⟨gy, 6, none⟩ = some (.bool y.not) := (HT4.out.cy (by omega)).trans rfl; have pw47 : w4.cell? ⟨gx, 7, none⟩ = some (.int .u8 x.name.toNat) := (HT4.out.cx (by omega)).trans rfl; have qw47 : w4.cell? ⟨gy, 7, none⟩ = some (.int .u8 y.name.toNat) := (HT4.out.cy (by omega)).trans rfl; have pw49 : w4.cell? ⟨gx, 9, none⟩ = some (.slice s.A3 x.text.length s.c3) := (HT4.out.cx (by omega)).trans rfl; have qw49 : w4.cell? ⟨gy, 9, none⟩ = some (.slice t.A3 y.text.length t.c3) := (HT4.out.cy (by omega)).trans rfl)
        | (go_at_call 13; refine (HC5.out _ HB4.out).mono ?_; rintro _ w5 ⟨rfl, hb5⟩; have HT5 := Lib.hid (HT.out.far hb5); have HB5 := Lib.hid hb5; clear hb5; have pw510 : w5.cell? ⟨gx, 10, none⟩ = some (.slice s.A4 x.re.length s.c4) := (HT5.out.cx (by omega)).trans rfl; have qw510 : w5.cell? ⟨gy, 10, none⟩ = some (.slice t.A4 y.re.length t.c4) := (HT5.out.cy (by omega)).trans rfl)
        | (go_at_call 52; refine (HC6.out _ HB5.out).mono ?_; rintro _ w6 ⟨rfl, hb6⟩; have HB6 := Lib.hid hb6; clear hb6))
      go_meet
      case rel => exact ⟨by first | rfl | (simp; done) | (simp [e3b]; done), HB6⟩
    go_wp2_with (first
      | (go_at_call_of 51 (s.A1); refine HC1.out.mono ?_; rintro _ w3 ⟨rfl, hb3⟩; have HT3 := Lib.hid (HT.out.far hb3); have HB3 := Lib.hid hb3; clear hb3; have pw33 : w3.cell? ⟨gx, 3, none⟩ = some (.int .i8 x.b.kind) := (HT3.out.cx (by omega)).trans rfl; have qw33 : w3.cell? ⟨gy, 3, none⟩ = some (.int .i8 y.b.kind) := (HT3.out.cy (by omega)).trans rfl; have pw34 : w3.cell? ⟨gx, 4, none⟩ = some (.int .i64 x.b.n) := (HT3.out.cx (by omega)).trans rfl; have qw34 : w3.cell? ⟨gy, 4, none⟩ = some (.int .i64 y.b.n) := (HT3.out.cy (by omega)).trans rfl; have pw35 : w3.cell? ⟨gx, 5, none⟩ = some (.slice s.A2 x.b.re.length s.c2) := (HT3.out.cx (by omega)).trans rfl; have qw35 : w3.cell? ⟨gy, 5, none⟩ = some (.slice t.A2 y.b.re.length t.c2) := (HT3.out.cy (by omega)).trans rfl)
      | (go_at_call_of 51 (s.A2); refine (HC2.out _ HB3.out).mono ?_; rintro _ w4 ⟨rfl, hb4⟩; have HT4 := Lib.hid (HT.out.far hb4); have HB4 := Lib.hid hb4; clear hb4; have pw46 : w4.cell? ⟨gx, 6, none⟩ = some (.bool x.not) := (HT4.out.cx (by omega)).trans rfl; have qw46 : w4.cell? ⟨gy, 6, none⟩ = some (.bool y.not) := (HT4.out.cy (by omega)).trans rfl; have pw47 : w4.cell? ⟨gx, 7, none⟩ = some (.int .u8 x.name.toNat) := (HT4.out.cx (by omega)).trans rfl; have qw47 : w4.cell? ⟨gy, 7, none⟩ = some (.int .u8 y.name.toNat) := (HT4.out.cy (by omega)).trans rfl; have pw49 : w4.cell? ⟨gx, 9, none⟩ = some (.slice s.A3 x.text.length s.c3) := (HT4.out.cx (by omega)).trans rfl; have qw49 : w4.cell? ⟨gy, 9, none⟩ = some (.slice t.A3 y.text.length t.c3) := (HT4.out.cy (by omega)).trans rfl)
      | (go_at_call 13; refine (HC5.out _ HB4.out).mono ?_; rintro _ w5 ⟨rfl, hb5⟩; have HT5 := Lib.hid (HT.out.far hb5); have HB5 := Lib.hid hb5; clear hb5; have pw510 : w5.cell? ⟨gx, 10, none⟩ = some (.slice s.A4 x.re.length s.c4) := (HT5.out.cx (by omega)).trans rfl; have qw510 : w5.cell? ⟨gy, 10, none⟩ = some (.slice t.A4 y.re.length t.c4) := (HT5.out.cy (by omega)).trans rfl)
      | (go_at_call 52; refine (HC6.out _ HB5.out).mono ?_; rintro _ w6 ⟨rfl, hb6⟩; have HB6 := Lib.hid hb6; clear hb6))
    go_meet
    case rel => exact ⟨by first | rfl | (simp; done) | (simp [e3b]; done), HB6⟩
  case rest =>
    obtain ⟨rfl, HB7⟩ := hcut
    have HT7 := Lib.hid (HT.out.far HB7.out)
    obtain ⟨w7, rfl⟩ : ∃ W : World, W = wc := ⟨_, rfl⟩
    obtain ⟨tf, htf⟩ : ∃ b, b = (t1 && t2 && t3 && t4 && t5 && t6) := ⟨_, rfl⟩
    have HF2 : Hid (x.alikeB y = (tf && (t7 && t8 && t9 && ta && tb && tc))) := Lib.hid (by rw [HF.out, htf])
    rw [← htf]
    clear htf HF e3 e4 e3b
    cases tf
    case false =>
      go_wp2_with fail
      go_ret
      exact ⟨by rw [HF2.out]; rfl, HB2.out.trans (HB7.out.mono HB2.out.size)⟩
    have pw711 : w7.cell? ⟨gx, 11, none⟩ = some (.slice s.A5 x.fill.length s.c5) := (HT7.out.cx (by omega)).trans rfl
    have qw711 : w7.cell? ⟨gy, 11, none⟩ = some (.slice t.A5 y.fill.length t.c5) := (HT7.out.cy (by omega)).trans rfl
    cases t7
    case false =>
      go_wp2_with (first
        | (go_at_call 53; refine (HC7.out _ HB7.out).mono ?_; rintro _ w8 ⟨rfl, hb8⟩; have HT8 := Lib.hid (HT.out.far hb8); have HB8 := Lib.hid hb8; clear hb8; have pw812 : w8.cell? ⟨gx, 12, none⟩ = some (.int .i64 x.count) := (HT8.out.cx (by omega)).trans rfl; have qw812 : w8.cell? ⟨gy, 12, none⟩ = some (.int .i64 y.count) := (HT8.out.cy (by omega)).trans rfl; have pw813 : w8.cell? ⟨gx, 13, none⟩ = some (.bool x.all) := (HT8.out.cx (by omega)).trans rfl; have qw813 : w8.cell? ⟨gy, 13, none⟩ = some (.bool y.all) := (HT8.out.cy (by omega)).trans rfl; have pw814 : w8.cell? ⟨gx, 14, none⟩ = some (.bool x.print) := (HT8.out.cx (by omega)).trans rfl; have qw814 : w8.cell? ⟨gy, 14, none⟩ = some (.bool y.print) := (HT8.out.cy (by omega)).trans rfl; have pw815 : w8.cell? ⟨gx, 15, none⟩ = some (.bool x.write) := (HT8.out.cx (by omega)).trans rfl; have qw815 : w8.cell? ⟨gy, 15, none⟩ = some (.bool y.write) := (HT8.out.cy (by omega)).trans rfl))
      go_ret
      exact ⟨by rw [HF2.out]; rfl, HB2.out.trans (HB8.out.mono HB2.out.size)⟩
    cases t8
    case false =>
      go_wp2_with (first
        | (go_at_call 53; refine (HC7.out _ HB7.out).mono ?_; rintro _ w8 ⟨rfl, hb8⟩; have HT8 := Lib.hid (HT.out.far hb8); have HB8 := Lib.hid hb8; clear hb8; have pw812 : w8.cell? ⟨gx, 12, none⟩ = some (.int .i64 x.count) := (HT8.out.cx (by omega)).trans rfl; have qw812 : w8.cell? ⟨gy, 12, none⟩ = some (.int .i64 y.count) := (HT8.out.cy (by omega)).trans rfl; have pw813 : w8.cell? ⟨gx, 13, none⟩ = some (.bool x.all) := (HT8.out.cx (by omega)).trans rfl; have qw813 : w8.cell? ⟨gy, 13, none⟩ = some (.bool y.all) := (HT8.out.cy (by omega)).trans rfl; have pw814 : w8.cell? ⟨gx, 14, none⟩ = some (.bool x.print) := (HT8.out.cx (by omega)).trans rfl; have qw814 : w8.cell? ⟨gy, 14, none⟩ = some (.bool y.print) := (HT8.out.cy (by omega)).trans rfl; have pw815 : w8.cell? ⟨gx, 15, none⟩ = some (.bool x.write) := (HT8.out.cx (by omega)).trans rfl; have qw815 : w8.cell? ⟨gy, 15, none⟩ = some (.bool y.write) := (HT8.out.cy (by omega)).trans rfl))
      go_ret
      exact ⟨by rw [HF2.out]; rfl, HB2.out.trans (HB8.out.mono HB2.out.size)⟩
    cases t9
    case false =>
      go_wp2_with (first
        | (go_at_call 53; refine (HC7.out _ HB7.out).mono ?_; rintro _ w8 ⟨rfl, hb8⟩; have HT8 := Lib.hid (HT.out.far hb8); have HB8 := Lib.hid hb8; clear hb8; have pw812 : w8.cell? ⟨gx, 12, none⟩ = some (.int .i64 x.count) := (HT8.out.cx (by omega)).trans rfl; have qw812 : w8.cell? ⟨gy, 12, none⟩ = some (.int .i64 y.count) := (HT8.out.cy (by omega)).trans rfl; have pw813 : w8.cell? ⟨gx, 13, none⟩ = some (.bool x.all) := (HT8.out.cx (by omega)).trans rfl; have qw813 : w8.cell? ⟨gy, 13, none⟩ = some (.bool y.all) := (HT8.out.cy (by omega)).trans rfl; have pw814 : w8.cell? ⟨gx, 14, none⟩ = some (.bool x.print) := (HT8.out.cx (by omega)).trans rfl; have qw814 : w8.cell? ⟨gy, 14, none⟩ = some (.bool y.print) := (HT8.out.cy (by omega)).trans rfl; have pw815 : w8.cell? ⟨gx, 15, none⟩ = some (.bool x.write) := (HT8.out.cx (by omega)).trans rfl; have qw815 : w8.cell? ⟨gy, 15, none⟩ = some (.bool y.write) := (HT8.out.cy (by omega)).trans rfl))
      go_ret
      exact ⟨by rw [HF2.out]; rfl, HB2.out.trans (HB8.out.mono HB2.out.size)⟩
    cases ta
    case false =>
      go_wp2_with (first
        | (go_at_call 53; refine (HC7.out _ HB7.out).mono ?_; rintro _ w8 ⟨rfl, hb8⟩; have HT8 := Lib.hid (HT.out.far hb8); have HB8 := Lib.hid hb8; clear hb8; have pw812 : w8.cell? ⟨gx, 12, none⟩ = some (.int .i64 x.count) := (HT8.out.cx (by omega)).trans rfl; have qw812 : w8.cell? ⟨gy, 12, none⟩ = some (.int .i64 y.count) := (HT8.out.cy (by omega)).trans rfl; have pw813 : w8.cell? ⟨gx, 13, none⟩ = some (.bool x.all) := (HT8.out.cx (by omega)).trans rfl; have qw813 : w8.cell? ⟨gy, 13, none⟩ = some (.bool y.all) := (HT8.out.cy (by omega)).trans rfl; have pw814 : w8.cell? ⟨gx, 14, none⟩ = some (.bool x.print) := (HT8.out.cx (by omega)).trans rfl; have qw814 : w8.cell? ⟨gy, 14, none⟩ = some (.bool y.print) := (HT8.out.cy (by omega)).trans rfl; have pw815 : w8.cell? ⟨gx, 15, none⟩ = some (.bool x.write) := (HT8.out.cx (by omega)).trans rfl; have qw815 : w8.cell? ⟨gy, 15, none⟩ = some (.bool y.write) := (HT8.out.cy (by omega)).trans rfl))
      go_ret
      exact ⟨by rw [HF2.out]; rfl, HB2.out.trans (HB8.out.mono HB2.out.size)⟩
    cases tb
    case false =>
      go_wp2_with (first
        | (go_at_call 53; refine (HC7.out _ HB7.out).mono ?_; rintro _ w8 ⟨rfl, hb8⟩; have HT8 := Lib.hid (HT.out.far hb8); have HB8 := Lib.hid hb8; clear hb8; have pw812 : w8.cell? ⟨gx, 12, none⟩ = some (.int .i64 x.count) := (HT8.out.cx (by omega)).trans rfl; have qw812 : w8.cell? ⟨gy, 12, none⟩ = some (.int .i64 y.count) := (HT8.out.cy (by omega)).trans rfl; have pw813 : w8.cell? ⟨gx, 13, none⟩ = some (.bool x.all) := (HT8.out.cx (by omega)).trans rfl; have qw813 : w8.cell? ⟨gy, 13, none⟩ = some (.bool y.all) := (HT8.out.cy (by omega)).trans rfl; have pw814 : w8.cell? ⟨gx, 14, none⟩ = some (.bool x.print) := (HT8.out.cx (by omega)).trans rfl; have qw814 : w8.cell? ⟨gy, 14, none⟩ = some (.bool y.print) := (HT8.out.cy (by omega)).trans rfl; have pw815 : w8.cell? ⟨gx, 15, none⟩ = some (.bool x.write) := (HT8.out.cx (by omega)).trans rfl; have qw815 : w8.cell? ⟨gy, 15, none⟩ = some (.bool y.write) := (HT8.out.cy (by omega)).trans rfl))
      go_ret
      exact ⟨by rw [HF2.out]; rfl, HB2.out.trans (HB8.out.mono HB2.out.size)⟩
    cases tc
    case false =>
      go_wp2_with (first
        | (go_at_call 53; refine (HC7.out _ HB7.out).mono ?_; rintro _ w8 ⟨rfl, hb8⟩; have HT8 := Lib.hid (HT.out.far hb8); have HB8 := Lib.hid hb8; clear hb8; have pw812 : w8.cell? ⟨gx, 12, none⟩ = some (.int .i64 x.count) := (HT8.out.cx (by omega)).trans rfl; have qw812 : w8.cell? ⟨gy, 12, none⟩ = some (.int .i64 y.count) := (HT8.out.cy (by omega)).trans rfl; have pw813 : w8.cell? ⟨gx, 13, none⟩ = some (.bool x.all) := (HT8.out.cx (by omega)).trans rfl; have qw813 : w8.cell? ⟨gy, 13, none⟩ = some (.bool y.all) := (HT8.out.cy (by omega)).trans rfl; have pw814 : w8.cell? ⟨gx, 14, none⟩ = some (.bool x.print) := (HT8.out.cx (by omega)).trans rfl; have qw814 : w8.cell? ⟨gy, 14, none⟩ = some (.bool y.print) := (HT8.out.cy (by omega)).trans rfl; have pw815 : w8.cell? ⟨gx, 15, none⟩ = some (.bool x.write) := (HT8.out.cx (by omega)).trans rfl; have qw815 : w8.cell? ⟨gy, 15, none⟩ = some (.bool y.write) := (HT8.out.cy (by omega)).trans rfl)
        | (refine wpList_load_table HT8.out.bx HT8.out.fx (.tmp 83) rfl rfl rfl _ rfl ?_)
        | (refine wpList_load_table HT8.out.by_ HT8.out.fy (.tmp 85) rfl rfl rfl _ rfl ?_))
      go_ret
      exact ⟨by rw [HF2.out]; rfl, HB2.out.trans (HB8.out.mono HB2.out.size)⟩
    go_wp2_with (first
      | (go_at_call 53; refine (HC7.out _ HB7.out).mono ?_; rintro _ w8 ⟨rfl, hb8⟩; have HT8 := Lib.hid (HT.out.far hb8); have HB8 := Lib.hid hb8; clear hb8; have pw812 : w8.cell? ⟨gx, 12, none⟩ = some (.int .i64 x.count) := (HT8.out.cx (by omega)).trans rfl; have qw812 : w8.cell? ⟨gy, 12, none⟩ = some (.int .i64 y.count) := (HT8.out.cy (by omega)).trans rfl; have pw813 : w8.cell? ⟨gx, 13, none⟩ = some (.bool x.all) := (HT8.out.cx (by omega)).trans rfl; have qw813 : w8.cell? ⟨gy, 13, none⟩ = some (.bool y.all) := (HT8.out.cy (by omega)).trans rfl; have pw814 : w8.cell? ⟨gx, 14, none⟩ = some (.bool x.print) := (HT8.out.cx (by omega)).trans rfl; have qw814 : w8.cell? ⟨gy, 14, none⟩ = some (.bool y.print) := (HT8.out.cy (by omega)).trans rfl; have pw815 : w8.cell? ⟨gx, 15, none⟩ = some (.bool x.write) := (HT8.out.cx (by omega)).trans rfl; have qw815 : w8.cell? ⟨gy, 15, none⟩ = some (.bool y.write) := (HT8.out.cy (by omega)).trans rfl)
      | (refine wpList_load_table HT8.out.bx HT8.out.fx (.tmp 83) rfl rfl rfl _ rfl ?_)
      | (refine wpList_load_table HT8.out.by_ HT8.out.fy (.tmp 85) rfl rfl rfl _ rfl ?_))
    go_ret
    exact ⟨by rw [HF2.out]; rfl, HB2.out.trans (HB8.out.mono HB2.out.size)⟩
end Go.Proofs.YtnpideapdjomgaaDoor
namespace Go.Proofs.YtnpideapdjomgaaDoor
open Go.RowKit Go.ChangeShapes Go.WideShapes Go.Deep

theorem yieldsIf_load_cml {ops : Array Oper} {S : World → Prop} {op : Oper} {a : Act} {g o : Nat} {X : Array Value} {c : Cm} {s : CmS} (hw : Region.wanted op (yielded ops a.tmps) = true) (x : Operand) (ho : op.op = .load 44 x) (hx : a.eval x = .pointer (some ⟨g, o, none⟩)) (hX : CmX X c s) (hS : ∀ w, S w → CellsAt w g o (ccells c s)) : YieldsIf Tryd.prog ops S op (.agg X) a := by
  have h := yieldsIf_load_mid (P := Tryd.prog) (S := S) (ops := ops) hw 44 x ho g o hx X.toList (.struct (Tryd.prog.fieldsOf 44)) (fun w hw => by rw [hX.list]; exact hS w hw) (by kernel_rfl) rfl (by rw [Array.length_toList, hX.size]; kernel_rfl)
  rwa [Array.toArray_toList] at h
set_option maxRecDepth 100000 in
set_option maxHeartbeats 8000000 in
theorem eqCmd_any {X Y : Array Value} {x y : Cm} {s t : CmS} {w : World} {S : Blocks} (hx : Hid (CmX X x s)) (hy : Hid (CmX Y y t)) (lx : Hid (CmL w S x s)) (ly : Hid (CmL w S y t)) (hS : Hid (∀ b, S b → b < w.heap.size)) :
    Calls Tryd.prog 25 #[.agg X, .agg Y] w fun e w' => e = .returned (.bool (decide (x = y))) ∧ Below w.heap.size w w' := by
  obtain ⟨w2, hw2⟩ : ∃ W, W = (w.alloc (.cells X 44)).alloc (.cells Y 44) := ⟨_, rfl⟩
  have HW2 := Lib.hid hw2
  have HB2 : Hid (Below w.heap.size w w2) := Lib.hid (by rw [hw2]; exact ((Below.refl _ w).alloc (Nat.le_refl _) _).alloc (by simp) _)
  have HTW : Hid (CmTwo w2 X Y w.heap.size (w.heap.size + 1) x y s t S) := Lib.hid (by rw [hw2]; exact CmTwo.made hx.out hy.out lx.out ly.out hS.out)
  obtain ⟨gx, hgx⟩ : ∃ g, g = w.heap.size := ⟨_, rfl⟩
  obtain ⟨gy, hgy⟩ : ∃ g, g = w.heap.size + 1 := ⟨_, rfl⟩
  have HT : Hid (CmTwo w2 X Y gx gy x y s t S) := Lib.hid (by rw [hgx, hgy]; exact HTW.out)
  clear HTW hw2
  have p8 : w2.cell? ⟨gx, 8, none⟩ = some (.int .i64 x.pos) := (HT.out.cx (by omega)).trans rfl
  have q8 : w2.cell? ⟨gy, 8, none⟩ = some (.int .i64 y.pos) := (HT.out.cy (by omega)).trans rfl
  obtain ⟨t0, ht0⟩ : ∃ b, b = decide (x.pos = y.pos) := ⟨_, rfl⟩
  obtain ⟨t1, ht1⟩ : ∃ b, b = x.alikeB y := ⟨_, rfl⟩
  have HF : Hid (decide (x = y) = (t0 && t1)) := Lib.hid (by rw [ht0, ht1]; exact (Cm.eqB_eq x y).symm)
  have e8 : (x.pos == y.pos) = t0 := by rw [ht0]; exact (Bool.eq_iff_iff.2 (by simp))
  have HC : Hid (Calls Tryd.prog 40 #[.agg X, .agg Y] w2 fun e w' => e = .returned (.bool t1) ∧ Below w2.heap.size w2 w') := Lib.hid (by rw [ht1]; exact alike_any hx hy (Lib.hid HT.out.lx) (Lib.hid HT.out.ly) (Lib.hid HT.out.hS))
  clear ht0 ht1
  go_enter Tryd.func25, Tryd.ntmps25
  go_upto_region 1 with fail
  rw [← HW2.out, ← hgy, ← hgx]
  have HGX := Lib.hid hgx
  have HGY := Lib.hid hgy
  clear hgx hgy
  cases t0
  case false =>
    go_wp2_with fail
    go_ret
    exact ⟨by rw [HF.out]; rfl, HB2.out⟩
  case true =>
    go_wp2_with (first
      | (refine wpList_load_cm HT.out.bx HT.out.fx (.tmp 2) rfl rfl rfl ?_)
      | (refine wpList_load_cm HT.out.by_ HT.out.fy (.tmp 3) rfl rfl rfl ?_)
      | (go_at_call 40; refine HC.out.mono ?_; rintro _ w3 ⟨rfl, hb3⟩; have HB3 := Lib.hid hb3; clear hb3))
    go_ret
    exact ⟨by rw [HF.out]; rfl, HB2.out.trans (HB3.out.mono HB2.out.size)⟩
set_option maxRecDepth 100000 in
set_option maxHeartbeats 8000000 in
theorem eqCmds_any (A B : Option Addr) (n c m d : Nat) (xs ys : List Cm) (w : World) (S : Blocks) (hn : Hid (n = xs.length)) (hm : Hid (m = ys.length)) (hx : Hid (SliceAt Rep.cm w S A c xs)) (hy : Hid (SliceAt Rep.cm w S B d ys)) (hS : Hid (∀ b, S b → b < w.heap.size)) :
    Calls Tryd.prog 10 #[.slice A n c, .slice B m d] w fun e w' => e = .returned (.bool (decide (xs = ys))) ∧ Below w.heap.size w w' := by
  have hnc : n ≤ c := by rw [hn.out]; exact hx.out.len
  have hcm := hx.out.max
  have hmd : m ≤ d := by rw [hm.out]; exact hy.out.len
  have hdm := hy.out.max
  by_cases hnm : n = m
  · subst hnm
    have d0 : decide ((n : Int) = (n : Int)) = true := by simp
    go_enter Tryd.func10, Tryd.ntmps10
    go_wp2_with fail
    go_loopg [5] n (fun k iv wr => ∃ (i : Nat), i ≤ n ∧ iv = .int .i64 i ∧ k = n - i ∧ Hid (Below w.heap.size w wr) ∧ Hid (xs.take i = ys.take i))
    case atStart => exact ⟨0, Nat.zero_le _, rfl, rfl, Lib.hid (Below.refl _ _), Lib.hid (by simp)⟩
    case round =>
      obtain ⟨i, hi, rfl, rfl, HB, HE⟩ := hrel
      by_cases hin : i < n
      · have hix : i < xs.length := by rw [← hn.out]; exact hin
        have hiy : i < ys.length := by rw [← hm.out]; exact hin
        obtain ⟨g, o, s, rfl, hg, hcs, hwf, hcl⟩ := cm_at hx.out (Same.of_below HB.out hS.out) hix
        obtain ⟨g', o', s', rfl, hg', hcs', hwf', hcl'⟩ := cm_at hy.out (Same.of_below HB.out hS.out) hiy
        obtain ⟨x, hX⟩ : ∃ x, x = xs[i] := ⟨_, rfl⟩
        obtain ⟨y, hY⟩ : ∃ y, y = ys[i] := ⟨_, rfl⟩
        rw [← hX] at hcs hwf hcl
        rw [← hY] at hcs' hwf' hcl'
        have HS : Hid (xs.take (i + 1) = xs.take i ++ [x] ∧ ys.take (i + 1) = ys.take i ++ [y]) := Lib.hid (by rw [hX, hY]; exact ⟨List.take_succ_eq_append_getElem hix, List.take_succ_eq_append_getElem hiy⟩)
        have HNE : Hid (x ≠ y → xs ≠ ys) := Lib.hid fun h e => by subst e; exact h (by rw [hX, hY])
        obtain ⟨X, hXX⟩ : ∃ X, X = (ccells x s).toArray := ⟨_, rfl⟩
        obtain ⟨Y, hYY⟩ : ∃ Y, Y = (ccells y s').toArray := ⟨_, rfl⟩
        have HCX : Hid (CmX X x s) := Lib.hid ⟨by rw [hXX], hwf⟩
        have HCY : Hid (CmX Y y s') := Lib.hid ⟨by rw [hYY], hwf'⟩
        have HSS : Hid (∀ b, S b → b < wr.heap.size) := Lib.hid fun b hb => Nat.lt_of_lt_of_le (hS.out b hb) HB.out.size
        have HSW : Hid (∀ W, Below wr.heap.size wr W → CellsAt W g (o + i * 272) (ccells x s) ∧ CellsAt W g' (o' + i * 272) (ccells y s')) := Lib.hid fun W hW => ⟨hcs.keep hg (Same.of_below hW HSS.out), hcs'.keep hg' (Same.of_below hW HSS.out)⟩
        obtain ⟨r, hr⟩ : ∃ r, r = decide (x = y) := ⟨_, rfl⟩
        have HR := Lib.hid hr
        have hdr : Below wr.heap.size wr wr.drew := ⟨rfl, rfl, rfl, Nat.le_refl _, fun _ _ => rfl⟩
        have HC : Hid (Calls Tryd.prog 25 #[.agg X, .agg Y] wr.drew fun e w' => e = .returned (.bool r) ∧ Below wr.heap.size wr w') := Lib.hid (by
          rw [hr]
          refine (eqCmd_any (w := wr.drew) HCX HCY (Lib.hid (hcl.keep (fun _ h => h) (Same.of_below hdr HSS.out))) (Lib.hid (hcl'.keep (fun _ h => h) (Same.of_below hdr HSS.out))) HSS).mono ?_
          rintro e w' ⟨rfl, h⟩
          exact ⟨rfl, ⟨h.os, h.tape, h.output, h.size, h.block⟩⟩)
        have HDR := Lib.hid hdr
        clear hX hY hix hiy hXX hYY hwf hwf' hcl hcl' hcs hcs' hg hg' hr hdr
        go_upto_region 6 with fail
        refine wp_region_noPanic ?_
        refine wp_region_held_drew (S := (fun W => CellsAt W g (o + i * 272) (ccells x s) ∧ CellsAt W g' (o' + i * 272) (ccells y s'))) (by kernel_rfl) (HSW.out wr.drew HDR.out) (fun hHeld => ?_)
        refine wpAnyH_take (i := 0) (v := ?_) rfl (by kernel_rfl) (by kernel_rfl) (by kernel_rfl) (fun _ _ _ h => h) (Or.inl ⟨by rfl, ?_⟩) (by assumption) ?_
        rotate_left 1
        · (intro w hSw; (try dsimp only at hSw); go_simp <;> (try with_reducible rfl))
        try simp only [Act.put, List.getElem_toArray, List.getElem_cons_succ, List.getElem_cons_zero, List.setIfInBounds_toArray, List.set_cons_zero, List.set_cons_succ]
        refine wpAnyH_take (i := 1) (v := ?_) rfl (by kernel_rfl) (by kernel_rfl) (by kernel_rfl) (fun _ _ _ h => h) (Or.inl ⟨by rfl, ?_⟩) (by assumption) ?_
        rotate_left 1
        · (intro w hSw; (try dsimp only at hSw); go_simp <;> (try with_reducible rfl))
        try simp only [Act.put, List.getElem_toArray, List.getElem_cons_succ, List.getElem_cons_zero, List.setIfInBounds_toArray, List.set_cons_zero, List.set_cons_succ]
        refine wpAnyH_take (i := 2) (v := ?_) rfl (by kernel_rfl) (by kernel_rfl) (by kernel_rfl) (fun _ _ _ h => h) (Or.inl ⟨by rfl, ?_⟩) (by assumption) ?_
        rotate_left 1
        · (intro w hSw; (try dsimp only at hSw); go_simp <;> (try with_reducible rfl))
        try simp only [Act.put, List.getElem_toArray, List.getElem_cons_succ, List.getElem_cons_zero, List.setIfInBounds_toArray, List.set_cons_zero, List.set_cons_succ]
        refine wpAnyH_take (i := 3) (v := .agg X) rfl (by kernel_rfl) (by kernel_rfl) (by kernel_rfl) (fun _ _ _ h => h) (yieldsIf_load_cml rfl (.tmp 19) rfl rfl HCX.out (fun _ h => h.1)) (by assumption) ?_
        try simp only [Act.put, List.getElem_toArray, List.getElem_cons_succ, List.getElem_cons_zero, List.setIfInBounds_toArray, List.set_cons_zero, List.set_cons_succ]
        refine wpAnyH_take (i := 4) (v := ?_) rfl (by kernel_rfl) (by kernel_rfl) (by kernel_rfl) (fun _ _ _ h => h) (Or.inl ⟨by rfl, ?_⟩) (by assumption) ?_
        rotate_left 1
        · (intro w hSw; (try dsimp only at hSw); go_simp <;> (try with_reducible rfl))
        try simp only [Act.put, List.getElem_toArray, List.getElem_cons_succ, List.getElem_cons_zero, List.setIfInBounds_toArray, List.set_cons_zero, List.set_cons_succ]
        refine wpAnyH_take (i := 5) (v := ?_) rfl (by kernel_rfl) (by kernel_rfl) (by kernel_rfl) (fun _ _ _ h => h) (Or.inl ⟨by rfl, ?_⟩) (by assumption) ?_
        rotate_left 1
        · (intro w hSw; (try dsimp only at hSw); go_simp <;> (try with_reducible rfl))
        try simp only [Act.put, List.getElem_toArray, List.getElem_cons_succ, List.getElem_cons_zero, List.setIfInBounds_toArray, List.set_cons_zero, List.set_cons_succ]
        refine wpAnyH_take (i := 6) (v := ?_) rfl (by kernel_rfl) (by kernel_rfl) (by kernel_rfl) (fun _ _ _ h => h) (Or.inl ⟨by rfl, ?_⟩) (by assumption) ?_
        rotate_left 1
        · (intro w hSw; (try dsimp only at hSw); go_simp <;> (try with_reducible rfl))
        try simp only [Act.put, List.getElem_toArray, List.getElem_cons_succ, List.getElem_cons_zero, List.setIfInBounds_toArray, List.set_cons_zero, List.set_cons_succ]
        refine wpAnyH_take (i := 7) (v := .agg Y) rfl (by kernel_rfl) (by kernel_rfl) (by kernel_rfl) (fun _ _ _ h => h) (yieldsIf_load_cml rfl (.tmp 23) rfl rfl HCY.out (fun _ h => h.2)) (by assumption) ?_
        try simp only [Act.put, List.getElem_toArray, List.getElem_cons_succ, List.getElem_cons_zero, List.setIfInBounds_toArray, List.set_cons_zero, List.set_cons_succ]
        refine wpAnyH_ready (rs := [8]) (by kernel_rfl) (by simp) ?_
        refine AllReadyH.cons rfl (fun K hK => ?_) AllReadyH.nil
        go_simp
        refine HC.out.mono ?_
        rintro _ w3 ⟨rfl, hb3⟩
        have HB3 := Lib.hid hb3
        clear hb3
        go_wp2_with fail
        refine hK.out _ _ (HSW.out _ HB3.out) (fun hHeld => ?_)
        clear hK K
        try simp only [Act.put, List.getElem_toArray, List.getElem_cons_succ, List.getElem_cons_zero, List.setIfInBounds_toArray, List.set_cons_zero, List.set_cons_succ]
        refine wpAnyH_take (i := 9) (v := ?_) rfl (by kernel_rfl) (by kernel_rfl) (by kernel_rfl) (fun _ _ _ h => h) (Or.inl ⟨by rfl, ?_⟩) (by assumption) ?_
        rotate_left 1
        · (intro w hSw; (try dsimp only at hSw); go_simp <;> (try with_reducible rfl))
        try simp only [Act.put, List.getElem_toArray, List.getElem_cons_succ, List.getElem_cons_zero, List.setIfInBounds_toArray, List.set_cons_zero, List.set_cons_succ]
        refine wpAnyH_done (by kernel_rfl) ?_ _
        refine NoPanic.normal ?_
        cases r
        · go_wp2_with fail
          go_ret
          exact ⟨by rw [decide_eq_false (HNE.out (by have := HR.out; intro e; rw [decide_eq_true e] at this; cases this))]; rfl, HB.out.trans (HB3.out.mono HB.out.size)⟩
        · go_wp2_with fail
          go_roundg (n - (i + 1))
          case measure => omega
          case rel => exact ⟨i + 1, by omega, by go_num, rfl, Lib.hid (HB.out.trans (HB3.out.mono HB.out.size)), Lib.hid (by rw [HS.out.1, HS.out.2, HE.out, of_decide_eq_true HR.out.symm])⟩
      · obtain rfl : i = n := by omega
        have he : xs = ys := by
          have := HE.out
          rwa [List.take_of_length_le (by rw [← hn.out]; exact Nat.le_refl _), List.take_of_length_le (by rw [← hm.out]; exact Nat.le_refl _)] at this
        have HQ := Lib.hid (decide_eq_true he)
        clear he
        go_wp2_with fail
        go_ret
        exact ⟨by rw [HQ.out]; rfl, HB.out⟩
  · have he : xs ≠ ys := fun e => hnm (by rw [hn.out, hm.out, e])
    have HQ := Lib.hid (decide_eq_false he)
    have hz : (n : Int) ≠ (m : Int) := by omega
    clear he
    go_enter Tryd.func10, Tryd.ntmps10
    go_wp2_with fail
    go_ret
    exact ⟨by rw [HQ.out]; rfl, Below.refl _ _⟩
end Go.Proofs.YtnpideapdjomgaaDoor
namespace Go.Proofs.YtnpideapdjomgaaDoor
open Go.RowKit Go.ChangeShapes Go.WideShapes Go.Deep

structure Pg where
  cmds : List Cm
  tos : List Int
  files : List ByteArray
  quiet : Bool
deriving DecidableEq
structure PgS where
  A1 : Option Addr
  c1 : Nat
  A2 : Option Addr
  c2 : Nat
  A3 : Option Addr
  c3 : Nat
def pcells (p : Pg) (s : PgS) : Array Value := #[.slice s.A1 p.cmds.length s.c1, .slice s.A2 p.tos.length s.c2, .slice s.A3 p.files.length s.c3, .bool p.quiet]
structure PgL (w : World) (S : Blocks) (p : Pg) (s : PgS) : Prop where
  cmds : SliceAt Rep.cm w S s.A1 s.c1 p.cmds
  tos : SliceAt (Rep.int .i64) w S s.A2 s.c2 p.tos
  files : SliceAt Rep.str w S s.A3 s.c3 p.files
theorem PgL.keep {w w' : World} {S S' : Blocks} {p : Pg} {s : PgS} (h : PgL w S p s) (hS : ∀ b, S b → S' b) (hk : Same S w w') : PgL w' S' p s := ⟨h.cmds.keep hS hk, h.tos.keep hS hk, h.files.keep hS hk⟩
def Pg.none : Pg := ⟨[], [], [], false⟩
def PgS.none : PgS := ⟨Option.none, 0, Option.none, 0, Option.none, 0⟩
theorem PgL.none (w : World) (S : Blocks) : PgL w S Pg.none PgS.none := ⟨SliceAt.nil _ _ _, SliceAt.nil _ _ _, SliceAt.nil _ _ _⟩
theorem Pg.eqB_eq (p q : Pg) : (decide (p.cmds = q.cmds) && decide (p.tos = q.tos) && decide (p.files = q.files) && decide (p.quiet = q.quiet)) = decide (p = q) := by
  cases p; cases q
  rw [Bool.eq_iff_iff]
  simp only [Bool.and_eq_true, decide_eq_true_eq, Pg.mk.injEq]
  constructor
  · rintro ⟨⟨⟨rfl, rfl⟩, rfl⟩, rfl⟩; exact ⟨rfl, rfl, rfl, rfl⟩
  · rintro ⟨rfl, rfl, rfl, rfl⟩; exact ⟨⟨⟨rfl, rfl⟩, rfl⟩, rfl⟩
set_option maxRecDepth 100000 in
set_option maxHeartbeats 8000000 in
theorem eqProgram_any {p q : Pg} {s t : PgS} {w : World} {S : Blocks} (lx : Hid (PgL w S p s)) (ly : Hid (PgL w S q t)) (hS : Hid (∀ b, S b → b < w.heap.size)) (X Y : Array Value) (hX : X = pcells p s) (hY : Y = pcells q t) :
    Calls Tryd.prog 9 #[.agg X, .agg Y] w fun e w' => e = .returned (.bool (decide (p = q))) ∧ Below w.heap.size w w' := by
  obtain ⟨w2, hw2⟩ : ∃ W, W = (w.alloc (.cells X 28)).alloc (.cells Y 28) := ⟨_, rfl⟩
  have HW2 := Lib.hid hw2
  have HB2 : Hid (Below w.heap.size w w2) := Lib.hid (by rw [hw2]; exact ((Below.refl _ w).alloc (Nat.le_refl _) _).alloc (by simp) _)
  have HX1 : Hid (w2.heap[w.heap.size]? = some (.cells X 28 (0, 0))) := Lib.hid (by rw [hw2, Below.heap_alloc _ _ _ (by simp)]; exact heap_alloc_new w _)
  have HY1 : Hid (w2.heap[w.heap.size + 1]? = some (.cells Y 28 (0, 0))) := Lib.hid (by
    rw [hw2]
    have := heap_alloc_new (w.alloc (.cells X 28)) (.cells Y 28)
    rwa [show (w.alloc (.cells X 28)).heap.size = w.heap.size + 1 from by simp] at this)
  obtain ⟨gx, hgx⟩ : ∃ g, g = w.heap.size := ⟨_, rfl⟩
  obtain ⟨gy, hgy⟩ : ∃ g, g = w.heap.size + 1 := ⟨_, rfl⟩
  rw [← hgx] at HX1
  rw [← hgy] at HY1
  have HCX : Hid (∀ W, Below w2.heap.size w2 W → ∀ k, W.cell? ⟨gx, k, none⟩ = X[k]?) := Lib.hid fun W hW k => cell_of_row W gx k _ _ (0, 0) ((hW.block _ (Array.getElem?_eq_some_iff.1 HX1.out).1).trans HX1.out)
  have HCY : Hid (∀ W, Below w2.heap.size w2 W → ∀ k, W.cell? ⟨gy, k, none⟩ = Y[k]?) := Lib.hid fun W hW k => cell_of_row W gy k _ _ (0, 0) ((hW.block _ (Array.getElem?_eq_some_iff.1 HY1.out).1).trans HY1.out)
  have HL : Hid (∀ W, Below w2.heap.size w2 W → PgL W S p s ∧ PgL W S q t ∧ ∀ b, S b → b < W.heap.size) := Lib.hid fun W hW => by
    have hb := HB2.out.trans (hW.mono HB2.out.size)
    exact ⟨lx.out.keep (fun _ h => h) (Same.of_below hb hS.out), ly.out.keep (fun _ h => h) (Same.of_below hb hS.out), fun b h => Nat.lt_of_lt_of_le (hS.out b h) hb.size⟩
  obtain ⟨t1, ht1⟩ : ∃ b, b = decide (p.cmds = q.cmds) := ⟨_, rfl⟩
  obtain ⟨t2, ht2⟩ : ∃ b, b = decide (p.tos = q.tos) := ⟨_, rfl⟩
  obtain ⟨t3, ht3⟩ : ∃ b, b = decide (p.files = q.files) := ⟨_, rfl⟩
  obtain ⟨t4, ht4⟩ : ∃ b, b = decide (p.quiet = q.quiet) := ⟨_, rfl⟩
  have HF : Hid (decide (p = q) = (t1 && t2 && t3 && t4)) := Lib.hid (by rw [ht1, ht2, ht3, ht4]; exact (Pg.eqB_eq p q).symm)
  have e4 : (p.quiet == q.quiet) = t4 := by rw [ht4]; cases p.quiet <;> cases q.quiet <;> rfl
  have e4b : (p.quiet = q.quiet) = (t4 = true) := by rw [ht4]; simp
  have HC1 : Hid (Calls Tryd.prog 10 #[.slice s.A1 p.cmds.length s.c1, .slice t.A1 q.cmds.length t.c1] w2 fun e w' => e = .returned (.bool t1) ∧ Below w2.heap.size w2 w') := Lib.hid (by
    obtain ⟨a, b, c⟩ := HL.out w2 (Below.refl _ _)
    rw [ht1]; exact eqCmds_any _ _ _ _ _ _ p.cmds q.cmds w2 S (Lib.hid rfl) (Lib.hid rfl) (Lib.hid a.cmds) (Lib.hid b.cmds) (Lib.hid c))
  have HC2 : Hid (∀ W, Below w2.heap.size w2 W → Calls Tryd.prog 16 #[.slice s.A2 p.tos.length s.c2, .slice t.A2 q.tos.length t.c2] W fun e w' => e = .returned (.bool t2) ∧ Below w2.heap.size w2 w') := Lib.hid fun W hW => by
    obtain ⟨a, b, c⟩ := HL.out W hW
    rw [ht2]
    refine (eqIntsD_any _ _ _ _ _ _ p.tos q.tos W S (Lib.hid rfl) (Lib.hid rfl) (Lib.hid a.tos) (Lib.hid b.tos) (Lib.hid c)).mono ?_
    rintro e w' ⟨rfl, h⟩
    exact ⟨rfl, hW.trans (h.mono hW.size)⟩
  have HC3 : Hid (∀ W, Below w2.heap.size w2 W → Calls Tryd.prog 24 #[.slice s.A3 p.files.length s.c3, .slice t.A3 q.files.length t.c3] W fun e w' => e = .returned (.bool t3) ∧ Below w2.heap.size w2 w') := Lib.hid fun W hW => by
    obtain ⟨a, b, c⟩ := HL.out W hW
    rw [ht3]
    refine (eqTexts _ _ _ _ p.files q.files W S S a.files b.files).mono ?_
    rintro e w' ⟨rfl, k, rfl⟩
    exact ⟨rfl, ⟨hW.os, hW.tape, hW.output, hW.size, hW.block⟩⟩
  have p0 : w2.cell? ⟨gx, 0, none⟩ = some (.slice s.A1 p.cmds.length s.c1) := by rw [HCX.out w2 (Below.refl _ _), hX]; rfl
  have q0 : w2.cell? ⟨gy, 0, none⟩ = some (.slice t.A1 q.cmds.length t.c1) := by rw [HCY.out w2 (Below.refl _ _), hY]; rfl
  have HP : Hid (∀ W, Below w2.heap.size w2 W → W.cell? ⟨gx, 1, none⟩ = some (.slice s.A2 p.tos.length s.c2) ∧ W.cell? ⟨gy, 1, none⟩ = some (.slice t.A2 q.tos.length t.c2) ∧ W.cell? ⟨gx, 2, none⟩ = some (.slice s.A3 p.files.length s.c3) ∧ W.cell? ⟨gy, 2, none⟩ = some (.slice t.A3 q.files.length t.c3) ∧ W.cell? ⟨gx, 3, none⟩ = some (.bool p.quiet) ∧ W.cell? ⟨gy, 3, none⟩ = some (.bool q.quiet)) := Lib.hid fun W hW => by
    refine ⟨?_, ?_, ?_, ?_, ?_, ?_⟩ <;> first | (rw [HCX.out W hW, hX]; rfl) | (rw [HCY.out W hW, hY]; rfl)
  clear hX hY hw2 ht1 ht2 ht3 ht4
  go_enter Tryd.func9, Tryd.ntmps9
  go_upto_region 1 with fail
  rw [← HW2.out, ← hgy, ← hgx]
  have HGX := Lib.hid hgx
  have HGY := Lib.hid hgy
  clear hgx hgy
  cases t1
  case false =>
    go_wp2_with (first
      | (go_at_call 10; refine HC1.out.mono ?_; rintro _ w3 ⟨rfl, hb3⟩; have HB3 := Lib.hid hb3; obtain ⟨p31, q31, p32, q32, p33, q33⟩ := HP.out _ hb3; clear hb3))
    go_ret
    exact ⟨by rw [HF.out]; rfl, HB2.out.trans (HB3.out.mono HB2.out.size)⟩
  cases t2
  case false =>
    go_wp2_with (first
      | (go_at_call 10; refine HC1.out.mono ?_; rintro _ w3 ⟨rfl, hb3⟩; have HB3 := Lib.hid hb3; obtain ⟨p31, q31, p32, q32, p33, q33⟩ := HP.out _ hb3; clear hb3)
      | (go_at_call 16; refine (HC2.out _ HB3.out).mono ?_; rintro _ w4 ⟨rfl, hb4⟩; have HB4 := Lib.hid hb4; obtain ⟨p41, q41, p42, q42, p43, q43⟩ := HP.out _ hb4; clear hb4))
    go_ret
    exact ⟨by rw [HF.out]; rfl, HB2.out.trans (HB4.out.mono HB2.out.size)⟩
  cases t3
  case false =>
    go_wp2_with (first
      | (go_at_call 10; refine HC1.out.mono ?_; rintro _ w3 ⟨rfl, hb3⟩; have HB3 := Lib.hid hb3; obtain ⟨p31, q31, p32, q32, p33, q33⟩ := HP.out _ hb3; clear hb3)
      | (go_at_call 16; refine (HC2.out _ HB3.out).mono ?_; rintro _ w4 ⟨rfl, hb4⟩; have HB4 := Lib.hid hb4; obtain ⟨p41, q41, p42, q42, p43, q43⟩ := HP.out _ hb4; clear hb4)
      | (go_at_call 24; refine (HC3.out _ HB4.out).mono ?_; rintro _ w5 ⟨rfl, hb5⟩; have HB5 := Lib.hid hb5; obtain ⟨p51, q51, p52, q52, p53, q53⟩ := HP.out _ hb5; clear hb5))
    go_ret
    exact ⟨by rw [HF.out]; rfl, HB2.out.trans (HB5.out.mono HB2.out.size)⟩
  cases t4
  all_goals
    go_wp2_with (first
      | (go_at_call 10; refine HC1.out.mono ?_; rintro _ w3 ⟨rfl, hb3⟩; have HB3 := Lib.hid hb3; obtain ⟨p31, q31, p32, q32, p33, q33⟩ := HP.out _ hb3; clear hb3)
      | (go_at_call 16; refine (HC2.out _ HB3.out).mono ?_; rintro _ w4 ⟨rfl, hb4⟩; have HB4 := Lib.hid hb4; obtain ⟨p41, q41, p42, q42, p43, q43⟩ := HP.out _ hb4; clear hb4)
      | (go_at_call 24; refine (HC3.out _ HB4.out).mono ?_; rintro _ w5 ⟨rfl, hb5⟩; have HB5 := Lib.hid hb5; obtain ⟨p51, q51, p52, q52, p53, q53⟩ := HP.out _ hb5; clear hb5))
    go_ret
    exact ⟨by rw [HF.out]; rfl, HB2.out.trans (HB5.out.mono HB2.out.size)⟩
end Go.Proofs.YtnpideapdjomgaaDoor
