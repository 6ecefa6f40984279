/- Words: the text of a command: the walk of words.Text at a text that is whole. Condition: room. -/
import Derived.Test.YtooempbgpfhdcaaDoorWorks19
import Derived.Test.YtooempbgpfhdcaaDoorStBytes
import Derived.Test.YtooempbgpfhdcaaDoorTrim19
import Derived.Deep.RegionHeld3
namespace Go.Proofs.YtooempbgpfhdcaaDoor
open Go.RowKit Go.ChangeShapes Go.WideShapes Go.Deep

/-- What is written with backslashes is read without them. -/
inductive Esc : List UInt8 → List UInt8 → Prop
  | nil : Esc [] []
  | plain (c : UInt8) {b w : List UInt8} (h1 : c ≠ 10) (h2 : c ≠ 92) (h : Esc b w) : Esc (c :: b) (c :: w)
  | esc (c : UInt8) {b w : List UInt8} (h : Esc b w) : Esc (92 :: c :: b) (c :: w)
theorem Esc.append {b w b2 w2 : List UInt8} (h : Esc b w) (h2 : Esc b2 w2) : Esc (b ++ b2) (w ++ w2) := by
  induction h with
  | nil => exact h2
  | plain c a1 a2 _ ih => exact .plain c a1 a2 ih
  | esc c _ ih => exact .esc c ih
theorem Esc.len {b w : List UInt8} (h : Esc b w) : b.length ≤ 2 * w.length := by
  induction h with
  | nil => simp
  | plain c a1 a2 _ ih => simp only [List.length_cons]; omega
  | esc c _ ih => simp only [List.length_cons]; omega
theorem byteNew3 (w : World) (x : Int) (c : UInt8) (hx : x = c.toNat) (B : Nat) (hB : w.heap.size < B) : SliceAt Rep.byte (w.alloc (.cells #[.int .u8 x] 5)) (under B) (some ⟨w.heap.size, 0, none⟩) 1 [c] := by
  subst hx
  exact (SliceAt.newBytes w 5 _ [c] 1 (by simp) (by simp [maxLen]) rfl).up fun b hb => Nat.lt_of_lt_of_le hb hB
theorem cutA_zero (A : Option Addr) (c s : Nat) : cutA A c 0 s = A := by
  unfold cutA
  split
  · rfl
  · cases A with
    | none => rfl
    | some a => simp [Addr.add]
set_option maxRecDepth 100000 in
set_option maxHeartbeats 4000000 in
theorem text_any19 (w : World) (g n c : Nat) (A : Option Addr) (T bl body want behind : List UInt8) (h : Hid (Wd w g A n c T 0)) (hT : Hid (T = bl ++ 92 :: 10 :: (body ++ 10 :: behind))) (hb : Hid (∀ y ∈ bl, y = 32 ∨ y = 9)) (he : Hid (Esc body want)) (hbig : n ≤ 1099511627776) :
    Calls Tryd.prog 7 #[.pointer (some ⟨g, 0, none⟩)] w fun e w' => ∃ v, e = .returned (.tuple #[v, .int .i64 0]) ∧ Hid (Own Rep.byte 5 w' w.heap.size nob v want) ∧ Hid (Wd w' g A n c T (n - behind.length)) ∧ Hid (Only (fun b => b = g) w w') := by
  obtain ⟨hnc, hcm⟩ := h.out.caps
  obtain ⟨q0, q1, q2, q3⟩ := h.out.cells
  have q1 : w.cell? ⟨g, 1, none⟩ = some (.int .i64 0) := q1
  obtain ⟨k, hk⟩ : ∃ k, k = bl.length := ⟨_, rfl⟩
  have hlen : n = k + 2 + (body.length + 1 + behind.length) := by rw [h.out.hn, hT.out, hk]; simp only [List.length_append, List.length_cons]; omega
  obtain ⟨A1, hA1⟩ : ∃ A1, A1 = cutA A c k 1 := ⟨_, rfl⟩
  obtain ⟨n1, hn1⟩ : ∃ n1, n1 = n - k := ⟨_, rfl⟩
  obtain ⟨c1, hc1⟩ : ∃ c1, c1 = c - k := ⟨_, rfl⟩
  have HS1 : Hid (SliceAt Rep.byte w (under g) A1 c1 (92 :: 10 :: (body ++ 10 :: behind))) := Lib.hid (by
    have := h.out.txt.cutFromA (i := k) (s := 1) (by rw [← h.out.hn]; omega) rfl
    rw [← hA1, ← hc1] at this
    rw [hT.out, hk, List.drop_left] at this
    exact this)
  have HC : Hid (∀ W, Below w.heap.size w W → Calls Tryd.prog 17 #[.slice A n c, .string ⟨#[32, 9]⟩] W fun e w' => e = .returned (.slice A1 n1 c1) ∧ Below W.heap.size W w') := Lib.hid fun W hW => by
    rw [hA1, hn1, hc1]
    have hl := (h.out.far hW).txt
    rw [hT.out] at hl
    exact trimLeft_any A n c k bl _ 92 W _ (Lib.hid (by rw [h.out.hn, hT.out])) (Lib.hid hl) (Lib.hid hk) hb (Lib.hid ⟨by decide, by decide⟩)
  have hsl : ∀ W, (Instr.sliceAt 23 (.slice A n c) (some (.int .i64 0)) none none).run Tryd.prog W = .ok (.slice A n c) W := fun W => by
    have := run_slice_from (P := Tryd.prog) W stBytes A n c 0 (Nat.zero_le _)
    rw [cutA_zero] at this
    exact this
  have HK : Hid (∀ wa wb : World, (Below w.heap.size w wa ∧ wa.cell? ⟨g, 0, none⟩ = some (.slice A n c) ∧ wa.cell? ⟨g, 1, none⟩ = some (.int .i64 0)) → Below wa.heap.size wa wb →
      (Below w.heap.size w wb ∧ wb.cell? ⟨g, 0, none⟩ = some (.slice A n c) ∧ wb.cell? ⟨g, 1, none⟩ = some (.int .i64 0))) := Lib.hid (by
    rintro wa wb ⟨a0, a1, a2⟩ hb
    exact ⟨a0.trans (hb.mono a0.size), (hb.cell (World.block_lt_of_cell? wa _ a1)).trans a1, (hb.cell (World.block_lt_of_cell? wa _ a2)).trans a2⟩)
  have HK0 : Hid (Below w.heap.size w w.drew ∧ w.drew.cell? ⟨g, 0, none⟩ = some (.slice A n c) ∧ w.drew.cell? ⟨g, 1, none⟩ = some (.int .i64 0)) := Lib.hid ⟨⟨rfl, rfl, rfl, Nat.le_refl _, fun _ _ => rfl⟩, q0, q1⟩
  have HLEN := Lib.hid hlen
  have HN1 := Lib.hid hn1
  have hn13 : 3 ≤ n1 := by omega
  have hn1c : n1 ≤ c1 := by omega
  have hc1m : c1 ≤ 9223372036854775807 := by omega
  have hn1n : n1 ≤ n := by omega
  have hn1e : Hid (n1 = 2 + (body.length + 1 + behind.length)) := Lib.hid (by omega)
  clear hk hlen hA1 hn1 hc1
  go_enter Tryd.func7, Tryd.ntmps7
  go_wp2_with (go_at_call 16; refine (none_no _ _ _ _ _ _ _ h).mono ?_; rintro e w' ⟨rfl, rfl⟩)
  go_region_held3 (fun wa => Below w.heap.size w wa ∧ wa.cell? ⟨g, 0, none⟩ = some (.slice A n c) ∧ wa.cell? ⟨g, 1, none⟩ = some (.int .i64 0)) (first | exact HK0.out | exact HK.out _ _ (by assumption) (by assumption)) (first | (go_at_call 17; refine (HC.out _ (And.left (by assumption))).mono ?_; rintro e w1 ⟨rfl, hb1⟩))
  have HB1 : Hid (Below w.heap.size w w1) := Lib.hid (And.left (by assumption))
  have hgl := h.out.glt
  have HS1w := Lib.hid (HS1.out.keep (fun _ h => h) fun b hb => HB1.out.block b (Nat.lt_trans hb hgl) : SliceAt Rep.byte w1 (under g) A1 c1 (92 :: 10 :: (body ++ 10 :: behind)))
  obtain ⟨gt, o, rfl, hgt, hx0⟩ := HS1w.out.byte (i := 0) (by simp)
  obtain ⟨gt', o', he2, -, hx1⟩ := HS1w.out.byte (i := 1) (by simp)
  simp only [Option.some.injEq, Addr.mk.injEq] at he2
  obtain ⟨rfl, rfl, -⟩ := he2
  have hx0 : w1.cell? ⟨gt, o, none⟩ = some (.int .u8 92) := hx0
  have hx1 : w1.cell? ⟨gt, o + 1, none⟩ = some (.int .u8 10) := hx1
  have hd3 : decide ((n1 : Int) < 3) = false := decide_eq_false (by omega)
  have hi0 : (0 : Int) < (n1 : Int) := by omega
  have hi1 : (1 : Int) < (n1 : Int) := by omega
  obtain ⟨o2, ho2⟩ : ∃ o2, o2 = o + 2 := ⟨_, rfl⟩
  obtain ⟨n2, hn2⟩ : ∃ n2, n2 = n1 - 2 := ⟨_, rfl⟩
  obtain ⟨c2, hc2⟩ : ∃ c2, c2 = c1 - 2 := ⟨_, rfl⟩
  have HS2 : Hid (SliceAt Rep.byte w (under g) (some ⟨gt, o2, none⟩) c2 (body ++ 10 :: behind)) := Lib.hid (by
    have := HS1.out.cutFromA (i := 2) (s := 1) (by simp) rfl
    have hcut : cutA (some (⟨gt, o, none⟩ : Addr)) c1 2 1 = some ⟨gt, o2, none⟩ := by unfold cutA; rw [if_neg (by omega), ho2]; rfl
    rw [hcut, ← hc2] at this
    exact this)
  have HN2 : Hid (n2 = body.length + 1 + behind.length) := Lib.hid (by have := hn1e.out; omega)
  have hn2c : n2 ≤ c2 := by omega
  have hc2m : c2 ≤ 9223372036854775807 := by omega
  have hn2n : n2 ≤ n := by omega
  clear HS1 HS1w HC HK HK0 hgl q0 q2 q3
  go_upto_region 8 with fail
  rw [← ho2, ← hn2, ← hc2]
  clear hsl hx0 hx1 hd3 hi0 hi1 hn2 hc2 ho2
  go_wp2_with fail
  go_loopg [5, 6] n2 (fun j v5 v6 wr => ∃ (i : Nat) (A5 : Option Addr) (n5 c5 : Nat) (b' L W : List UInt8), i ≤ n2 ∧ j = n2 - i ∧ v6 = .int .i64 i ∧ v5 = .slice A5 n5 c5 ∧ Hid (Own Rep.byte 5 wr w.heap.size nob (.slice A5 n5 c5) L) ∧ Hid (Below w.heap.size w wr) ∧ Hid ((body ++ 10 :: behind).drop i = b' ++ 10 :: behind) ∧ Hid (Esc b' W) ∧ Hid (want = L ++ W) ∧ Hid (L.length ≤ i))
  case atStart => exact ⟨0, none, 0, 0, body, [], want, Nat.zero_le _, rfl, rfl, rfl, Lib.hid (Own.nil _ _ _ _), HB1, Lib.hid rfl, he, Lib.hid rfl, Lib.hid (Nat.zero_le _)⟩
  case round =>
    obtain ⟨i, A5, n5, c5, b', L, W, hi, rfl, rfl, rfl, HO, HB, HD, HE, HW, HL⟩ := hrel
    have HWd := Lib.hid (h.out.far HB.out)
    have hR : i < (body ++ 10 :: behind).length ∧ (body ++ 10 :: behind).length = n2 := by
      have h1 := congrArg List.length HD.out
      rw [List.length_drop] at h1
      simp only [List.length_append, List.length_cons] at h1 ⊢
      have := HN2.out
      omega
    obtain ⟨hil, hRn⟩ := hR
    have hlt : i < n2 := by omega
    have hii : (i : Int) < (n2 : Int) := by omega
    have hi0 : (0 : Int) ≤ (i : Int) := Int.natCast_nonneg _
    have HSr := Lib.hid (HS2.out.keep (fun _ h => h) fun b hb => HB.out.block b (Nat.lt_trans hb h.out.glt) : SliceAt Rep.byte wr (under g) (some ⟨gt, o2, none⟩) c2 (body ++ 10 :: behind))
    obtain ⟨gr, p, he3, -, hc⟩ := HSr.out.byte hil
    simp only [Option.some.injEq, Addr.mk.injEq] at he3
    obtain ⟨rfl, rfl, -⟩ := he3
    have hdr : (body ++ 10 :: behind).drop i = (body ++ 10 :: behind)[i] :: (body ++ 10 :: behind).drop (i + 1) := List.drop_eq_getElem_cons hil
    obtain ⟨x, hx⟩ : ∃ x, x = (body ++ 10 :: behind)[i] := ⟨_, rfl⟩
    rw [← hx] at hc hdr
    rw [hdr] at HD
    have HLEN2 : Hid (L.length ≤ 1099511627776) := Lib.hid (by have := HL.out; omega)
    clear hdr hx
    cases HE.out with
    | nil =>
      obtain ⟨rfl, hd2⟩ := List.cons.inj HD.out
      have hc' : wr.cell? ⟨gt, o2 + i, none⟩ = some (.int .u8 10) := hc
      have hbn : i + 1 + behind.length = n2 := by have h1 := congrArg List.length hd2; rw [List.length_drop] at h1; omega
      have HBN := Lib.hid hbn
      have hq : (n : Int) - n2 + i + 1 = ((n - behind.length : Nat) : Int) := by omega
      have HQ := Lib.hid hq
      obtain ⟨q0, q1, q2, q3⟩ := HWd.out.cells
      clear hc hd2 hbn hq
      go_wp2_with fail
      go_ret2
      refine ⟨.slice A5 n5 c5, rfl, Lib.hid ?_, Lib.hid ?_, Lib.hid (Only.setCell (F := fun b => b = g) (p := ⟨g, 1, none⟩) (Only.of_below HB.out _) (.inl rfl) _)⟩
      · rw [HW.out, List.append_nil]
        exact HO.out.mono (setCell_grown _ _ _ _) (.inr (HO.out.ne_block HWd.out.blk (by decide))) (fun _ h => h.elim)
      · have := HWd.out.set (q := n - behind.length) (by omega)
        rw [← HQ.out] at this
        exact this
    | @plain c1' b2 w2 h10 h92 hr =>
      obtain ⟨hxe, hd2⟩ := List.cons.inj HD.out
      rw [hxe] at hc
      have HD2 := Lib.hid hd2
      have f1 : ((c1'.toNat : Int) == 10) = false := by rw [beq_eq_false_iff_ne]; have := u8_ne h10; intro e; exact this (by show c1'.toNat = 10; omega)
      have f2 : ((c1'.toNat : Int) == 92) = false := by rw [beq_eq_false_iff_ne]; have := u8_ne h92; intro e; exact this (by show c1'.toNat = 92; omega)
      have HR2 := Lib.hid hr
      clear hxe hd2 h10 h92 hr
      go_wp2_with (at_builtin; refine wpList_append_Own _ rfl (.tmp 71) (.tmp 76) 23 rfl Rep.byte w.heap.size 5 1 stBytes nob (.slice A5 n5 c5) L rfl (HO.out.alloc _) (under (wr.heap.size + 1)) _ _ [c1'] rfl (byteNew3 wr _ c1' rfl _ (Nat.lt_succ_self _)) nob (fun _ h => h.elim) (fun _ h => h) (fun _ _ h => h) (by have := HLEN2.out; simp only [List.length_cons, List.length_nil]; omega) (by have := HLEN2.out; simp only [List.length_cons, List.length_nil]; omega) (by have := HB.out.size; simp; omega) ?_; intro v4 w4 hown4 hg4 hat4; obtain ⟨A4, n4, c4, rfl, -, -, -⟩ := hown4.form; have HB4 := Lib.hid (below_own (HB.out.alloc HB.out.size _) (HO.out.alloc _) hg4 (by have := HB.out.size; simp; omega)); have HO4 := Lib.hid hown4; clear hown4 hg4 hat4)
      go_roundg (n2 - (i + 1))
      case measure => omega
      case rel => exact ⟨i + 1, A4, n4, c4, b2, L ++ [c1'], w2, by omega, rfl, by go_num, rfl, HO4, HB4, HD2, HR2, Lib.hid (by rw [HW.out]; simp), Lib.hid (by have := HL.out; simp; omega)⟩
    | @esc c1' b2 w2 hr =>
      obtain ⟨hxe, hd2⟩ := List.cons.inj HD.out
      rw [hxe] at hc
      have hc' : wr.cell? ⟨gt, o2 + i, none⟩ = some (.int .u8 92) := hc
      have hil2 : i + 1 < (body ++ 10 :: behind).length := by have h1 := congrArg List.length hd2; rw [List.length_drop] at h1; simp at h1 ⊢; omega
      obtain ⟨gr, p, he3, -, hc2⟩ := HSr.out.byte hil2
      simp only [Option.some.injEq, Addr.mk.injEq] at he3
      obtain ⟨rfl, rfl, -⟩ := he3
      rw [List.drop_eq_getElem_cons hil2] at hd2
      obtain ⟨hy, hd3⟩ := List.cons.inj hd2
      rw [hy] at hc2
      have HD3 := Lib.hid hd3
      have HR2 := Lib.hid hr
      have g1 : (((i : Int) + 1) == (n2 : Int)) = false := by rw [beq_eq_false_iff_ne]; omega
      have g2 : ((i : Int) + 1) < (n2 : Int) := by omega
      clear hxe hd2 hr hc hy hd3
      go_wp2_with (at_builtin; refine wpList_append_Own _ rfl (.tmp 71) (.tmp 76) 23 rfl Rep.byte w.heap.size 5 1 stBytes nob (.slice A5 n5 c5) L rfl (HO.out.alloc _) (under (wr.heap.size + 1)) _ _ [c1'] rfl (byteNew3 wr _ c1' rfl _ (Nat.lt_succ_self _)) nob (fun _ h => h.elim) (fun _ h => h) (fun _ _ h => h) (by have := HLEN2.out; simp only [List.length_cons, List.length_nil]; omega) (by have := HLEN2.out; simp only [List.length_cons, List.length_nil]; omega) (by have := HB.out.size; simp; omega) ?_; intro v4 w4 hown4 hg4 hat4; obtain ⟨A4, n4, c4, rfl, -, -, -⟩ := hown4.form; have HB4 := Lib.hid (below_own (HB.out.alloc HB.out.size _) (HO.out.alloc _) hg4 (by have := HB.out.size; simp; omega)); have HO4 := Lib.hid hown4; clear hown4 hg4 hat4)
      go_roundg (n2 - (i + 1 + 1))
      case measure => omega
      case rel => exact ⟨i + 1 + 1, A4, n4, c4, b2, L ++ [c1'], w2, by omega, rfl, by go_num, rfl, HO4, HB4, HD3, HR2, Lib.hid (by rw [HW.out]; simp), Lib.hid (by have := HL.out; simp; omega)⟩
end Go.Proofs.YtooempbgpfhdcaaDoor
