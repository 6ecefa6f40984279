/- Text read as bytes: the walk of the document's guess. Condition: at most 2^34 bytes. -/
import Derived.Test.YtfmaaempcpjpkaaDoorQuote2
import Derived.Test.YtfmaaempcpjpkaaDoorQuoteRead
import Derived.Test.YtfmaaempcpjpkaaDoorStepOwn
import Derived.Test.YtfmaaempcpjpkaaDoorStepCall
import Derived.Shelf.Pu.Lower
namespace Go.Proofs.YtfmaaempcpjpkaaDoor
open Go.RowKit Go.Deep Go.Shelf

def xpart : List UInt8 → List UInt8
  | u :: v :: _ => match Quote.hexv u, Quote.hexv v with
    | some i, some j => [UInt8.ofNat (16 * i + j)]
    | _, _ => []
  | _ => []
theorem guessStep_eq (f : List UInt8 → List UInt8) (a c : UInt8) (r : List UInt8) : Quote.guessStep f a c r =
    if a.toNat ≠ 92 ∨ r = [] then a :: f (c :: r) else if c.toNat = 110 then 10 :: f r else if c.toNat = 116 then 9 :: f r else if c.toNat = 114 then 13 :: f r else if c.toNat = 120 then xpart r ++ f (r.drop 2) else c :: f r := by
  unfold Quote.guessStep
  match r with
  | [] => rfl
  | [u] => rfl
  | u :: v :: r' => rfl
def dval (b : UInt8) : Int := match Quote.hexv b with | some v => (v : Int) | none => -1
theorem dval_some {b : UInt8} {v : Nat} (h : Quote.hexv b = some v) : dval b = v := by unfold dval; rw [h]
theorem dval_none {b : UInt8} (h : Quote.hexv b = none) : dval b = -1 := by unfold dval; rw [h]
theorem digit_at (b : UInt8) (w : World) : Calls Tryd.prog 55 #[.int .u8 b.toNat] w fun e w' => e = .returned (.int .i64 (dval b)) ∧ w = w' := (digit_any b w).mono fun _ _ h => ⟨h.1, h.2.symm⟩
theorem Quote.hexv_lt {c : UInt8} {v : Nat} (h : Quote.hexv c = some v) : v < 16 := by
  unfold Quote.hexv at h
  (repeat' split at h) <;> first | (simp only [Option.some.injEq] at h; omega) | cases h
theorem eDigit : ∀ args w, (callFunc 55 args).run Tryd.prog w = .ok (.enter 55 args) w := enters_of Tryd.func55 (by kernel_rfl) rfl
theorem guess_push {l r : List UInt8} (acc : List UInt8) (b : UInt8) (h : l = acc ++ b :: r) : l = (acc ++ [b]) ++ r := by rw [h]; simp
set_option maxRecDepth 100000 in
set_option maxHeartbeats 16000000 in
theorem guess_any (t : ByteArray) (w : World) (hnb : t.size ≤ 17179869184) :
    Calls Tryd.prog 26 #[.string t] w fun e w' => ∃ A n c l, e = .returned (.slice A n c) ∧ n ≤ c ∧ c ≤ 9223372036854775807 ∧ Hid (n = l.length) ∧ Hid (l = Quote.guess (t.data.toList.drop 1)) ∧ Hid (l.length ≤ t.size) ∧ Hid (Own Rep.byte 5 w' w.heap.size nob (.slice A n c) l) ∧ Hid (Below w.heap.size w w') := by
  obtain ⟨tl, htl⟩ : ∃ tl, tl = t.data.toList := ⟨_, rfl⟩
  have HTL : Hid (t.data.toList = tl) := Lib.hid htl.symm
  have HTN : Hid (t.size = tl.length) := Lib.hid (ba_size t tl htl.symm)
  rw [← htl]
  clear htl
  go_enter Tryd.func26, Tryd.ntmps26
  go_wp2_with fail
  go_loopg [3, 4] t.size (fun j v3 v4 wr => ∃ (pos : Nat) (A3 : Option Addr) (n3 c3 : Nat) (acc : List UInt8), 1 ≤ pos ∧ j = t.size + 1 - pos ∧ pos ≤ t.size + 1 ∧ v4 = .int .i64 pos ∧ v3 = .slice A3 n3 c3 ∧ n3 ≤ c3 ∧ c3 ≤ 9223372036854775807 ∧ Hid (Own Rep.byte 5 wr w.heap.size nob (.slice A3 n3 c3) acc) ∧ Hid (Below w.heap.size w wr) ∧ Hid (Quote.guess (tl.drop 1) = acc ++ Quote.guess (tl.drop pos)) ∧ Hid (acc.length + 1 ≤ pos))
  case atStart => exact ⟨1, none, 0, 0, [], Nat.le_refl _, rfl, by omega, rfl, rfl, Nat.le_refl _, by omega, Lib.hid (Own.nil _ _ _ _), Lib.hid (Below.refl _ _), Lib.hid rfl, Lib.hid (Nat.le_refl _)⟩
  case round =>
    obtain ⟨pos, A3, n3, c3, acc, hp1, rfl, hpn, rfl, rfl, hnc3, hcm3, HO, HB, HR, HAL⟩ := hrel
    obtain ⟨wo, rfl⟩ : ∃ wo : World, wo = wr := ⟨_, rfl⟩
    by_cases hlt : pos + 1 < t.size
    · have hlz : (pos : Int) < (t.size : Int) - 1 := by omega
      have hpl : pos < tl.length := by have := HTN.out; omega
      have hpl1 : pos + 1 < tl.length := by have := HTN.out; omega
      have hdr : tl.drop pos = tl[pos] :: tl.drop (pos + 1) := List.drop_eq_getElem_cons hpl
      have hdr1 : tl.drop (pos + 1) = tl[pos + 1] :: tl.drop (pos + 1 + 1) := List.drop_eq_getElem_cons hpl1
      have hat0 := ba_at t tl HTL.out pos tl[pos] (List.getElem?_eq_getElem hpl)
      have hat1 := ba_at t tl HTL.out (pos + 1) tl[pos + 1] (List.getElem?_eq_getElem hpl1)
      obtain ⟨a, ha⟩ : ∃ a, a = tl[pos] := ⟨_, rfl⟩
      obtain ⟨d, hd⟩ : ∃ d, d = tl[pos + 1] := ⟨_, rfl⟩
      rw [← ha] at hdr hat0
      rw [← hd] at hdr1 hat1
      clear ha hd
      have HD2 : Hid (tl.drop (pos + 2) = tl.drop (pos + 1 + 1)) := Lib.hid rfl
      obtain ⟨r, hr⟩ : ∃ r, r = tl.drop (pos + 2) := ⟨_, rfl⟩
      have HRL : Hid (r.length + (pos + 2) = t.size) := Lib.hid (by rw [hr, List.length_drop]; have := HTN.out; omega)
      have HDR : Hid (tl.drop pos = a :: d :: r) := Lib.hid (by rw [hdr, hdr1, hr])
      have HDR1 : Hid (tl.drop (pos + 1) = d :: r) := Lib.hid (by rw [hdr1, hr])
      have HRR := Lib.hid hr
      rw [hdr, hdr1, ← HD2.out, ← hr, Quote.guess_step, guessStep_eq] at HR
      clear hdr hdr1 hr HD2 hpl hpl1
      by_cases ha : a.toNat ≠ 92 ∨ r = []
      · have HR2 : Hid (Quote.guess (tl.drop 1) = (acc ++ [a]) ++ Quote.guess (tl.drop (pos + 1))) := Lib.hid (guess_push acc a (by
          rw [HR.out, HDR1.out]
          rw [if_pos ha]))
        by_cases h92 : a.toNat = 92
        · obtain rfl : a = 92 := Quote.u8_eq h92
          have hr0 : r = [] := by rcases ha with h | h; exact absurd h92 h; exact h
          have hge : (t.size : Int) - 1 ≤ (pos : Int) + 1 := by have := HRL.out; rw [hr0] at this; simp at this; omega
          clear ha h92 hr0 hat1
          go_upto_region 5 with fail
          go_wp2_with (at_builtin; refine wpList_append_bytes _ rfl (.tmp 22) (.tmp 26) 23 rfl w.heap.size 5 stBytes (.slice A3 n3 c3) acc rfl (HO.out.alloc _) _ _ _ _ [92] rfl (SliceAt.newBytes _ _ _ [92] 1 (by simp) (by simp [maxLen]) rfl) rfl (by have := HAL.out; simp; omega) (by have := HB.out.size; simp; omega) ?_; intro v4 w4 hown4 hg4 hat4; obtain ⟨A4, n4, c4, rfl, hn4, hnc4, hcm4⟩ := hown4.form; have HB4 := Lib.hid (below_own (HB.out.alloc HB.out.size _) (HO.out.alloc _) hg4 (by have := HB.out.size; simp; omega)); have HO4 := Lib.hid hown4; clear hown4 hg4 hat4 hn4)
          go_roundg (t.size + 1 - (pos + 1))
          case measure => omega
          case rel => exact ⟨pos + 1, A4, n4, c4, acc ++ [92], by omega, rfl, by omega, by go_num, rfl, hnc4, hcm4, HO4, HB4, HR2, Lib.hid (by have := HAL.out; rw [List.length_append, List.length_singleton]; omega)⟩
        · have f1 : ((a.toNat : Int) == 92) = false := by rw [beq_eq_false_iff_ne]; omega
          have f2 : ((a.toNat : Int) != 92) = true := by rw [bne_iff_ne]; omega
          clear ha h92 hat1
          go_wp2_with (at_builtin; refine wpList_append_bytes _ rfl (.tmp 22) (.tmp 26) 23 rfl w.heap.size 5 stBytes (.slice A3 n3 c3) acc rfl (HO.out.alloc _) _ _ _ _ [a] rfl (SliceAt.newBytes _ _ _ [a] 1 (by simp) (by simp [maxLen]) rfl) rfl (by have := HAL.out; simp; omega) (by have := HB.out.size; simp; omega) ?_; intro v4 w4 hown4 hg4 hat4; obtain ⟨A4, n4, c4, rfl, hn4, hnc4, hcm4⟩ := hown4.form; have HB4 := Lib.hid (below_own (HB.out.alloc HB.out.size _) (HO.out.alloc _) hg4 (by have := HB.out.size; simp; omega)); have HO4 := Lib.hid hown4; clear hown4 hg4 hat4 hn4)
          go_roundg (t.size + 1 - (pos + 1))
          case measure => omega
          case rel => exact ⟨pos + 1, A4, n4, c4, acc ++ [a], by omega, rfl, by omega, by go_num, rfl, hnc4, hcm4, HO4, HB4, HR2, Lib.hid (by have := HAL.out; rw [List.length_append, List.length_singleton]; omega)⟩
      · obtain ⟨h92, hr0⟩ : a.toNat = 92 ∧ r ≠ [] := ⟨Classical.not_not.1 fun h => ha (.inl h), fun h => ha (.inr h)⟩
        obtain rfl : a = 92 := Quote.u8_eq h92
        have hrl : 1 ≤ r.length := by rcases r with - | ⟨x, r⟩; exact absurd rfl hr0; simp
        have hge : (pos : Int) + 1 < (t.size : Int) - 1 := by have := HRL.out; omega
        have hpz2 : pos + 2 < t.size := by have := HRL.out; omega
        have HR : Hid (Quote.guess (tl.drop 1) = acc ++ (if d.toNat = 110 then 10 :: Quote.guess r else if d.toNat = 116 then 9 :: Quote.guess r else if d.toNat = 114 then 13 :: Quote.guess r else if d.toNat = 120 then xpart r ++ Quote.guess (r.drop 2) else d :: Quote.guess r)) := Lib.hid (by rw [HR.out, if_neg ha])
        clear ha h92 hr0 hrl
        have hdl := d.toNat_lt
        by_cases h110 : d.toNat = 110
        · obtain rfl : d = 110 := Quote.u8_eq h110
          have HR2 : Hid (Quote.guess (tl.drop 1) = (acc ++ [10]) ++ Quote.guess (tl.drop (pos + 2))) := Lib.hid (guess_push acc 10 (by
            rw [HR.out, HRR.out]
            rw [if_pos h110]))
          go_wp2_with (at_builtin; refine wpList_append_bytes _ rfl (.tmp 43) (.tmp 44) 23 rfl w.heap.size 5 stBytes (.slice A3 n3 c3) acc rfl (HO.out.alloc _) _ _ _ _ [10] rfl (SliceAt.newBytes _ _ _ [10] 1 (by simp) (by simp [maxLen]) rfl) rfl (by have := HAL.out; simp; omega) (by have := HB.out.size; simp; omega) ?_; intro v4 w4 hown4 hg4 hat4; obtain ⟨A4, n4, c4, rfl, hn4, hnc4, hcm4⟩ := hown4.form; have HB4 := Lib.hid (below_own (HB.out.alloc HB.out.size _) (HO.out.alloc _) hg4 (by have := HB.out.size; simp; omega)); have HO4 := Lib.hid hown4; clear hown4 hg4 hat4 hn4)
          go_roundg (t.size + 1 - (pos + 2))
          case measure => omega
          case rel => exact ⟨pos + 2, A4, n4, c4, acc ++ [10], by omega, rfl, by omega, by go_num, rfl, hnc4, hcm4, HO4, HB4, HR2, Lib.hid (by have := HAL.out; rw [List.length_append, List.length_singleton]; omega)⟩
        have f110 : ((d.toNat : Int) == 110) = false := by rw [beq_eq_false_iff_ne]; omega
        by_cases h116 : d.toNat = 116
        · obtain rfl : d = 116 := Quote.u8_eq h116
          have HR2 : Hid (Quote.guess (tl.drop 1) = (acc ++ [9]) ++ Quote.guess (tl.drop (pos + 2))) := Lib.hid (guess_push acc 9 (by
            rw [HR.out, HRR.out]
            rw [if_neg h110]; rw [if_pos h116]))
          go_wp2_with (at_builtin; refine wpList_append_bytes _ rfl (.tmp 48) (.tmp 49) 23 rfl w.heap.size 5 stBytes (.slice A3 n3 c3) acc rfl (HO.out.alloc _) _ _ _ _ [9] rfl (SliceAt.newBytes _ _ _ [9] 1 (by simp) (by simp [maxLen]) rfl) rfl (by have := HAL.out; simp; omega) (by have := HB.out.size; simp; omega) ?_; intro v4 w4 hown4 hg4 hat4; obtain ⟨A4, n4, c4, rfl, hn4, hnc4, hcm4⟩ := hown4.form; have HB4 := Lib.hid (below_own (HB.out.alloc HB.out.size _) (HO.out.alloc _) hg4 (by have := HB.out.size; simp; omega)); have HO4 := Lib.hid hown4; clear hown4 hg4 hat4 hn4)
          go_roundg (t.size + 1 - (pos + 2))
          case measure => omega
          case rel => exact ⟨pos + 2, A4, n4, c4, acc ++ [9], by omega, rfl, by omega, by go_num, rfl, hnc4, hcm4, HO4, HB4, HR2, Lib.hid (by have := HAL.out; rw [List.length_append, List.length_singleton]; omega)⟩
        have f116 : ((d.toNat : Int) == 116) = false := by rw [beq_eq_false_iff_ne]; omega
        by_cases h114 : d.toNat = 114
        · obtain rfl : d = 114 := Quote.u8_eq h114
          have HR2 : Hid (Quote.guess (tl.drop 1) = (acc ++ [13]) ++ Quote.guess (tl.drop (pos + 2))) := Lib.hid (guess_push acc 13 (by
            rw [HR.out, HRR.out]
            rw [if_neg h110]; rw [if_neg h116]; rw [if_pos h114]))
          go_wp2_with (at_builtin; refine wpList_append_bytes _ rfl (.tmp 53) (.tmp 54) 23 rfl w.heap.size 5 stBytes (.slice A3 n3 c3) acc rfl (HO.out.alloc _) _ _ _ _ [13] rfl (SliceAt.newBytes _ _ _ [13] 1 (by simp) (by simp [maxLen]) rfl) rfl (by have := HAL.out; simp; omega) (by have := HB.out.size; simp; omega) ?_; intro v4 w4 hown4 hg4 hat4; obtain ⟨A4, n4, c4, rfl, hn4, hnc4, hcm4⟩ := hown4.form; have HB4 := Lib.hid (below_own (HB.out.alloc HB.out.size _) (HO.out.alloc _) hg4 (by have := HB.out.size; simp; omega)); have HO4 := Lib.hid hown4; clear hown4 hg4 hat4 hn4)
          go_roundg (t.size + 1 - (pos + 2))
          case measure => omega
          case rel => exact ⟨pos + 2, A4, n4, c4, acc ++ [13], by omega, rfl, by omega, by go_num, rfl, hnc4, hcm4, HO4, HB4, HR2, Lib.hid (by have := HAL.out; rw [List.length_append, List.length_singleton]; omega)⟩
        have f114 : ((d.toNat : Int) == 114) = false := by rw [beq_eq_false_iff_ne]; omega
        by_cases h120 : d.toNat = 120
        · obtain rfl : d = 120 := Quote.u8_eq h120
          have HR : Hid (Quote.guess (tl.drop 1) = acc ++ (xpart r ++ Quote.guess (r.drop 2))) := Lib.hid (by rw [HR.out]; rw [if_neg h110]; rw [if_neg h116]; rw [if_neg h114]; rw [if_pos h120])
          have HD4 : Hid (r.drop 2 = tl.drop (pos + 4)) := Lib.hid (by rw [HRR.out, List.drop_drop])
          by_cases h3 : pos + 3 < t.size
          · obtain ⟨u, v, r', hr⟩ : ∃ u v r', r = u :: v :: r' := by
              have hrl := HRL.out
              match r, hrl with
              | [], hrl => simp at hrl; omega
              | [u], hrl => simp at hrl; omega
              | u :: v :: r', _ => exact ⟨u, v, r', rfl⟩
            have hat2 := ba_at t tl HTL.out (pos + 2) u (by have h9 := HRR.out; rw [hr] at h9; rw [← List.getElem?_drop (i := pos + 2) (j := 0), ← h9]; rfl)
            have hat3 := ba_at t tl HTL.out (pos + 3) v (by have h9 := HRR.out; rw [hr] at h9; rw [← List.getElem?_drop (i := pos + 2) (j := 1), ← h9]; rfl)
            have h3z : (pos : Int) + 3 < (t.size : Int) := by omega
            have HRE := Lib.hid hr
            clear hr
            have hD : Quote.hexv u = none ∨ (∃ i, Quote.hexv u = some i ∧ Quote.hexv v = none) ∨ ∃ i j, Quote.hexv u = some i ∧ Quote.hexv v = some j := by
              cases Quote.hexv u with
              | none => exact .inl rfl
              | some i => cases Quote.hexv v with
                | none => exact .inr (.inl ⟨i, rfl, rfl⟩)
                | some j => exact .inr (.inr ⟨i, j, rfl, rfl⟩)
            rcases hD with hu | ⟨i, hu, hv⟩ | ⟨i, j, hu, hv⟩
            · have HR2 : Hid (Quote.guess (tl.drop 1) = acc ++ Quote.guess (tl.drop (pos + 4))) := Lib.hid (by
                have hxp : xpart r = [] := by rw [HRE.out]; unfold xpart; simp only [hu]
                rw [HR.out, hxp, List.nil_append, HD4.out])
              have hdu := dval_none hu
              clear HR hu hat3
              go_wp2_with (go_at_call 55; refine (digit_at _ _).mono ?_; rintro e w' ⟨rfl, rfl⟩)
              go_roundg (t.size + 1 - (pos + 4))
              case measure => omega
              case rel => exact ⟨pos + 4, A3, n3, c3, acc, by omega, rfl, by omega, by go_num, rfl, hnc3, hcm3, HO, HB, HR2, Lib.hid (by have := HAL.out; omega)⟩
            · have HR2 : Hid (Quote.guess (tl.drop 1) = acc ++ Quote.guess (tl.drop (pos + 4))) := Lib.hid (by
                have hxp : xpart r = [] := by rw [HRE.out]; unfold xpart; simp only [hu, hv]
                rw [HR.out, hxp, List.nil_append, HD4.out])
              have hdu := dval_some hu
              have hdv := dval_none hv
              have hiz : (0 : Int) ≤ (i : Int) := by omega
              clear HR hu hv
              go_wp2_with (go_at_call 55; refine (digit_at _ _).mono ?_; rintro e w' ⟨rfl, rfl⟩)
              go_roundg (t.size + 1 - (pos + 4))
              case measure => omega
              case rel => exact ⟨pos + 4, A3, n3, c3, acc, by omega, rfl, by omega, by go_num, rfl, hnc3, hcm3, HO, HB, HR2, Lib.hid (by have := HAL.out; omega)⟩
            · have hi16 := Quote.hexv_lt hu
              have hj16 := Quote.hexv_lt hv
              have HR2 : Hid (Quote.guess (tl.drop 1) = (acc ++ [UInt8.ofNat (16 * i + j)]) ++ Quote.guess (tl.drop (pos + 4))) := Lib.hid (by
                have hxp : xpart r = [UInt8.ofNat (16 * i + j)] := by rw [HRE.out]; unfold xpart; simp only [hu, hv]
                rw [HR.out, hxp, HD4.out, List.append_assoc])
              obtain ⟨zb, hzb⟩ : ∃ zb, zb = UInt8.ofNat (16 * i + j) := ⟨_, rfl⟩
              rw [← hzb] at HR2
              have hzn : zb.toNat = 16 * i + j := by rw [hzb, UInt8.toNat_ofNat']; omega
              have hzz : 16 * (i : Int) + (j : Int) = (zb.toNat : Int) := by omega
              have hzl : (zb.toNat : Int) < 256 := by omega
              have hdu := dval_some hu
              have hdv := dval_some hv
              have hiz : (0 : Int) ≤ (i : Int) := by omega
              have hjz : (0 : Int) ≤ (j : Int) := by omega
              have hw2 : IntKind.i64.wrap ((pos : Int) + 2) = (pos : Int) + 2 := by rw [IntKind.wrap_i64]; omega
              have hw3 : IntKind.i64.wrap ((pos : Int) + 3) = (pos : Int) + 3 := by rw [IntKind.wrap_i64]; omega
              have hw4 : IntKind.i64.wrap (16 * (i : Int)) = 16 * (i : Int) := by rw [IntKind.wrap_i64]; omega
              have hw5 : IntKind.i64.wrap (16 * (i : Int) + (j : Int)) = (zb.toNat : Int) := by rw [IntKind.wrap_i64]; omega
              have hw6 : IntKind.u8.wrap (zb.toNat : Int) = (zb.toNat : Int) := by rw [IntKind.wrap_u8]; omega
              have hw7 : IntKind.i64.wrap (zb.toNat : Int) = (zb.toNat : Int) := by rw [IntKind.wrap_i64]; omega
              have h0z2 : (0 : Int) ≤ (pos : Int) + 2 := by omega
              have h0z3 : (0 : Int) ≤ (pos : Int) + 3 := by omega
              have h2z : (pos : Int) + 2 < (t.size : Int) := by omega
              have hn2 : ((pos : Int) + 2).toNat = pos + 2 := by omega
              have hn3 : ((pos : Int) + 3).toNat = pos + 3 := by omega
              clear HR hu hv hzb hzn
              go_upto_region 17 with (go_at_call 55; refine (digit_at _ _).mono ?_; rintro e w' ⟨rfl, rfl⟩)
              go_region_law (first | (refine step_call_law rfl 55 #[.tmp 83] #[5] rfl eDigit #[.int .u8 u.toNat] (by simp [Act.eval, Act.put]) _ (digit_at u _) ?_; rintro e w' ⟨rfl, rfl⟩; refine ⟨_, rfl, ?_⟩; rw [hdu]) | (refine step_call_law rfl 55 #[.tmp 89] #[5] rfl eDigit #[.int .u8 v.toNat] (by simp [Act.eval, Act.put]) _ (digit_at v _) ?_; rintro e w' ⟨rfl, rfl⟩; refine ⟨_, rfl, ?_⟩; rw [hdv]) | (refine step_append_Own rfl (.tmp 79) (.tmp 93) 23 rfl Rep.byte w.heap.size 5 1 stBytes nob (.slice A3 n3 c3) acc (by simp [Act.eval]) ((HO.out.alloc _).drewN 1) (under (wo.heap.size + 1)) (some ⟨wo.heap.size, 0, none⟩) 1 [zb] (by simp [Act.eval]) ((SliceAt.newBytes wo _ _ [zb] 1 (by simp) (by simp [maxLen]) (by first | (simp [bcells]; done) | (simp [bcells, hw7]; done))).drewN 1) nob (fun _ h => h.elim) (fun _ h => h) (fun _ _ h => h) (by have := HAL.out; simp <;> omega) (by have := HAL.out; simp <;> omega) (by have := HB.out.size; simp [World.drew] <;> omega) ?_; intro v4 w4 hown4 hg4 hat4; obtain ⟨A4, n4, c4, rfl, hn4, hnc4, hcm4⟩ := hown4.form; have HB4 := Lib.hid (below_own (((HB.out.alloc HB.out.size _)).trans (below_drewN' _ _ 1)) ((HO.out.alloc _).drewN 1) hg4 (by have := HB.out.size; simp <;> omega)); have HO4 := Lib.hid hown4; clear hown4 hg4 hat4 hn4))
              all_goals (
                go_wp2_with fail
                go_roundg (t.size + 1 - (pos + 4))
                case measure => omega
                case rel => exact ⟨pos + 4, A4, n4, c4, acc ++ [zb], by omega, rfl, by omega, by go_num, rfl, hnc4, hcm4, HO4, HB4, HR2, Lib.hid (by have := HAL.out; rw [List.length_append, List.length_singleton]; omega)⟩)
          · have HR2 : Hid (Quote.guess (tl.drop 1) = acc ++ Quote.guess (tl.drop (pos + 4))) := Lib.hid (by
              rw [HR.out, HD4.out]
              have hrl := HRL.out
              match r, hrl with
              | [], hrl => rfl
              | [u], hrl => rfl
              | u :: v :: r', hrl => simp at hrl; omega)
            have h3z : (t.size : Int) ≤ (pos : Int) + 3 := by omega
            clear HR
            go_wp2_with fail
            go_roundg (t.size + 1 - (pos + 4))
            case measure => omega
            case rel => exact ⟨pos + 4, A3, n3, c3, acc, by omega, rfl, by omega, by go_num, rfl, hnc3, hcm3, HO, HB, HR2, Lib.hid (by have := HAL.out; omega)⟩
        · have f120 : ((d.toNat : Int) == 120) = false := by rw [beq_eq_false_iff_ne]; omega
          have HR2 : Hid (Quote.guess (tl.drop 1) = (acc ++ [d]) ++ Quote.guess (tl.drop (pos + 2))) := Lib.hid (guess_push acc d (by
            rw [HR.out, HRR.out]
            rw [if_neg h110]; rw [if_neg h116]; rw [if_neg h114]; rw [if_neg h120]))
          go_wp2_with (at_builtin; refine wpList_append_bytes _ rfl (.tmp 34) (.tmp 39) 23 rfl w.heap.size 5 stBytes (.slice A3 n3 c3) acc rfl (HO.out.alloc _) _ _ _ _ [d] rfl (SliceAt.newBytes _ _ _ [d] 1 (by simp) (by simp [maxLen]) rfl) rfl (by have := HAL.out; simp; omega) (by have := HB.out.size; simp; omega) ?_; intro v4 w4 hown4 hg4 hat4; obtain ⟨A4, n4, c4, rfl, hn4, hnc4, hcm4⟩ := hown4.form; have HB4 := Lib.hid (below_own (HB.out.alloc HB.out.size _) (HO.out.alloc _) hg4 (by have := HB.out.size; simp; omega)); have HO4 := Lib.hid hown4; clear hown4 hg4 hat4 hn4)
          go_roundg (t.size + 1 - (pos + 2))
          case measure => omega
          case rel => exact ⟨pos + 2, A4, n4, c4, acc ++ [d], by omega, rfl, by omega, by go_num, rfl, hnc4, hcm4, HO4, HB4, HR2, Lib.hid (by have := HAL.out; rw [List.length_append, List.length_singleton]; omega)⟩
    · have HR2 : Hid (acc = Quote.guess (tl.drop 1)) := Lib.hid (by
        rw [HR.out]
        have h9 : (tl.drop pos).length ≤ 1 := by rw [List.length_drop]; have := HTN.out; omega
        match tl.drop pos, h9 with
        | [], _ => simp [Quote.guess, Quote.guessGo]
        | [x], _ => rw [Quote.guess_one]; simp
        | x :: y :: r, h9 => simp at h9)
      have hlz : (t.size : Int) - 1 ≤ (pos : Int) := by omega
      obtain ⟨A4, n4, c4, e4, hn4, -, -⟩ := HO.out.form
      simp only [Value.slice.injEq] at e4
      obtain ⟨rfl, rfl, rfl⟩ := e4
      go_wp2_with fail
      go_ret
      exact ⟨_, _, _, acc, rfl, hnc3, hcm3, hn4, HR2, Lib.hid (by have := HAL.out; omega), HO, HB⟩
end Go.Proofs.YtfmaaempcpjpkaaDoor
