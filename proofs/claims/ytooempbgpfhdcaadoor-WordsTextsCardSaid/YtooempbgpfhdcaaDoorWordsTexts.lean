/- The walk of the law WordsTexts. Condition: room (the reach). -/
import Derived.Test.YtooempbgpfhdcaaDoorTwo
import Derived.Test.YtooempbgpfhdcaaDoorEqBytes
namespace Go.Proofs.YtooempbgpfhdcaaDoor
open Go.RowKit Go.ChangeShapes Go.WideShapes Go.Deep

theorem Own.slot' {α : Type} {r : Rep α} {e : TypeId} {w : World} {base : Nat} {A : Option Addr} {n c : Nat} {l : List α} (h : Own r e w base nob (.slice A n c) l) : SliceAt r w (under w.heap.size) A c l := by
  obtain ⟨A', n', c', e, hn, h1, h2, hs⟩ := h.read
  simp only [Value.slice.injEq] at e
  obtain ⟨rfl, rfl, rfl⟩ := e
  exact hs.up (btw_under (Nat.le_refl _))
set_option maxRecDepth 100000 in
set_option maxHeartbeats 8000000 in
theorem wordsTexts_any (bk : Int) (A1 A2 : Option Addr) (n1 c1 n2 c2 : Nat) (rows : List (List UInt8)) (behind : List UInt8) (w : World) (hb1 : n1 ≤ 140737488355328) (hb2 : n2 ≤ 140737488355328)
    (hn1 : Hid (n1 = rows.length)) (hro : Hid (SliceAt Rep.byte.slice w (under w.heap.size) A1 c1 rows)) (hrb : Hid (∀ r ∈ rows, r.length ≤ 140737488355328)) (hn2 : Hid (n2 = behind.length)) (hbe : Hid (SliceAt Rep.byte w (under w.heap.size) A2 c2 behind)) :
    Calls Tryd.prog 3 #[.int .i64 bk, .slice A1 n1 c1, .slice A2 n2 c2] w fun e' w' => e' = .returned (.bool true) ∧ Below w.heap.size w w' := by
  have hnc1 := hro.out.len
  have hcm1 := hro.out.max
  rw [← hn1.out] at hnc1
  have hnc2 := hbe.out.len
  have hcm2 := hbe.out.max
  rw [← hn2.out] at hnc2
  go_enter Tryd.func3, Tryd.ntmps3
  go_wp2_with fail
  refine (works19_any w).mono ?_
  rintro e w1 ⟨rfl, hb1'⟩
  have HB1 := Lib.hid hb1'
  have HRO := Lib.hid (hro.out.keep (fun b h => Nat.lt_of_lt_of_le h hb1'.size) fun b hb => hb1'.block b hb : SliceAt Rep.byte.slice w1 (under w1.heap.size) A1 c1 rows)
  have HBE := Lib.hid (hbe.out.keep (fun b h => Nat.lt_of_lt_of_le h hb1'.size) fun b hb => hb1'.block b hb : SliceAt Rep.byte w1 (under w1.heap.size) A2 c2 behind)
  clear hb1' hro hbe
  go_wp2_with fail
  go_loopg [8, 9] n1 (fun j v8 v9 wr => ∃ (i N : Nat), i ≤ n1 ∧ j = n1 - i ∧ v9 = .int .i64 i ∧ v8 = .int .i64 N ∧ N ≤ 281474976710656 ∧ Hid (N = n2 + tot (rows.take i)) ∧ wr = w1)
  case atStart => exact ⟨0, n2, Nat.zero_le _, rfl, rfl, rfl, by omega, Lib.hid rfl, rfl⟩
  case round =>
    obtain ⟨i, N, hi, rfl, rfl, rfl, hNb, HN, rfl⟩ := hrel
    by_cases hN : N ≤ 16777216
    · have d1 : decide ((N : Int) ≤ 16777216) = true := decide_eq_true (by omega)
      by_cases hlt : i < n1
      · have hil : i < rows.length := by have := hn1.out; omega
        obtain ⟨g, o, A', c', rfl, hg, hc, hs⟩ := HRO.out.rowsB hil
        obtain ⟨m, hm⟩ : ∃ m, m = rows[i].length := ⟨_, rfl⟩
        have hmb : m ≤ 140737488355328 := by rw [hm]; exact hrb.out _ (List.getElem_mem _)
        rw [← hm] at hc
        have HT := tot_take rows hil
        rw [← hm] at HT
        have HT2 : Hid (N + 1 + m = n2 + tot (rows.take (i + 1))) := Lib.hid (by have := HN.out; omega)
        have hii : (i : Int) < (n1 : Int) := by omega
        have hi0 : (0 : Int) ≤ (i : Int) := Int.natCast_nonneg _
        clear hm hs HT hil
        go_wp2_with fail
        go_roundg (n1 - (i + 1))
        case measure => omega
        case rel => exact ⟨i + 1, N + 1 + m, by omega, rfl, by go_num, by go_num, by omega, HT2, rfl⟩
      · obtain rfl : i = n1 := by omega
        have hNe : Hid (N = n2 + tot rows) := Lib.hid (by have h1 := HN.out; rw [List.take_of_length_le (by have := hn1.out; omega)] at h1; exact h1)
        have d2 : decide ((16777216 : Int) < (N : Int)) = false := decide_eq_false (by omega)
        by_cases hz : i = 0
        · subst hz
          go_wp2_with fail
          go_ret
          exact ⟨rfl, HB1.out⟩
        · have hz2 : ((i : Int) == 0) = false := by rw [beq_eq_false_iff_ne]; omega
          clear hz HN hlt
          obtain ⟨w1, rfl⟩ : ∃ w1 : World, w1 = wr := ⟨_, rfl⟩
          have HT0 : Hid (Two w1 (w1.alloc (.cells #[] 5)) (.slice (some ⟨w1.heap.size, 0, none⟩) 0 0) (.slice none 0 0) [] []) := Lib.hid ⟨Own.emptyRow _ _ _ (Nat.le_refl _) (heap_alloc_new _ _), Own.nil _ _ _ _, fun b _ h => (by cases h), (Below.refl _ _).alloc (Nat.le_refl _) _⟩
          go_upto_block 2 with fail
          go_cut [10] from 50 (fun v10 wc => ∃ (A3 : Option Addr) (n3 c3 : Nat) (bl : List UInt8), v10 = .slice A3 n3 c3 ∧ n3 ≤ c3 ∧ c3 ≤ 9223372036854775807 ∧ Hid (Two w1 wc (.slice A3 n3 c3) (.slice none 0 0) bl []) ∧ Hid (∀ y ∈ bl, y = 32 ∨ y = 9) ∧ Hid (bl.length ≤ 9))
          case first =>
            go_wp2_with fail
            go_loopg [10, 11] 9 (fun j v10 v11 wr => ∃ (i : Nat) (A3 : Option Addr) (n3 c3 : Nat) (bl : List UInt8), i ≤ 9 ∧ j = 9 - i ∧ v11 = .int .i64 i ∧ v10 = .slice A3 n3 c3 ∧ n3 ≤ c3 ∧ c3 ≤ 9223372036854775807 ∧ Hid (Two w1 wr (.slice A3 n3 c3) (.slice none 0 0) bl []) ∧ Hid (∀ y ∈ bl, y = 32 ∨ y = 9) ∧ Hid (bl.length ≤ i))
            case atStart => exact ⟨0, _, 0, 0, [], by omega, rfl, rfl, rfl, Nat.le_refl _, by omega, HT0, Lib.hid (by simp), Lib.hid (by simp)⟩
            case round =>
              obtain ⟨k, A3, n3, c3, bl, hk, rfl, rfl, rfl, hnc3, hcm3, HT, HBL, HBN⟩ := hrel
              by_cases h1 : (k : Int) < bk
              · have d3 : decide ((k : Int) < bk) = true := decide_eq_true h1
                by_cases h2 : k < 9
                · have d4 : decide ((k : Int) < 9) = true := decide_eq_true (by omega)
                  have HLB : Hid (bl.length ≤ 9) := Lib.hid (by have := HBN.out; omega)
                  rcases (by omega : (k : Int) % 2 = 0 ∨ (k : Int) % 2 = 1) with hp | hp
                  · go_wp2_with (at_builtin; refine wp_two_left rfl (.tmp 59) (.tmp 65) rfl w1 _ _ _ bl [] (Lib.hid (HT.out.alloc _)) rfl (under (wr.heap.size + 1)) _ _ [32] rfl (byteNew3 wr 32 32 rfl _ (Nat.lt_succ_self _)) (by have := HLB.out; simp only [List.length_cons, List.length_nil]; omega) ?_; intro A4 n4 c4 w4 HT4 hn4 hnc4 hcm4)
                    go_roundg (9 - (k + 1))
                    case measure => omega
                    case rel => exact ⟨k + 1, A4, n4, c4, bl ++ [32], by omega, rfl, by go_num, rfl, hnc4, hcm4, HT4, Lib.hid (by intro y hy; simp only [List.mem_append, List.mem_singleton] at hy; rcases hy with h | h; exact HBL.out y h; exact .inl h), Lib.hid (by have := HBN.out; simp; omega)⟩
                  · go_wp2_with (at_builtin; refine wp_two_left rfl (.tmp 59) (.tmp 65) rfl w1 _ _ _ bl [] (Lib.hid (HT.out.alloc _)) rfl (under (wr.heap.size + 1)) _ _ [9] rfl (byteNew3 wr 9 9 rfl _ (Nat.lt_succ_self _)) (by have := HLB.out; simp only [List.length_cons, List.length_nil]; omega) ?_; intro A4 n4 c4 w4 HT4 hn4 hnc4 hcm4)
                    go_roundg (9 - (k + 1))
                    case measure => omega
                    case rel => exact ⟨k + 1, A4, n4, c4, bl ++ [9], by omega, rfl, by go_num, rfl, hnc4, hcm4, HT4, Lib.hid (by intro y hy; simp only [List.mem_append, List.mem_singleton] at hy; rcases hy with h | h; exact HBL.out y h; exact .inr h), Lib.hid (by have := HBN.out; simp; omega)⟩
                · have d4 : decide ((k : Int) < 9) = false := decide_eq_false (by omega)
                  go_wp2_with fail
                  go_meet
                  case rel => exact ⟨A3, n3, c3, bl, rfl, hnc3, hcm3, HT, HBL, Lib.hid (by have := HBN.out; omega)⟩
              · have d3 : decide ((k : Int) < bk) = false := decide_eq_false h1
                go_wp2_with fail
                go_meet
                case rel => exact ⟨A3, n3, c3, bl, rfl, hnc3, hcm3, HT, HBL, Lib.hid (by have := HBN.out; omega)⟩
          case rest =>
            obtain ⟨A3, n3, c3, bl, rfl, hnc3, hcm3, HT, HBL, HBN⟩ := hcut
            clear HT0
            obtain ⟨w2, rfl⟩ : ∃ w2 : World, w2 = wc := ⟨_, rfl⟩
            go_upto_region 15 with (at_builtin; refine wp_two_left rfl (.tmp 67) (.tmp 68) rfl w1 _ _ _ bl [] (Lib.hid (HT.out.alloc _)) rfl (under (w2.heap.size + 1)) _ _ [92, 10] rfl (byteNew4 w2 92 10 92 10 rfl rfl _ (Nat.lt_succ_self _)) (by have := HBN.out; simp only [List.length_cons, List.length_nil]; omega) ?_; intro A4 n4 c4 w4 HT4 hn4 hnc4 hcm4)
            clear HT hnc3 hcm3
            go_wp2_with fail
            go_loopg [10, 12, 13, 14, 15] i (fun j v10 v12 v13 v14 v15 wr => ∃ (q : Nat) (At : Option Addr) (nt ct : Nat) (Aw : Option Addr) (nw cw : Nat) (E Wn : List UInt8), q ≤ i ∧ j = i - q ∧ v13 = .int .i64 q ∧ v10 = .slice At nt ct ∧ v12 = .slice Aw nw cw ∧ nt ≤ ct ∧ ct ≤ 9223372036854775807 ∧ nw ≤ cw ∧ cw ≤ 9223372036854775807 ∧ Hid (Two w1 wr (.slice At nt ct) (.slice Aw nw cw) (bl ++ 92 :: 10 :: E) Wn) ∧ Hid (Esc E Wn) ∧ Hid (nt = (bl ++ 92 :: 10 :: E).length) ∧ Hid (nw = Wn.length) ∧ Hid (Wn.length ≤ tot (rows.take q)))
            case atStart => exact ⟨0, A4, n4, c4, none, 0, 0, [], [], Nat.zero_le _, rfl, rfl, rfl, rfl, hnc4, hcm4, Nat.le_refl _, by omega, HT4, Lib.hid Esc.nil, hn4, Lib.hid rfl, Lib.hid (Nat.zero_le _)⟩
            case round =>
              obtain ⟨q, At, nt, ct, Aw, nw, cw, E, Wn, hq, rfl, rfl, rfl, rfl, hnt, hct, hnw, hcw, HT, HE, HNT, HNW, HWN⟩ := hrel
              clear HT4 hn4 hnc4 hcm4
              have HTOT : Hid (tot rows ≤ 16777216) := Lib.hid (by have := hNe.out; omega)
              by_cases hlt : q < i
              · have hil : q < rows.length := by have := hn1.out; omega
                obtain ⟨g, o, A', c', hAe, hg, hc, hs⟩ := HRO.out.rowsB hil
                obtain ⟨m, hm⟩ : ∃ m, m = rows[q].length := ⟨_, rfl⟩
                obtain ⟨Rw, hRw⟩ : ∃ Rw, Rw = rows[q] := ⟨_, rfl⟩
                have hmb : m ≤ 140737488355328 := by rw [hm]; exact hrb.out _ (List.getElem_mem _)
                have HTT : Hid (tot (rows.take (q + 1)) = tot (rows.take q) + 1 + m) := Lib.hid (by rw [hm]; exact tot_take rows hil)
                have HTQ : Hid (tot (rows.take q) + 1 + m ≤ 16777216) := Lib.hid (by have h1 := HTT.out; have h2 := tot_le rows (q + 1); have := HTOT.out; omega)
                rw [← hm] at hc
                rw [← hRw] at hs hm
                subst hAe
                have hcap := hs.len
                have hcap2 := hs.max
                rw [← hm] at hcap
                have HM := Lib.hid hm
                have HC : Hid (∀ W, Below w1.heap.size w1 W → W.cell? ⟨g, o + q, none⟩ = some (.slice A' m c')) := Lib.hid fun W hW => (hW.cell (p := ⟨g, o + q, none⟩) hg).trans hc
                have HSR := Lib.hid hs
                have hii : (q : Int) < (i : Int) := by omega
                have hi0 : (0 : Int) ≤ (q : Int) := Int.natCast_nonneg _
                have HEL := Lib.hid HE.out.len
                have HBN2 := HBN
                have HTL : Hid ((bl ++ 92 :: 10 :: E).length ≤ 67108864) := Lib.hid (by have := HBN.out; have := HEL.out; have := HWN.out; have := HTQ.out; simp only [List.length_append, List.length_cons]; omega)
                have HWL : Hid (Wn.length ≤ 16777216) := Lib.hid (by have := HWN.out; have := HTQ.out; omega)
                clear hm hRw hs hc hil
                go_upto_if 77 with fail
                go_cut [10, 12] from 77 to 121 (fun v10 v12 wc => ∃ (At : Option Addr) (nt ct : Nat) (Aw : Option Addr) (nw cw : Nat) (E Wn : List UInt8), v10 = .slice At nt ct ∧ v12 = .slice Aw nw cw ∧ nt ≤ ct ∧ ct ≤ 9223372036854775807 ∧ nw ≤ cw ∧ cw ≤ 9223372036854775807 ∧ Hid (Two w1 wc (.slice At nt ct) (.slice Aw nw cw) (bl ++ 92 :: 10 :: E) Wn) ∧ Hid (Esc E Wn) ∧ Hid (nt = (bl ++ 92 :: 10 :: E).length) ∧ Hid (nw = Wn.length) ∧ Hid (Wn.length ≤ tot (rows.take q) + 1))
                case first =>
                  rcases Nat.eq_zero_or_pos q with h0 | h0
                  · subst h0
                    go_wp2_with fail
                    go_meet
                    case rel => exact ⟨At, nt, ct, Aw, nw, cw, E, Wn, rfl, rfl, hnt, hct, hnw, hcw, HT, HE, HNT, HNW, Lib.hid (by have := HWN.out; omega)⟩
                  · have d5 : decide ((0 : Int) < (q : Int)) = true := decide_eq_true (by omega)
                    go_upto_region 21 with (at_builtin; refine wp_two_left rfl (.tmp 78) (.tmp 79) rfl w1 _ _ _ _ _ (Lib.hid (HT.out.alloc _)) rfl (under (wr.heap.size + 1)) _ _ [92, 10] rfl (byteNew4 wr 92 10 92 10 rfl rfl _ (Nat.lt_succ_self _)) (by have := HTL.out; simp only [List.length_cons, List.length_nil, List.length_append] at this ⊢; omega) ?_; intro A5 n5 c5 w5 HT5 hn5 hnc5 hcm5)
                    go_wp2_with (at_builtin; refine wp_two_right rfl (.tmp 81) (.tmp 82) rfl w1 _ _ _ _ _ (Lib.hid (HT5.out.alloc _)) rfl (under (w5.heap.size + 1)) _ _ [10] rfl (byteNew3 w5 10 10 rfl _ (Nat.lt_succ_self _)) (by have := HWL.out; simp only [List.length_cons, List.length_nil] at this ⊢; omega) ?_; intro A6 n6 c6 w6 HT6 hn6 hnc6 hcm6)
                    go_meet
                    case rel => exact ⟨A5, n5, c5, A6, n6, c6, E ++ [92, 10], Wn ++ [10], rfl, rfl, hnc5, hcm5, hnc6, hcm6, Lib.hid (by have := HT6.out; simpa using this), Lib.hid (HE.out.append (.esc 10 .nil)), Lib.hid (by have := hn5.out; simpa using this), hn6, Lib.hid (by have := HWN.out; simp; omega)⟩
                case rest =>
                  obtain ⟨At, nt, ct, Aw, nw, cw, E, Wn, rfl, rfl, hnt, hct, hnw, hcw, HT, HE, HNT, HNW, HWN⟩ := hcut
                  clear HTL HWL HEL
                  go_wp2_with fail
                  go_loopg [10, 12, 14, 15] m (fun j v10 v12 v14 v15 wr => ∃ (k : Nat) (At : Option Addr) (nt ct : Nat) (Aw : Option Addr) (nw cw : Nat) (E Wn : List UInt8), k ≤ m ∧ j = m - k ∧ v14 = .int .i64 k ∧ v10 = .slice At nt ct ∧ v12 = .slice Aw nw cw ∧ nt ≤ ct ∧ ct ≤ 9223372036854775807 ∧ nw ≤ cw ∧ cw ≤ 9223372036854775807 ∧ Hid (Two w1 wr (.slice At nt ct) (.slice Aw nw cw) (bl ++ 92 :: 10 :: E) Wn) ∧ Hid (Esc E Wn) ∧ Hid (nt = (bl ++ 92 :: 10 :: E).length) ∧ Hid (nw = Wn.length) ∧ Hid (Wn.length ≤ tot (rows.take q) + 1 + k))
                  case atStart => exact ⟨0, At, nt, ct, Aw, nw, cw, E, Wn, Nat.zero_le _, rfl, rfl, rfl, rfl, hnt, hct, hnw, hcw, HT, HE, HNT, HNW, HWN⟩
                  case round =>
                    clear HT HE HNT HNW HWN hnt hct hnw hcw
                    obtain ⟨k, At, nt, ct, Aw, nw, cw, E, Wn, hk, rfl, rfl, rfl, rfl, hnt, hct, hnw, hcw, HT, HE, HNT, HNW, HWN⟩ := hrel
                    have hcA := HC.out wr HT.out.b
                    by_cases hlt2 : k < m
                    · have hkl : k < Rw.length := by have := HM.out; omega
                      obtain ⟨g', o', rfl, hg', hcb⟩ := HSR.out.byte hkl
                      obtain ⟨b, hb⟩ : ∃ b, b = Rw[k] := ⟨_, rfl⟩
                      rw [← hb] at hcb
                      have hcB : wr.cell? ⟨g', o' + k, none⟩ = some (.int .u8 b.toNat) := (HT.out.b.cell (p := ⟨g', o' + k, none⟩) hg').trans hcb
                      have hkk : (k : Int) < (m : Int) := by omega
                      have hk0 : (0 : Int) ≤ (k : Int) := Int.natCast_nonneg _
                      have hbl := b.toNat_lt
                      have HEL := Lib.hid HE.out.len
                      have HTL : Hid ((bl ++ 92 :: 10 :: E).length ≤ 67108864) := Lib.hid (by have := HBN.out; have := HEL.out; have := HWN.out; have := HTQ.out; simp only [List.length_append, List.length_cons]; omega)
                      have HWL : Hid (Wn.length ≤ 16777216) := Lib.hid (by have := HWN.out; have := HTQ.out; omega)
                      clear hcb hb hkl
                      by_cases h10 : b = 10
                      · subst h10
                        have hcB' : wr.cell? ⟨g', o' + k, none⟩ = some (.int .u8 10) := hcB
                        clear hcB hbl
                        go_upto_region 28 with (at_builtin; refine wp_two_left rfl (.tmp 111) (.tmp 112) rfl w1 _ _ _ _ _ (Lib.hid (HT.out.alloc _)) rfl (under (wr.heap.size + 1)) _ _ [92] rfl (byteNew3 wr 92 92 rfl _ (Nat.lt_succ_self _)) (by have := HTL.out; simp only [List.length_cons, List.length_nil, List.length_append] at this ⊢; omega) ?_; intro A5 n5 c5 w5 HT5 hn5 hnc5 hcm5)
                        go_upto_region 29 with (at_builtin; refine wp_two_left rfl (.tmp 114) (.tmp 116) rfl w1 _ _ _ _ _ (Lib.hid (HT5.out.alloc _)) rfl (under (w5.heap.size + 1)) _ _ [10] rfl (byteNew3 w5 10 10 rfl _ (Nat.lt_succ_self _)) (by have := HTL.out; simp only [List.length_cons, List.length_nil, List.length_append] at this ⊢; omega) ?_; intro A6 n6 c6 w6 HT6 hn6 hnc6 hcm6)
                        go_wp2_with (at_builtin; refine wp_two_right rfl (.tmp 118) (.tmp 120) rfl w1 _ _ _ _ _ (Lib.hid (HT6.out.alloc _)) rfl (under (w6.heap.size + 1)) _ _ [10] rfl (byteNew3 w6 10 10 rfl _ (Nat.lt_succ_self _)) (by have := HWL.out; simp only [List.length_cons, List.length_nil] at this ⊢; omega) ?_; intro A7 n7 c7 w7 HT7 hn7 hnc7 hcm7)
                        go_roundg (m - (k + 1))
                        case measure => omega
                        case rel => exact ⟨k + 1, A6, n6, c6, A7, n7, c7, E ++ [92, 10], Wn ++ [10], by omega, rfl, by go_num, rfl, rfl, hnc6, hcm6, hnc7, hcm7, Lib.hid (by have := HT7.out; simpa using this), Lib.hid (HE.out.append (.esc 10 .nil)), Lib.hid (by have := hn6.out; simpa using this), hn7, Lib.hid (by have := HWN.out; simp; omega)⟩
                      · by_cases h92 : b = 92
                        · subst h92
                          have hcB' : wr.cell? ⟨g', o' + k, none⟩ = some (.int .u8 92) := hcB
                          clear hcB hbl h10
                          go_upto_region 28 with (at_builtin; refine wp_two_left rfl (.tmp 111) (.tmp 112) rfl w1 _ _ _ _ _ (Lib.hid (HT.out.alloc _)) rfl (under (wr.heap.size + 1)) _ _ [92] rfl (byteNew3 wr 92 92 rfl _ (Nat.lt_succ_self _)) (by have := HTL.out; simp only [List.length_cons, List.length_nil, List.length_append] at this ⊢; omega) ?_; intro A5 n5 c5 w5 HT5 hn5 hnc5 hcm5)
                          go_upto_region 29 with (at_builtin; refine wp_two_left rfl (.tmp 114) (.tmp 116) rfl w1 _ _ _ _ _ (Lib.hid (HT5.out.alloc _)) rfl (under (w5.heap.size + 1)) _ _ [92] rfl (byteNew3 w5 92 92 rfl _ (Nat.lt_succ_self _)) (by have := HTL.out; simp only [List.length_cons, List.length_nil, List.length_append] at this ⊢; omega) ?_; intro A6 n6 c6 w6 HT6 hn6 hnc6 hcm6)
                          go_wp2_with (at_builtin; refine wp_two_right rfl (.tmp 118) (.tmp 120) rfl w1 _ _ _ _ _ (Lib.hid (HT6.out.alloc _)) rfl (under (w6.heap.size + 1)) _ _ [92] rfl (byteNew3 w6 92 92 rfl _ (Nat.lt_succ_self _)) (by have := HWL.out; simp only [List.length_cons, List.length_nil] at this ⊢; omega) ?_; intro A7 n7 c7 w7 HT7 hn7 hnc7 hcm7)
                          go_roundg (m - (k + 1))
                          case measure => omega
                          case rel => exact ⟨k + 1, A6, n6, c6, A7, n7, c7, E ++ [92, 92], Wn ++ [92], by omega, rfl, by go_num, rfl, rfl, hnc6, hcm6, hnc7, hcm7, Lib.hid (by have := HT7.out; simpa using this), Lib.hid (HE.out.append (.esc 92 .nil)), Lib.hid (by have := hn6.out; simpa using this), hn7, Lib.hid (by have := HWN.out; simp; omega)⟩
                        · have f1 : ((b.toNat : Int) == 10) = false := by rw [beq_eq_false_iff_ne]; have := u8_ne h10; intro e; exact this (by show b.toNat = 10; omega)
                          have f2 : ((b.toNat : Int) == 92) = false := by rw [beq_eq_false_iff_ne]; have := u8_ne h92; intro e; exact this (by show b.toNat = 92; omega)
                          obtain ⟨r, hr⟩ : ∃ r : Nat, (b.toNat : Int) % 3 = (r : Int) := ⟨b.toNat % 3, by omega⟩
                          rcases Nat.eq_zero_or_pos r with hr0 | hr0
                          · subst hr0
                            go_upto_region 28 with (at_builtin; refine wp_two_left rfl (.tmp 111) (.tmp 112) rfl w1 _ _ _ _ _ (Lib.hid (HT.out.alloc _)) rfl (under (wr.heap.size + 1)) _ _ [92] rfl (byteNew3 wr 92 92 rfl _ (Nat.lt_succ_self _)) (by have := HTL.out; simp only [List.length_cons, List.length_nil, List.length_append] at this ⊢; omega) ?_; intro A5 n5 c5 w5 HT5 hn5 hnc5 hcm5)
                            go_upto_region 29 with (at_builtin; refine wp_two_left rfl (.tmp 114) (.tmp 116) rfl w1 _ _ _ _ _ (Lib.hid (HT5.out.alloc _)) rfl (under (w5.heap.size + 1)) _ _ [b] rfl (byteNew3 w5 b.toNat b rfl _ (Nat.lt_succ_self _)) (by have := HTL.out; simp only [List.length_cons, List.length_nil, List.length_append] at this ⊢; omega) ?_; intro A6 n6 c6 w6 HT6 hn6 hnc6 hcm6)
                            go_wp2_with (at_builtin; refine wp_two_right rfl (.tmp 118) (.tmp 120) rfl w1 _ _ _ _ _ (Lib.hid (HT6.out.alloc _)) rfl (under (w6.heap.size + 1)) _ _ [b] rfl (byteNew3 w6 b.toNat b rfl _ (Nat.lt_succ_self _)) (by have := HWL.out; simp only [List.length_cons, List.length_nil] at this ⊢; omega) ?_; intro A7 n7 c7 w7 HT7 hn7 hnc7 hcm7)
                            go_roundg (m - (k + 1))
                            case measure => omega
                            case rel => exact ⟨k + 1, A6, n6, c6, A7, n7, c7, E ++ [92, b], Wn ++ [b], by omega, rfl, by go_num, rfl, rfl, hnc6, hcm6, hnc7, hcm7, Lib.hid (by have := HT7.out; simpa using this), Lib.hid (HE.out.append (.esc b .nil)), Lib.hid (by have := hn6.out; simpa using this), hn7, Lib.hid (by have := HWN.out; simp; omega)⟩
                          · have f3 : ((r : Int) == 0) = false := by rw [beq_eq_false_iff_ne]; omega
                            have HP : Hid (Esc [b] [b]) := Lib.hid (.plain b h10 h92 .nil)
                            clear h10 h92
                            go_upto_region 29 with (at_builtin; refine wp_two_left rfl (.tmp 114) (.tmp 116) rfl w1 _ _ _ _ _ (Lib.hid (HT.out.alloc _)) rfl (under (wr.heap.size + 1)) _ _ [b] rfl (byteNew3 wr _ b rfl _ (Nat.lt_succ_self _)) (by have := HTL.out; simp only [List.length_cons, List.length_nil, List.length_append] at this ⊢; omega) ?_; intro A5 n5 c5 w5 HT5 hn5 hnc5 hcm5)
                            go_wp2_with (at_builtin; refine wp_two_right rfl (.tmp 118) (.tmp 120) rfl w1 _ _ _ _ _ (Lib.hid (HT5.out.alloc _)) rfl (under (w5.heap.size + 1)) _ _ [b] rfl (byteNew3 w5 _ b rfl _ (Nat.lt_succ_self _)) (by have := HWL.out; simp only [List.length_cons, List.length_nil] at this ⊢; omega) ?_; intro A6 n6 c6 w6 HT6 hn6 hnc6 hcm6)
                            go_roundg (m - (k + 1))
                            case measure => omega
                            case rel => exact ⟨k + 1, A5, n5, c5, A6, n6, c6, E ++ [b], Wn ++ [b], by omega, rfl, by go_num, rfl, rfl, hnc5, hcm5, hnc6, hcm6, Lib.hid (by have := HT6.out; simpa using this), Lib.hid (HE.out.append HP.out), Lib.hid (by have := hn5.out; simpa using this), hn6, Lib.hid (by have := HWN.out; simp; omega)⟩
                    · obtain rfl : k = m := by omega
                      go_wp2_with fail
                      go_roundg (i - (q + 1))
                      case measure => omega
                      case rel => exact ⟨q + 1, At, nt, ct, Aw, nw, cw, E, Wn, by omega, rfl, by go_num, rfl, rfl, hnt, hct, hnw, hcw, HT, HE, HNT, HNW, Lib.hid (by have := HWN.out; have := HTT.out; omega)⟩
              · obtain rfl : q = i := by omega
                have HEL := Lib.hid HE.out.len
                have HTQ : Hid (tot (rows.take q) ≤ 16777216) := Lib.hid (by have h2 := tot_le rows q; have := HTOT.out; omega)
                have HTL : Hid ((bl ++ 92 :: 10 :: E).length ≤ 67108864) := Lib.hid (by have := HBN.out; have := HEL.out; have := HWN.out; have := HTQ.out; simp only [List.length_append, List.length_cons]; omega)
                have HLB : Hid (behind.length ≤ 16777216) := Lib.hid (by have := hn2.out; have := hNe.out; omega)
                have hntb : nt ≤ 67108864 := by have := HTL.out; have := HNT.out; omega
                have hn2b : n2 ≤ 16777216 := by have := hn2.out; have := HLB.out; omega
                clear hlt
                go_upto_region 32 with (at_builtin; refine wp_two_left rfl (.tmp 125) (.tmp 126) rfl w1 _ _ _ _ _ (Lib.hid (HT.out.alloc _)) rfl (under (wr.heap.size + 1)) _ _ [10] rfl (byteNew3 wr 10 10 rfl _ (Nat.lt_succ_self _)) (by have := HTL.out; simp only [List.length_cons, List.length_nil, List.length_append] at this ⊢; omega) ?_; intro A5 n5 c5 w5 HT5 hn5 hnc5 hcm5)
                have HBE5 := Lib.hid (HBE.out.keep (fun b h => Nat.lt_of_lt_of_le h HT5.out.b.size) fun b hb => HT5.out.b.block b hb : SliceAt Rep.byte w5 (under w5.heap.size) A2 c2 behind)
                clear HT hnt hct
                go_upto_region 33 with (at_builtin; refine wp_two_left rfl (.tmp 128) (.tmp 129) rfl w1 _ _ _ _ _ HT5 rfl (under w5.heap.size) _ _ behind (by rw [hn2.out]; rfl) HBE5.out (by have := HTL.out; have := HLB.out; simp only [List.length_cons, List.length_nil, List.length_append] at this ⊢; have := HTL.out; simp only [List.length_cons, List.length_append] at this; omega) ?_; intro A6 n6 c6 w6 HT6 hn6 hnc6 hcm6)
                obtain ⟨T, hT⟩ : ∃ T, T = bl ++ 92 :: 10 :: (E ++ 10 :: behind) := ⟨_, rfl⟩
                have hTe : bl ++ 92 :: 10 :: E ++ [10] ++ behind = T := by rw [hT]; simp
                rw [hTe] at HT6 hn6
                have HTE := Lib.hid hT
                have hn6e : n6 = nt + 1 + behind.length := by rw [hn6.out, ← hTe, HNT.out]; simp only [List.length_append, List.length_cons, List.length_nil]
                have HN6 := Lib.hid hn6e
                have hn6b : n6 ≤ 134217728 := by have := HLB.out; omega
                have HB6 := Lib.hid (HB1.out.trans (HT6.out.b.mono HB1.out.size))
                have HS6 := Lib.hid HT6.out.t.slot'
                have HW6 := Lib.hid HT6.out.s.slot'
                clear hT hTe HT5 hn5 hnc5 hcm5 HBE5 HT6 hn6e
                go_wp2_with fail
                refine (new_any A6 n6 c6 T w6 _ hn6 HS6 (by omega)).mono ?_
                rintro e w7 ⟨g7, A7, c7, rfl, hg7, HW7, hb7⟩
                have HG7 := Lib.hid hg7
                clear hg7 HS6
                have HTX := Lib.hid (text_any19 w7 g7 n6 c7 A7 T bl E Wn behind HW7 HTE HBL HE (by omega))
                go_wp2_with fail
                refine HTX.out.mono ?_
                clear HTX
                rintro e w8 ⟨v, rfl, HOv, HW8, HO8⟩
                obtain ⟨A8, n8, c8, rfl, hn8, hnc8, hcm8⟩ := HOv.out.form
                have HB68 := Lib.hid (hb7.out.trans (HO8.out.one hb7.out.size HG7.out))
                have HB8 := Lib.hid (HB6.out.trans (HB68.out.mono HB6.out.size))
                have HEQ : Hid (Calls Tryd.prog 8 #[.slice A8 n8 c8, .slice Aw nw cw] w8 fun e w' => e = .returned (.bool (decide (Wn = Wn))) ∧ ∃ n, w' = w8.drewN n) := Lib.hid (by
                  rw [hn8.out, HNW.out]
                  exact eqBytes A8 Aw c8 cw Wn Wn w8 _ (under w6.heap.size) HOv.out.slot' (HW6.out.keep (fun _ h => h) fun b hb => HB68.out.block b hb))
                rw [decide_eq_true (rfl : Wn = Wn)] at HEQ
                obtain ⟨p, hp⟩ : ∃ p, p = n6 - behind.length := ⟨_, rfl⟩
                rw [← hp] at HW8
                have hpe : ((p : Int) == (nt : Int) + 1) = true := by rw [beq_iff_eq]; have := HN6.out; omega
                clear hp HB6 HB68 HO8 HOv hb7 HW7
                go_wp2_with fail
                refine HEQ.out.mono ?_
                rintro e w9 ⟨rfl, nd, rfl⟩
                have HW9 := Lib.hid (HW8.out.far (below_drewN w8 nd))
                clear HEQ
                go_wp2_with fail
                refine (at_any _ _ _ _ _ _ _ HW9).mono ?_
                rintro e w10 ⟨rfl, rfl⟩
                go_wp2_with fail
                go_ret
                exact ⟨rfl, HB8.out.trans ((below_drewN w8 nd).mono HB8.out.size)⟩
    · have d1 : decide ((N : Int) ≤ 16777216) = false := decide_eq_false (by omega)
      have d2 : decide ((16777216 : Int) < (N : Int)) = true := decide_eq_true (by omega)
      by_cases hlt : i < n1
      · have hii : (i : Int) < (n1 : Int) := by omega
        go_wp2_with fail
        go_ret
        exact ⟨rfl, HB1.out⟩
      · obtain rfl : i = n1 := by omega
        go_wp2_with fail
        go_ret
        exact ⟨rfl, HB1.out⟩
end Go.Proofs.YtooempbgpfhdcaaDoor
