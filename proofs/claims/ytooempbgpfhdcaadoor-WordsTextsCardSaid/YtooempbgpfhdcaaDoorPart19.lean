/- Words: parts. The walk of words.Part. Condition: room. -/
import Derived.Test.YtooempbgpfhdcaaDoorWords
namespace Go.Proofs.YtooempbgpfhdcaaDoor
open Go.RowKit Go.ChangeShapes Go.WideShapes Go.Deep

def Rep.mark : Rep Words.Mk := Rep.pair Rep.byte Rep.bool fun p => p
theorem stMark : SliceType Tryd.prog 43 47 2 2 := SliceType.mk' (z := .agg #[.int .u8 0, .bool false]) Tryd.underlying43 (by kernel_rfl) rfl (by omega)
theorem mark1 (w : World) (e : TypeId) (c : UInt8) (b : Bool) (B : Nat) (hB : w.heap.size < B) : SliceAt Rep.mark (w.alloc (.cells #[.int .u8 c.toNat, .bool b] e)) (under B) (some ⟨w.heap.size, 0, none⟩) 1 [(c, b)] :=
  (SliceAt.new1 Rep.mark w e #[.int .u8 c.toNat, .bool b] (c, b) nob ⟨[_], [_], rfl, rfl, rfl⟩ (fun _ h => h.elim)).up fun b hb => by rcases hb with rfl | h; exact hB; exact h.elim
theorem mark2 (w : World) (e : TypeId) (c d : UInt8) (b b2 : Bool) (B : Nat) (hB : w.heap.size < B) : SliceAt Rep.mark (w.alloc (.cells #[.int .u8 c.toNat, .bool b, .int .u8 d.toNat, .bool b2] e)) (under B) (some ⟨w.heap.size, 0, none⟩) 2 [(c, b), (d, b2)] := by
  refine (SliceAt.newRow Rep.mark w e #[.int .u8 c.toNat, .bool b, .int .u8 d.toNat, .bool b2] [(c, b), (d, b2)] nob 2 2 rfl (Nat.le_refl _) (by simp [maxLen]) (fun i hi => ?_) (fun _ h => h.elim)).up fun b hb => by rcases hb with rfl | h; exact hB; exact h.elim
  match i, hi with
  | 0, _ => exact ⟨[_], [_], rfl, rfl, rfl⟩
  | 1, _ => exact ⟨[_], [_], rfl, rfl, rfl⟩
/-- What Part answers. -/
def PartAns (w : World) (g n c : Nat) (A : Option Addr) (l : List UInt8) (p : Nat) (r : Option (List Words.Mk × List UInt8)) (e : Ending) (w' : World) : Prop :=
  match r with
  | none => e = .returned (.tuple #[.slice none 0 0, .int .i64 70]) ∧ Hid (Wd w' g A n c l p) ∧ Hid (Only (fun b => b = g) w w')
  | some (m, t) => ∃ v, e = .returned (.tuple #[v, .int .i64 0]) ∧ Hid (Own Rep.mark 47 w' w.heap.size nob v m) ∧ Hid (Wd w' g A n c l (n - t.length)) ∧ Hid (Only (fun b => b = g) w w')
set_option maxRecDepth 100000 in
theorem part_bad (w : World) (g n c p : Nat) (A : Option Addr) (l : List UInt8) (d : UInt8) (ends : Bool) (h : Hid (Wd w g A n c l p)) (hd : d = 92 ∨ d = 10) :
    Calls Tryd.prog 13 #[.pointer (some ⟨g, 0, none⟩), .int .u8 d.toNat, .bool ends] w fun e w' => e = .returned (.tuple #[.slice none 0 0, .int .i64 70]) ∧ w = w' := by
  rcases hd with rfl | rfl
  · show Calls Tryd.prog 13 #[.pointer (some ⟨g, 0, none⟩), .int .u8 92, .bool ends] w _
    go_enter Tryd.func13, Tryd.ntmps13
    go_wp2_with (go_at_call 16; refine (none_no _ _ _ _ _ _ _ h).mono ?_; rintro e w' ⟨rfl, rfl⟩)
    go_ret2
    exact ⟨rfl, rfl⟩
  · show Calls Tryd.prog 13 #[.pointer (some ⟨g, 0, none⟩), .int .u8 10, .bool ends] w _
    go_enter Tryd.func13, Tryd.ntmps13
    go_wp2_with (go_at_call 16; refine (none_no _ _ _ _ _ _ _ h).mono ?_; rintro e w' ⟨rfl, rfl⟩)
    go_ret2
    exact ⟨rfl, rfl⟩
theorem u8_ne {a b : UInt8} (h : a ≠ b) : a.toNat ≠ b.toNat := fun e => h (UInt8.toNat_inj.1 e)
set_option maxRecDepth 100000 in
set_option maxHeartbeats 4000000 in
theorem part_any (w : World) (g n c p : Nat) (A : Option Addr) (l : List UInt8) (d : UInt8) (ends : Bool) (h : Hid (Wd w g A n c l p)) (hd1 : Hid (d ≠ 92)) (hd2 : Hid (d ≠ 10)) (hb : n ≤ 1099511627776) :
    Calls Tryd.prog 13 #[.pointer (some ⟨g, 0, none⟩), .int .u8 d.toNat, .bool ends] w (PartAns w g n c A l p (Words.part d ends (l.drop p))) := by
  have hdl := d.toNat_lt
  obtain ⟨dn, hdn⟩ : ∃ dn, dn = d.toNat := ⟨_, rfl⟩
  have e1 : ((dn : Int) == 92) = false := by rw [beq_eq_false_iff_ne]; have := u8_ne hd1.out; rw [← hdn] at this; intro e; exact this (by show dn = 92; omega)
  have e2 : ((dn : Int) == 10) = false := by rw [beq_eq_false_iff_ne]; have := u8_ne hd2.out; rw [← hdn] at this; intro e; exact this (by show dn = 10; omega)
  have hdn256 : dn < 256 := by omega
  have hpn := h.out.hp
  obtain ⟨hnc, hcm⟩ := h.out.caps
  rw [← hdn]
  have HDN := Lib.hid hdn
  clear hdn hdl
  go_enter Tryd.func13, Tryd.ntmps13
  obtain ⟨q0, q1, q2, q3⟩ := h.out.cells
  go_wp2_with (go_at_call 16; refine (none_no _ _ _ _ _ _ _ h).mono ?_; rintro e w' ⟨rfl, rfl⟩)
  clear e1 e2 q0 q1 q2 q3
  go_loopg [8, 9] (n - p) (fun k v8 v9 wr => ∃ (i : Nat) (A8 : Option Addr) (n8 c8 : Nat) (M : List Words.Mk), p ≤ i ∧ i ≤ n ∧ k = n - i ∧ v9 = .int .i64 i ∧ v8 = .slice A8 n8 c8 ∧ Hid (Own Rep.mark 47 wr w.heap.size nob (.slice A8 n8 c8) M) ∧ Hid (M.length ≤ 2 * i) ∧ Hid (Below w.heap.size w wr) ∧ Hid (Words.part d ends (l.drop p) = (Words.part d ends (l.drop i)).map fun x => (M ++ x.1, x.2)))
  case atStart => exact ⟨p, none, 0, 0, [], Nat.le_refl _, hpn, rfl, rfl, rfl, Lib.hid (Own.nil _ _ _ _), Lib.hid (Nat.zero_le _), Lib.hid (Below.refl _ _), Lib.hid (by cases Words.part d ends (l.drop p) <;> rfl)⟩
  case round =>
    obtain ⟨i, A8, n8, c8, M, hpi, hin, rfl, rfl, rfl, HO, HM, HB, HF⟩ := hrel
    have HW := Lib.hid (h.out.far HB.out)
    obtain ⟨q0, q1, q2, q3⟩ := HW.out.cells
    have hglt := HW.out.glt
    by_cases hlt : i < n
    · have hil : i < l.length := by have := h.out.hn; omega
      obtain ⟨gt, o, rfl, hgt, hc⟩ := HW.out.byte hil
      have hdr : l.drop i = l[i] :: l.drop (i + 1) := List.drop_eq_getElem_cons hil
      obtain ⟨x, hx⟩ : ∃ x : UInt8, x = l[i] := ⟨_, rfl⟩
      rw [← hx] at hc hdr
      rw [hdr, Words.part_cons] at HF
      have hxl := x.toNat_lt
      have hii : (i : Int) < (n : Int) := by omega
      have hi0 : (0 : Int) ≤ (i : Int) := Int.natCast_nonneg _
      clear hx hdr
      by_cases hxd : x = d
      · rw [if_pos hxd] at HF
        have hxd2 : x.toNat = dn := by rw [hxd, HDN.out]
        rw [hxd2] at hc
        clear hxd hxd2 hxl
        go_wp2_with fail
        go_ret2
        rw [HF.out]
        refine ⟨.slice A8 n8 c8, rfl, Lib.hid (by show Own _ _ _ _ _ _ (M ++ []); rw [List.append_nil]; exact HO.out.mono (setCell_grown _ _ _ _) (.inr (HO.out.ne_block HW.out.blk (by decide))) (fun _ h => h.elim)), Lib.hid ?_, Lib.hid ((Only.of_below HB.out (fun b => b = g)).setCell (p := ⟨g, 1, none⟩) (.inl rfl) _)⟩
        have := HW.out.set (q := i + 1) (by omega)
        rw [show n - (l.drop (i + 1)).length = i + 1 by rw [List.length_drop]; have := h.out.hn; omega]
        simpa using this
      · rw [if_neg hxd] at HF
        have f1 : ((x.toNat : Int) == (dn : Int)) = false := by rw [beq_eq_false_iff_ne]; have := u8_ne hxd; rw [← HDN.out] at this; omega
        have f2 : (x.toNat == dn) = false := by rw [beq_eq_false_iff_ne]; have := u8_ne hxd; rw [← HDN.out] at this; omega
        clear hxd
        by_cases hx10 : x = 10
        · rw [if_pos hx10] at HF
          subst hx10
          have hc' : wr.cell? ⟨gt, o + i, none⟩ = some (.int .u8 10) := hc
          have f3 : ((10 : Int) == (dn : Int)) = false := f1
          clear hc f1 f2
          go_wp2_with fail
          go_ret2
          rw [HF.out]
          exact ⟨rfl, HW, Lib.hid (Only.of_below HB.out _)⟩
        · rw [if_neg hx10] at HF
          have f3 : ((x.toNat : Int) == 10) = false := by rw [beq_eq_false_iff_ne]; have := u8_ne hx10; intro e; exact this (by show x.toNat = 10; omega)
          clear hx10
          by_cases hx92 : x = 92
          · rw [if_pos hx92] at HF
            subst hx92
            have hc' : wr.cell? ⟨gt, o + i, none⟩ = some (.int .u8 92) := hc
            have f4 : ((92 : Int) == (dn : Int)) = false := f1
            clear hc f1 f2 f3
            by_cases hi1 : i + 1 = n
            · have hdn : l.drop (i + 1) = [] := List.drop_of_length_le (by have := h.out.hn; omega)
              rw [hdn] at HF
              have g1 : (((i : Int) + 1) == (n : Int)) = true := by rw [beq_iff_eq]; omega
              clear hdn
              go_wp2_with fail
              go_ret2
              rw [HF.out]
              exact ⟨rfl, HW, Lib.hid (Only.of_below HB.out _)⟩
            · have hil1 : i + 1 < l.length := by have := h.out.hn; omega
              have hdr : l.drop (i + 1) = l[i + 1] :: l.drop (i + 2) := List.drop_eq_getElem_cons hil1
              obtain ⟨gt2, o2, he2, -, hc2⟩ := HW.out.byte hil1
              simp only [Option.some.injEq, Addr.mk.injEq] at he2
              obtain ⟨rfl, rfl, -⟩ := he2
              obtain ⟨y, hy⟩ : ∃ y : UInt8, y = l[i + 1] := ⟨_, rfl⟩
              rw [← hy] at hc2 hdr
              rw [hdr] at HF
              simp only at HF
              have hyl := y.toNat_lt
              have g1 : (((i : Int) + 1) == (n : Int)) = false := by rw [beq_eq_false_iff_ne]; omega
              have g2 : ((i : Int) + 1) < (n : Int) := by omega
              have hML : Hid (M.length ≤ 2199023255552) := Lib.hid (by have := HM.out; omega)
              clear hy hdr hi1
              by_cases hbad : y = 10 ∧ ends = false
              · rw [if_pos hbad] at HF
                obtain ⟨rfl, rfl⟩ := hbad
                have hc2' : wr.cell? ⟨gt, o + (i + 1), none⟩ = some (.int .u8 10) := hc2
                clear hc2
                go_wp2_with fail
                go_ret2
                rw [HF.out]
                exact ⟨rfl, HW, Lib.hid (Only.of_below HB.out _)⟩
              · rw [if_neg hbad] at HF
                by_cases hy10 : y = 10
                · subst hy10
                  obtain rfl : ends = true := by cases ends; exact absurd ⟨rfl, rfl⟩ hbad; rfl
                  have hc2' : wr.cell? ⟨gt, o + (i + 1), none⟩ = some (.int .u8 10) := hc2
                  rw [if_neg (Ne.symm hd2.out)] at HF
                  have f5 : ((10 : Int) == (dn : Int)) = false := by rw [beq_eq_false_iff_ne]; have := u8_ne hd2.out; rw [← HDN.out] at this; intro e; exact this (by show dn = 10; omega)
                  clear hc2 hbad
                  go_wp2_with (at_builtin; refine wpList_append_Own _ rfl (.tmp 95) (.tmp 106) 43 rfl Rep.mark w.heap.size 47 2 stMark nob (.slice A8 n8 c8) M rfl (HO.out.alloc _) (under (wr.heap.size + 1)) _ _ [(92, false), (10, false)] rfl (mark2 _ _ 92 10 false false _ (Nat.lt_succ_self _)) nob (fun _ h => h.elim) (fun _ h => h) (fun _ _ h => h) (by have := hML.out; simp only [List.length_cons, List.length_nil]; omega) (by have := hML.out; simp only [List.length_cons, List.length_nil]; omega) (by have := HB.out.size; simp; omega) ?_; intro v3 w3 hown3 hg3 hat3; obtain ⟨A3, n3, c3, rfl, -, -, -⟩ := hown3.form; have HB3 := Lib.hid (below_own (HB.out.alloc HB.out.size _) (HO.out.alloc _) hg3 (by have := HB.out.size; simp; omega)); have HO3 := Lib.hid hown3; clear hown3 hg3 hat3)
                  go_roundg (n - (i + 1 + 1))
                  case measure => omega
                  case rel => exact ⟨i + 1 + 1, _, _, _, M ++ [(92, false), (10, false)], by omega, by omega, rfl, by go_num, rfl, HO3, Lib.hid (by have := HM.out; simp; omega), HB3, Lib.hid (by rw [HF.out]; show _ = (Words.part d true (l.drop (i + 2))).map _; cases Words.part d true (l.drop (i + 2)) <;> simp)⟩
                · have f5 : ((y.toNat : Int) == 10) = false := by rw [beq_eq_false_iff_ne]; have := u8_ne hy10; intro e; exact this (by show y.toNat = 10; omega)
                  clear hbad hy10
                  by_cases hyd : y = d
                  · rw [if_pos hyd] at HF
                    have hyd2 : y.toNat = dn := by rw [hyd, HDN.out]
                    rw [hyd2] at hc2 f5
                    clear hyd hyd2 hyl
                    go_wp2_with (at_builtin; refine wpList_append_Own _ rfl (.tmp 90) (.tmp 93) 43 rfl Rep.mark w.heap.size 47 2 stMark nob (.slice A8 n8 c8) M rfl (HO.out.alloc _) (under (wr.heap.size + 1)) _ _ [(d, true)] rfl (by have := mark1 (wr) 47 d true (wr.heap.size + 1) (Nat.lt_succ_self _); rw [← HDN.out] at this; exact this) nob (fun _ h => h.elim) (fun _ h => h) (fun _ _ h => h) (by have := hML.out; simp only [List.length_cons, List.length_nil]; omega) (by have := hML.out; simp only [List.length_cons, List.length_nil]; omega) (by have := HB.out.size; simp; omega) ?_; intro v3 w3 hown3 hg3 hat3; obtain ⟨A3, n3, c3, rfl, -, -, -⟩ := hown3.form; have HB3 := Lib.hid (below_own (HB.out.alloc HB.out.size _) (HO.out.alloc _) hg3 (by have := HB.out.size; simp; omega)); have HO3 := Lib.hid hown3; clear hown3 hg3 hat3)
                    go_roundg (n - (i + 1 + 1))
                    case measure => omega
                    case rel => exact ⟨i + 1 + 1, _, _, _, M ++ [(d, true)], by omega, by omega, rfl, by go_num, rfl, HO3, Lib.hid (by have := HM.out; simp; omega), HB3, Lib.hid (by rw [HF.out]; show _ = (Words.part d ends (l.drop (i + 2))).map _; cases Words.part d ends (l.drop (i + 2)) <;> simp)⟩
                  · rw [if_neg hyd] at HF
                    have f6 : ((y.toNat : Int) == (dn : Int)) = false := by rw [beq_eq_false_iff_ne]; have := u8_ne hyd; rw [← HDN.out] at this; omega
                    have f7 : (y.toNat == dn) = false := by rw [beq_eq_false_iff_ne]; have := u8_ne hyd; rw [← HDN.out] at this; omega
                    clear hyd
                    go_wp2_with (at_builtin; refine wpList_append_Own _ rfl (.tmp 95) (.tmp 106) 43 rfl Rep.mark w.heap.size 47 2 stMark nob (.slice A8 n8 c8) M rfl (HO.out.alloc _) (under (wr.heap.size + 1)) _ _ [(92, false), (y, false)] rfl (mark2 _ _ 92 y false false _ (Nat.lt_succ_self _)) nob (fun _ h => h.elim) (fun _ h => h) (fun _ _ h => h) (by have := hML.out; simp only [List.length_cons, List.length_nil]; omega) (by have := hML.out; simp only [List.length_cons, List.length_nil]; omega) (by have := HB.out.size; simp; omega) ?_; intro v3 w3 hown3 hg3 hat3; obtain ⟨A3, n3, c3, rfl, -, -, -⟩ := hown3.form; have HB3 := Lib.hid (below_own (HB.out.alloc HB.out.size _) (HO.out.alloc _) hg3 (by have := HB.out.size; simp; omega)); have HO3 := Lib.hid hown3; clear hown3 hg3 hat3)
                    go_roundg (n - (i + 1 + 1))
                    case measure => omega
                    case rel => exact ⟨i + 1 + 1, _, _, _, M ++ [(92, false), (y, false)], by omega, by omega, rfl, by go_num, rfl, HO3, Lib.hid (by have := HM.out; simp; omega), HB3, Lib.hid (by rw [HF.out]; show _ = (Words.part d ends (l.drop (i + 2))).map _; cases Words.part d ends (l.drop (i + 2)) <;> simp)⟩
          · rw [if_neg hx92] at HF
            have f4 : ((x.toNat : Int) == 92) = false := by rw [beq_eq_false_iff_ne]; have := u8_ne hx92; intro e; exact this (by show x.toNat = 92; omega)
            have hML : Hid (M.length ≤ 2199023255552) := Lib.hid (by have := HM.out; omega)
            clear hx92
            go_wp2_with (at_builtin; refine wpList_append_Own _ rfl (.tmp 40) (.tmp 43) 43 rfl Rep.mark w.heap.size 47 2 stMark nob (.slice A8 n8 c8) M rfl (HO.out.alloc _) (under (wr.heap.size + 1)) _ _ [(x, false)] rfl (mark1 _ _ x false _ (Nat.lt_succ_self _)) nob (fun _ h => h.elim) (fun _ h => h) (fun _ _ h => h) (by have := hML.out; simp only [List.length_cons, List.length_nil]; omega) (by have := hML.out; simp only [List.length_cons, List.length_nil]; omega) (by have := HB.out.size; simp; omega) ?_; intro v3 w3 hown3 hg3 hat3; obtain ⟨A3, n3, c3, rfl, -, -, -⟩ := hown3.form; have HB3 := Lib.hid (below_own (HB.out.alloc HB.out.size _) (HO.out.alloc _) hg3 (by have := HB.out.size; simp; omega)); have HO3 := Lib.hid hown3; clear hown3 hg3 hat3)
            go_roundg (n - (i + 1))
            case measure => omega
            case rel => exact ⟨i + 1, _, _, _, M ++ [(x, false)], by omega, by omega, rfl, by go_num, rfl, HO3, Lib.hid (by have := HM.out; simp; omega), HB3, Lib.hid (by rw [HF.out]; cases Words.part d ends (l.drop (i + 1)) <;> simp)⟩
    · obtain rfl : i = n := by omega
      have hdn : l.drop i = [] := List.drop_of_length_le (by have := h.out.hn; omega)
      rw [hdn] at HF
      have hnone : Words.part d ends [] = none := by rw [Words.part.eq_def]
      rw [hnone] at HF
      clear hdn hnone
      go_wp2_with fail
      go_ret2
      rw [HF.out]
      exact ⟨rfl, HW, Lib.hid (Only.of_below HB.out _)⟩
end Go.Proofs.YtooempbgpfhdcaaDoor
