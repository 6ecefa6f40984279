/- Words: numbers. The walk of words.Number. Condition: room. -/
import Derived.Test.YtooempbgpfhdcaaDoorWhile
namespace Go.Proofs.YtooempbgpfhdcaaDoor
open Go.RowKit Go.ChangeShapes Go.WideShapes Go.Deep

theorem digs_lead : ∀ l : List UInt8, Words.digs l = l.take (lead Words.isDig l)
  | [] => rfl
  | c :: r => by
    show (if Words.isDig c then c :: Words.digs r else []) = _
    unfold lead
    split
    · rw [List.take_succ_cons, digs_lead r]
    · rfl
theorem lead_len : ∀ l : List UInt8, lead Words.isDig l ≤ l.length
  | [] => Nat.le_refl _
  | c :: r => by
    unfold lead
    have := lead_len r
    split <;> simp <;> omega
theorem lead_dig : ∀ (l : List UInt8), ∀ c ∈ l.take (lead Words.isDig l), Words.isDig c = true
  | [], c, h => by simp [lead] at h
  | x :: r, c, h => by
    unfold lead at h
    split at h
    · rename_i hx
      rw [List.take_succ_cons] at h
      rcases List.mem_cons.1 h with rfl | h
      · exact hx
      · exact lead_dig r c h
    · simp at h
/-- The variables that the search for digits keeps. -/
structure NSt (W : World) (bm bn bh : Nat) (most : Int) (s : Int × Bool) : Prop where
  m : W.heap[bm]? = some (.cells #[.int .i64 most] 3)
  n : W.heap[bn]? = some (.cells #[.int .i64 s.1] 3)
  h : W.heap[bh]? = some (.cells #[.bool s.2] 4)
  lo : 0 ≤ s.1
  hv : s.1 ≤ most
  mm : most ≤ 9223372036854775807
  ne : bm < bn ∧ bn < bh
section
variable {W W' : World} {bm bn bh : Nat} {most : Int} {s : Int × Bool}
theorem NSt.lt (h : NSt W bm bn bh most s) : bm < W.heap.size ∧ bn < W.heap.size ∧ bh < W.heap.size := ⟨(Array.getElem?_eq_some_iff.1 h.m).1, (Array.getElem?_eq_some_iff.1 h.n).1, (Array.getElem?_eq_some_iff.1 h.h).1⟩
theorem NSt.far (h : NSt W bm bn bh most s) (hb : Below W.heap.size W W') : NSt W' bm bn bh most s :=
  ⟨(hb.block _ h.lt.1).trans h.m, (hb.block _ h.lt.2.1).trans h.n, (hb.block _ h.lt.2.2).trans h.h, h.lo, h.hv, h.mm, h.ne⟩
theorem NSt.other (h : NSt W bm bn bh most s) {g : Nat} (h1 : g ≠ bm) (h2 : g ≠ bn) (h3 : g ≠ bh) (k : Nat) (v : Value) : NSt (W.setCell ⟨g, k, none⟩ v) bm bn bh most s :=
  ⟨(Below.heap_setCell W ⟨g, k, none⟩ v bm (Ne.symm h1)).trans h.m, (Below.heap_setCell W ⟨g, k, none⟩ v bn (Ne.symm h2)).trans h.n, (Below.heap_setCell W ⟨g, k, none⟩ v bh (Ne.symm h3)).trans h.h, h.lo, h.hv, h.mm, h.ne⟩
theorem NSt.high (h : NSt W bm bn bh most s) : NSt (W.setCell ⟨bh, 0, none⟩ (.bool true)) bm bn bh most (s.1, true) :=
  ⟨(Below.heap_setCell W ⟨bh, 0, none⟩ _ bm (by have := h.ne; simp only; omega)).trans h.m, (Below.heap_setCell W ⟨bh, 0, none⟩ _ bn (by have := h.ne; simp only; omega)).trans h.n, by simp [World.setCell, Array.getElem?_modify, h.h], h.lo, h.hv, h.mm, h.ne⟩
theorem NSt.more (h : NSt W bm bn bh most s) {v : Int} (h1 : 0 ≤ v) (h2 : v ≤ most) : NSt (W.setCell ⟨bn, 0, none⟩ (.int .i64 v)) bm bn bh most (v, s.2) :=
  ⟨(Below.heap_setCell W ⟨bn, 0, none⟩ _ bm (by have := h.ne; simp only; omega)).trans h.m, by simp [World.setCell, Array.getElem?_modify, h.n], (Below.heap_setCell W ⟨bn, 0, none⟩ _ bh (by have := h.ne; simp only; omega)).trans h.h, h1, h2, h.mm, h.ne⟩
end
/-- What is told of a byte. -/
def DigAns (W : World) (bm bn bh : Nat) (most : Int) (s : Int × Bool) (c : UInt8) (e : Ending) (W' : World) : Prop :=
  e = .returned (.bool (Words.isDig c)) ∧ NSt W' bm bn bh most (if Words.isDig c then Words.numStep most s c else s) ∧ Only (fun b => b = bn ∨ b = bh) W W'
set_option maxRecDepth 100000 in
set_option maxHeartbeats 1000000 in
theorem number1_any (W : World) (bm bn bh : Nat) (most v : Int) (hi : Bool) (c : UInt8) (h : Hid (NSt W bm bn bh most (v, hi))) :
    Calls Tryd.prog 22 #[.int .i32 c.toNat, .pointer (some ⟨bm, 0, none⟩), .pointer (some ⟨bn, 0, none⟩), .pointer (some ⟨bh, 0, none⟩)] W (DigAns W bm bn bh most (v, hi) c) := by
  have hc := c.toNat_lt
  have HX := Lib.hid (indexRune_dig c W)
  cases hd : Words.isDig c with
  | false =>
    simp only [hd, Bool.false_eq_true, if_false] at HX
    have HD := Lib.hid hd
    clear hd
    go_enter Tryd.func22, Tryd.ntmps22
    go_wp2_with fail
    refine HX.out.mono ?_
    rintro e w1 ⟨rfl, hb⟩
    have HB := Lib.hid hb
    clear hb
    go_wp2_with fail
    go_ret
    unfold DigAns
    rw [HD.out]
    exact ⟨rfl, h.out.far HB.out, Only.of_below HB.out _⟩
  | true =>
    simp only [hd, if_true] at HX
    have hdd := hd
    simp only [Words.isDig, Bool.and_eq_true, decide_eq_true_eq] at hdd
    obtain ⟨d, hde⟩ : ∃ d : Nat, (c.toNat : Int) - 48 = d := ⟨c.toNat - 48, by omega⟩
    rw [hde] at HX
    have HS : Hid (Words.numStep most (v, hi) c = if most < (d : Int) ∨ (most - (d : Int)) / 10 < v then (v, true) else (10 * v + d, hi)) := Lib.hid (by unfold Words.numStep; rw [hde])
    have hd9 : d ≤ 9 := by omega
    have HD := Lib.hid hd
    have hv0 := h.out.lo
    have hvm := h.out.hv
    have hmm := h.out.mm
    simp only at hv0 hvm
    clear hde hdd hd
    go_enter Tryd.func22, Tryd.ntmps22
    go_wp2_with fail
    refine HX.out.mono ?_
    rintro e w1 ⟨rfl, hb⟩
    have HB := Lib.hid hb
    have HN := Lib.hid (h.out.far hb)
    clear hb
    have c1 := cell_of_row w1 _ 0 _ _ (0, 0) HN.out.m
    have c2 := cell_of_row w1 _ 0 _ _ (0, 0) HN.out.n
    have c3 := cell_of_row w1 _ 0 _ _ (0, 0) HN.out.h
    have f2 : w1.frozen? ⟨bn, 0, none⟩ = false := by simp [World.frozen?, HN.out.n]
    have f3 : w1.frozen? ⟨bh, 0, none⟩ = false := by simp [World.frozen?, HN.out.h]
    simp at c1 c2 c3
    by_cases hm : most < (d : Int)
    · have hm1 : decide (most < (d : Int)) = true := decide_eq_true hm
      go_wp2_with fail
      go_ret
      unfold DigAns
      rw [HD.out, HS.out, if_pos rfl, if_pos (.inl hm)]
      exact ⟨rfl, HN.out.high, (Only.of_below HB.out (fun b => b = bn ∨ b = bh)).setCell (p := ⟨bh, 0, none⟩) (.inl (.inr rfl)) _⟩
    · have hm1 : decide (most < (d : Int)) = false := decide_eq_false hm
      have hsub : 0 ≤ most - (d : Int) := by omega
      by_cases hq : (most - (d : Int)) / 10 < v
      · have hq1 : decide ((most - (d : Int)) / 10 < v) = true := decide_eq_true hq
        go_wp2_with fail
        go_ret
        unfold DigAns
        rw [HD.out, HS.out, if_pos rfl, if_pos (.inr hq)]
        exact ⟨rfl, HN.out.high, (Only.of_below HB.out (fun b => b = bn ∨ b = bh)).setCell (p := ⟨bh, 0, none⟩) (.inl (.inr rfl)) _⟩
      · have hq1 : decide ((most - (d : Int)) / 10 < v) = false := decide_eq_false hq
        have hs : 10 * v + (d : Int) ≤ most := by omega
        have hs1 : 10 * v ≤ 9223372036854775807 := by omega
        go_wp2_with fail
        go_ret
        unfold DigAns
        rw [HD.out, HS.out, if_pos rfl, if_neg (by simp only [not_or]; exact ⟨by omega, by omega⟩)]
        exact ⟨rfl, HN.out.more (by omega) hs, (Only.of_below HB.out (fun b => b = bn ∨ b = bh)).setCell (p := ⟨bn, 0, none⟩) (.inl (.inl rfl)) _⟩
theorem numGo_snoc (most : Int) (s : Int × Bool) (l : List UInt8) (c : UInt8) : Words.numGo most s (l ++ [c]) = Words.numStep most (Words.numGo most s l) c := by simp [Words.numGo]
/-- What holds between the calls of the search. -/
def NInv (w : World) (g n c : Nat) (A : Option Addr) (l : List UInt8) (p bm bn bh : Nat) (most : Int) (k q : Nat) (W : World) : Prop :=
  Wd W g A n c l q ∧ NSt W bm bn bh most (Words.numGo most (0, false) ((l.drop p).take k)) ∧ Only (fun b => b = g ∨ w.heap.size ≤ b) w W
set_option maxRecDepth 100000 in
set_option maxHeartbeats 2000000 in
theorem number_any (w : World) (g n c p : Nat) (A : Option Addr) (l : List UInt8) (most a : Int) (b d : Nat) (h : Hid (Wd w g A n c l p)) (hm : 0 ≤ most) (hmm : most ≤ 9223372036854775807) (hb : n ≤ 4611686018427387904)
    (hr : Hid (Words.number most (l.drop p) = (a, b, d))) :
    Calls Tryd.prog 11 #[.pointer (some ⟨g, 0, none⟩), .int .i64 most] w fun e w' => e = .returned (.tuple #[.int .i64 a, .int .i64 b]) ∧ Hid (Wd w' g A n c l (p + d)) ∧ Hid (Only (fun b => b = g) w w') := by
  have hglt := h.out.glt
  obtain ⟨W0, hW0⟩ : ∃ W0, W0 = ((w.alloc (.cells #[.int .i64 most] 3)).alloc (.cells #[.int .i64 0] 3)).alloc (.cells #[.bool false] 4) := ⟨_, rfl⟩
  have hb0 : Below w.heap.size w W0 := by rw [hW0]; exact (((Below.refl _ _).alloc (Nat.le_refl _) _).alloc (by simp) _).alloc (by simp; omega) _
  have hbm : W0.heap[w.heap.size]? = some (.cells #[.int .i64 most] 3) := by rw [hW0, heap_alloc_old _ _ (by simp; omega), heap_alloc_old _ _ (by simp)]; exact heap_alloc_new _ _
  have hbn : W0.heap[w.heap.size + 1]? = some (.cells #[.int .i64 0] 3) := by
    rw [hW0, heap_alloc_old _ _ (by simp)]
    have := heap_alloc_new (w.alloc (.cells #[.int .i64 most] 3)) (.cells #[.int .i64 0] 3)
    simpa using this
  have hbh : W0.heap[w.heap.size + 2]? = some (.cells #[.bool false] 4) := by
    rw [hW0]
    have := heap_alloc_new ((w.alloc (.cells #[.int .i64 most] 3)).alloc (.cells #[.int .i64 0] 3)) (.cells #[.bool false] 4)
    simpa using this
  have hI0 : NInv w g n c A l p w.heap.size (w.heap.size + 1) (w.heap.size + 2) most 0 p W0 := ⟨h.out.far hb0, ⟨hbm, hbn, hbh, Int.le_refl _, hm, hmm, by omega, by omega⟩, (Only.of_below hb0 _)⟩
  have HWH := while_number g n c A l p Words.isDig (.pointer (some ⟨w.heap.size, 0, none⟩)) (.pointer (some ⟨w.heap.size + 1, 0, none⟩)) (.pointer (some ⟨w.heap.size + 2, 0, none⟩)) (NInv w g n c A l p w.heap.size (w.heap.size + 1) (w.heap.size + 2) most)
    (Lib.hid fun k q W hI => hI.1) (Lib.hid fun k q W W' hI hb => ⟨hI.1.far hb, hI.2.1.far hb, hI.2.2.trans (Only.of_below hb (fun _ => False)) fun _ h => h.elim⟩)
    (Lib.hid fun k q W hI hq => ⟨by have := hI.1.set (q := q + 1) (by omega); simpa using this, hI.2.1.other (by omega) (by omega) (by omega) _ _, hI.2.2.setCell (p := ⟨g, 1, none⟩) (.inl (.inl rfl)) _⟩)
    (Lib.hid fun k W hp hI => by
      refine (number1_any W _ _ _ most _ _ l[p + k] (Lib.hid hI.2.1)).mono ?_
      rintro e W' ⟨rfl, hn, ho⟩
      refine ⟨rfl, hI.1.only _ ho (fun b hb => by rcases hb with rfl | rfl <;> omega), ?_, hI.2.2.trans ho fun b hb => .inr (by rcases hb with rfl | rfl <;> omega)⟩
      have e1 : (l.drop p).take (k + 1) = (l.drop p).take k ++ [l[p + k]] := by rw [List.take_succ_eq_append_getElem (by rw [List.length_drop]; omega)]; simp
      cases hd : Words.isDig l[p + k] with
      | false => rw [hd] at hn; exact hn
      | true =>
        rw [hd] at hn
        simp only [if_true] at hn ⊢
        rw [e1, numGo_snoc]
        exact hn) W0 (Lib.hid hI0) hb
  obtain ⟨m, hme⟩ : ∃ m, m = lead Words.isDig (l.drop p) := ⟨_, rfl⟩
  rw [← hme] at HWH
  have hdl : Words.digs (l.drop p) = (l.drop p).take m := by rw [hme]; exact digs_lead _
  have hml : m ≤ n - p := by have := lead_len (l.drop p); rw [← hme, List.length_drop] at this; have := h.out.hn; omega
  have hpn := h.out.hp
  have HNU : Hid (if m = 0 ∨ (Words.numGo most (0, false) ((l.drop p).take m)).2 = true then a = 0 ∧ b = 71 ∧ d = 0 else a = (Words.numGo most (0, false) ((l.drop p).take m)).1 ∧ b = 0 ∧ d = m) := Lib.hid (by
    have h2 := hr.out
    have h3 : ((l.drop p).take m).length = m := by rw [List.length_take, List.length_drop]; have := h.out.hn; omega
    unfold Words.number at h2
    rw [hdl, h3] at h2
    split at h2 <;> rename_i hc
    · rw [if_pos hc]; cases h2; exact ⟨rfl, rfl, rfl⟩
    · rw [if_neg hc]; cases h2; exact ⟨rfl, rfl, rfl⟩)
  have HWH := Lib.hid HWH
  have HW0 := Lib.hid hW0
  rw [hW0] at HWH
  have HWD := Lib.hid (h.out.far ((Below.refl _ w).alloc (Nat.le_refl _) (.cells #[.int .i64 most] 3)))
  have HP1 := h.out.cells.2.1
  have hm1 : decide (most < 0) = false := decide_eq_false (by omega)
  clear hW0 hb0 hbm hbn hbh hI0 hme hdl hr
  go_enter Tryd.func11, Tryd.ntmps11
  go_wp2_with fail
  refine (none_no _ g n c p A l HWD).mono ?_
  rintro e w' ⟨rfl, rfl⟩
  go_wp2_with fail
  refine HWH.out.mono ?_
  clear HWH HP1 HWD
  rintro e w' ⟨rfl, HI⟩
  have HW := Lib.hid HI.out.1
  have HN := Lib.hid HI.out.2.1
  have HO := Lib.hid HI.out.2.2
  generalize Words.numGo most (0, false) ((l.drop p).take m) = s at HN HNU
  obtain ⟨v, hi⟩ := s
  have c2 := cell_of_row w' _ 0 _ _ (0, 0) HN.out.n
  have c3 := cell_of_row w' _ 0 _ _ (0, 0) HN.out.h
  simp at c2 c3
  obtain ⟨q0, q1, q2, q3⟩ := HW.out.cells
  have hOn : ∀ (w2 : World), Only (fun b => b = g ∨ w.heap.size ≤ b) w w2 → Only (fun b => b = g) w w2 := fun w2 ho => ⟨ho.os, ho.tape, ho.output, ho.size, fun x hx hn => ho.block x hx (by intro e; rcases e with e | e; exact hn e; omega)⟩
  have HON := Lib.hid hOn
  clear HI hOn
  by_cases h0 : m = 0
  · subst h0
    obtain ⟨rfl, rfl, rfl⟩ := HNU.out
    go_wp2_with fail
    go_ret2
    exact ⟨rfl, HW.out.set hpn, Lib.hid (HON.out _ (HO.out.setCell (p := ⟨g, 1, none⟩) (.inl (.inl rfl)) _))⟩
  · have d1 : ((m : Int) == 0) = false := by rw [beq_eq_false_iff_ne]; omega
    cases hi with
    | true =>
      obtain ⟨rfl, rfl, rfl⟩ : a = 0 ∧ b = 71 ∧ d = 0 := by have := HNU.out; rw [if_pos (.inr rfl)] at this; exact this
      go_wp2_with fail
      go_ret2
      exact ⟨rfl, Lib.hid (HW.out.set hpn), Lib.hid (HON.out _ (HO.out.setCell (p := ⟨g, 1, none⟩) (.inl (.inl rfl)) _))⟩
    | false =>
      obtain ⟨rfl, rfl, rfl⟩ : a = v ∧ b = 0 ∧ d = m := by have := HNU.out; rw [if_neg (by simp [h0])] at this; exact this
      go_wp2_with fail
      go_ret2
      exact ⟨rfl, HW, Lib.hid (HON.out _ HO.out)⟩
end Go.Proofs.YtooempbgpfhdcaaDoor
