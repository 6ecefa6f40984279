/- Bytes read back, the document's way: the walk of galleyref18.Back. Condition: room. -/
import Derived.Test.YtgbjcpnlllaeeaaDoorProg
import Derived.Test.YtgbjcpnlllaeeaaDoorRefRead
import Derived.Test.YtgbjcpnlllaeeaaDoorFoldRowsLib
namespace Go.Proofs.YtgbjcpnlllaeeaaDoor
open Go.RowKit

/-- What Back answers. -/
def RefBk (w : World) (r : Option (List UInt8)) (e : Ending) (w' : World) : Prop := ∃ A n c, e = .returned (.tuple #[.slice A n c, .bool r.isSome]) ∧ Hid (Own Rep.byte 5 w' w.heap.size nob (.slice A n c) (r.getD [])) ∧ n ≤ c ∧ c ≤ 9223372036854775807 ∧ Hid (Below w.heap.size w w')
theorem refBk_none {w w' : World} (h : Below w.heap.size w w') : RefBk w none (.returned (.tuple #[.slice none 0 0, .bool false])) w' := ⟨none, 0, 0, rfl, Lib.hid (Own.nil _ _ _ _), by omega, by omega, Lib.hid h⟩
section
variable (A : Option Addr) (n ca : Nat) (b : List UInt8) (w : World)
set_option maxRecDepth 100000 in
set_option maxHeartbeats 2000000 in
theorem refBack_bad (hn : Hid (n = b.length)) (hb : Hid (SliceAt Rep.byte w (under w.heap.size) A ca b)) (hs : [36, 10].isSuffixOf b = false) : Calls Tryd.prog 19 #[.slice A n ca] w (RefBk w (Fold.refBack b)) := by
  have hr : Fold.refBack b = none := by unfold Fold.refBack; rw [if_neg (by rw [hs]; simp)]
  rw [hr]
  have hnc : n ≤ ca := by rw [hn.out]; exact hb.out.len
  have hcm := hb.out.max
  by_cases h2 : n < 2
  · have h2' : (n : Int) < 2 := by omega
    clear hr hs
    go_enter Tryd.func19, Tryd.ntmps19
    go_wp2_with fail
    go_ret2
    exact refBk_none (Below.refl _ _)
  have h2' : decide ((n : Int) < 2) = false := decide_eq_false (by omega)
  have hl1 : n - 1 < b.length := by have := hn.out; omega
  have hl2 : n - 2 < b.length := by have := hn.out; omega
  obtain ⟨g, o, rfl, -, hc1⟩ := hb.out.byte hl1
  obtain ⟨g', o', he, -, hc2⟩ := hb.out.byte hl2
  simp only [Option.some.injEq, Addr.mk.injEq] at he
  obtain ⟨rfl, rfl, -⟩ := he
  have hbad : ¬ (b[n - 1].toNat = 10 ∧ b[n - 2].toNat = 36) := by
    rintro ⟨q1, q2⟩
    have hx1 : b[n - 1] = 10 := UInt8.toNat_inj.1 q1
    have hx2 : b[n - 2] = 36 := UInt8.toNat_inj.1 q2
    have : [36, 10].isSuffixOf b = true := by
      rw [List.isSuffixOf_iff_suffix]
      refine ⟨b.take (n - 2), ?_⟩
      have e1 : b.drop (n - 2) = [36, 10] := by
        rw [List.drop_eq_getElem_cons hl2, hx2, List.drop_eq_getElem_cons (by omega)]
        have e2 : n - 2 + 1 = n - 1 := by omega
        simp only [e2, hx1]
        rw [List.drop_of_length_le (by have := hn.out; omega)]
      rw [← e1, List.take_append_drop]
    rw [hs] at this
    cases this
  obtain ⟨x, hx⟩ : ∃ x, x = b[n - 1] := ⟨_, rfl⟩
  obtain ⟨y, hy⟩ : ∃ y, y = b[n - 2] := ⟨_, rfl⟩
  rw [← hx] at hc1 hbad
  rw [← hy] at hc2 hbad
  have h2n : 2 ≤ n := by omega
  clear hr hs hl1 hl2 hx hy h2
  by_cases h10 : x.toNat = 10
  · have h36 : y.toNat ≠ 36 := fun h => hbad ⟨h10, h⟩
    have e1 : ((x.toNat : Int) != 10) = false := by rw [h10]; rfl
    have e2 : ((y.toNat : Int) != 36) = true := by rw [bne_iff_ne]; omega
    have e2' : (y.toNat != 36) = true := by rw [bne_iff_ne]; exact h36
    rw [h10] at hc1
    clear hbad h10 h36 e1
    go_enter Tryd.func19, Tryd.ntmps19
    go_wp2_with fail
    go_ret2
    exact refBk_none (Below.refl _ _)
  · have e1 : ((x.toNat : Int) != 10) = true := by rw [bne_iff_ne]; omega
    have e1' : (x.toNat != 10) = true := by rw [bne_iff_ne]; exact h10
    clear hbad h10
    go_enter Tryd.func19, Tryd.ntmps19
    go_wp2_with fail
    go_ret2
    exact refBk_none (Below.refl _ _)
set_option maxRecDepth 100000 in
set_option maxHeartbeats 8000000 in
theorem refBack_good (hn : Hid (n = b.length)) (hb : Hid (SliceAt Rep.byte w (under w.heap.size) A ca b)) (h2n : 2 ≤ n) (hsize : n ≤ 4294967296) (hs : [36, 10].isSuffixOf b = true) : Calls Tryd.prog 19 #[.slice A n ca] w (RefBk w (Fold.refBack b)) := by
  have hnc : n ≤ ca := by rw [hn.out]; exact hb.out.len
  have hcm := hb.out.max
  obtain ⟨T, hT⟩ : ∃ T, T = b.take (n - 2) := ⟨_, rfl⟩
  have hTn : n - 2 = T.length := by rw [hT, List.length_take]; have := hn.out; omega
  have hbT : b = T ++ [36, 10] := by
    obtain ⟨t, ht⟩ := List.isSuffixOf_iff_suffix.1 hs
    have : T = t := by
      rw [hT, ← ht]
      exact List.take_left' (by have := congrArg List.length ht; simp at this; have := hn.out; omega)
    rw [this, ht]
  have href : Fold.refBack b = match Fold.decGo n true T with | none => none | some x => if Fold.Row (Fold.leastGo 0 4 b) x = b then some x else none := by
    unfold Fold.refBack
    rw [if_pos hs, ← hn.out, ← hT]
    cases Fold.decGo n true T <;> rfl
  have h2' : decide ((n : Int) < 2) = false := decide_eq_false (by omega)
  have hbl : b.length = n := hn.out.symm
  obtain ⟨g, o, rfl, hg0, -⟩ := hb.out.byte (i := 0) (by omega)
  have hcell : ∀ wr i, Below w.heap.size w wr → (h : i < b.length) → wr.cell? ⟨g, o + i, none⟩ = some (.int .u8 b[i].toNat) := fun wr i hbw h => by
    obtain ⟨g', o', he, -, hc⟩ := hb.out.byte h
    simp only [Option.some.injEq, Addr.mk.injEq] at he
    obtain ⟨rfl, rfl, -⟩ := he
    exact (hbw.cell (p := ⟨g, o + i, none⟩) hg0).trans hc
  have hc1 := hcell w (n - 1) (Below.refl _ _) (by omega)
  have hc2 := hcell w (n - 2) (Below.refl _ _) (by omega)
  have hq1 : b[n - 1]? = some 10 := by rw [hbT, List.getElem?_append_right (by omega), show n - 1 - T.length = 1 by omega]; rfl
  have hq2 : b[n - 2]? = some 36 := by rw [hbT, List.getElem?_append_right (by omega), show n - 2 - T.length = 0 by omega]; rfl
  have hb1 : b[n - 1]'(by omega) = 10 := by rw [List.getElem?_eq_getElem (by omega)] at hq1; simpa using hq1
  have hb2 : b[n - 2]'(by omega) = 36 := by rw [List.getElem?_eq_getElem (by omega)] at hq2; simpa using hq2
  rw [hb1] at hc1
  rw [hb2] at hc2
  have hTs : ∀ wr, Below w.heap.size w wr → SliceAt Rep.byte wr (under wr.heap.size) (some ⟨g, o, none⟩) ca T := fun wr hbw => by
    rw [hT]
    exact (((hb.out.keep (fun _ h => h) (Same.of_below hbw fun _ h => h)).cutTo (by omega)).up fun _ h => Nat.lt_of_lt_of_le h hbw.size)
  have hbt : ∀ i (h : i < b.length) (h' : i < T.length), b[i] = T[i] := fun i h h' => by simp [hbT, List.getElem_append_left h']
  have HCELL := Lib.hid hcell
  have HTS := Lib.hid hTs
  have HTN := Lib.hid hTn
  have HREF := Lib.hid href
  have HBT := Lib.hid hbt
  have HB36 := Lib.hid hq2
  clear hs hT hTn hbT href hcell hTs hb1 hb2 hbt hq1 hq2 hbl
  go_enter Tryd.func19, Tryd.ntmps19
  go_wp2_with fail
  clear hc1 hc2
  go_loopg [5, 6] (n - 2) (fun k vo av wr => ∃ (p f : Nat) (x : List UInt8), p ≤ n - 2 ∧ av = .int .i64 p ∧ k = n - 2 - p ∧ Hid (Own Rep.byte 5 wr w.heap.size nob vo x) ∧ Hid (Below w.heap.size w wr) ∧ Hid (Fold.decGo n true T = (Fold.decGo f (decide (p = 0)) (T.drop p)).map (x ++ ·)) ∧ n - 2 - p ≤ f ∧ x.length ≤ p)
  case atStart => exact ⟨0, n, [], Nat.zero_le _, rfl, rfl, Lib.hid (Own.nil _ _ _ _), Lib.hid (Below.refl _ _), Lib.hid (by simp), by omega, by simp⟩
  case round =>
    obtain ⟨p, f, x, hp, rfl, rfl, HO, HB, HD, hf, hx⟩ := hrel
    by_cases hlt : p < n - 2
    · have hpb : p < b.length := by have := hn.out; omega
      have hpb1 : p + 1 < b.length := by have := hn.out; omega
      have hc1 := HCELL.out wr p HB.out hpb
      have hc2 := HCELL.out wr (p + 1) HB.out hpb1
      have hpT : p < T.length := by have := HTN.out; omega
      have hdr : T.drop p = T[p] :: T.drop (p + 1) := List.drop_eq_getElem_cons hpT
      obtain ⟨X, hX⟩ : ∃ X, X = b[p] := ⟨_, rfl⟩
      obtain ⟨Y, hY⟩ : ∃ Y, Y = b[p + 1] := ⟨_, rfl⟩
      have hXT : T[p] = X := by rw [hX]; exact (HBT.out p hpb hpT).symm
      rw [← hX] at hc1
      rw [← hY] at hc2
      rw [hXT] at hdr
      have hYT : Y.toNat = 10 → ∃ h : p + 1 < T.length, T[p + 1] = Y := fun h10 => by
        rcases Nat.lt_or_ge (p + 1) T.length with h | h
        · exact ⟨h, by rw [hY]; exact (HBT.out (p + 1) hpb1 h).symm⟩
        · exfalso
          have e1 : p + 1 = n - 2 := by have := HTN.out; omega
          have e2 : Y = 36 := by
            have h36 := HB36.out
            rw [← e1, List.getElem?_eq_getElem hpb1, ← hY] at h36
            simpa using h36
          rw [e2] at h10
          exact absurd h10 (by decide)
      have hpre : [92, 10].isPrefixOf (T.drop p) = true ↔ X.toNat = 92 ∧ Y.toNat = 10 := by
        constructor
        · intro h
          obtain ⟨t, ht⟩ := List.isPrefixOf_iff_prefix.1 h
          have h1 : p + 1 < T.length := by have := congrArg List.length ht; simp at this; omega
          rw [hdr, List.drop_eq_getElem_cons h1] at ht
          simp only [List.cons_append, List.nil_append, List.cons.injEq] at ht
          refine ⟨by rw [← ht.1]; rfl, ?_⟩
          have : b[p + 1] = T[p + 1] := HBT.out (p + 1) hpb1 h1
          rw [hY, this, ← ht.2.1]; rfl
        · rintro ⟨h1, h2⟩
          obtain ⟨h, hy⟩ := hYT h2
          rw [hdr, List.drop_eq_getElem_cons h, hy, show X = 92 from UInt8.toNat_inj.1 h1, show Y = 10 from UInt8.toNat_inj.1 h2]
          rfl
      have HPRE := Lib.hid hpre
      have HDR := Lib.hid hdr
      have hrd := Fold.readGo_one (T.drop p) 256 0 rfl (fun d hd => absurd hd (by omega))
      have HRD := Lib.hid hrd
      obtain ⟨f, rfl⟩ : ∃ j, f = j + 1 := ⟨f - 1, by omega⟩
      have hp1 : p + 1 < n := by omega
      clear hpb hpb1 hpT hdr hX hY hXT hYT hpre hrd
      by_cases hskip : 0 < p ∧ X.toNat = 92 ∧ Y.toNat = 10
      · obtain ⟨h0, hX92, hY10⟩ := hskip
        have hnew : Fold.decGo n true T = (Fold.decGo f (decide (p + 2 = 0)) (T.drop (p + 2))).map (x ++ ·) := by
          rw [HD.out, show decide (p = 0) = false from decide_eq_false (by omega), Fold.decGo_skip _ _ (HPRE.out.2 ⟨hX92, hY10⟩), List.drop_drop, show decide (p + 2 = 0) = false from decide_eq_false (by omega)]
        have hp2 : p + 2 ≤ n - 2 := by
          have h := HPRE.out.2 ⟨hX92, hY10⟩
          have := (List.isPrefixOf_iff_prefix.1 h).length_le
          simp at this
          have := HTN.out
          omega
        have HNEW := Lib.hid hnew
        rw [hX92] at hc1
        rw [hY10] at hc2
        clear hnew hX92 hY10
        go_wp2_with fail
        go_roundg (n - 2 - (p + 2))
        case measure => omega
        case rel => exact ⟨p + 2, f, x, hp2, by go_num, rfl, HO, HB, HNEW, by omega, by omega⟩
      have hdec : Fold.decGo (f + 1) (decide (p = 0)) (T.drop p) = if (Fold.one (T.drop p)).2 = 0 then none else (Fold.decGo f false ((T.drop p).drop (Fold.one (T.drop p)).2)).map ((Fold.one (T.drop p)).1 :: ·) := by
        refine Fold.decGo_one _ _ _ (by rw [HDR.out]; simp) ?_
        by_cases h0 : p = 0
        · simp [h0]
        · have : [92, 10].isPrefixOf (T.drop p) = false := by
            rw [← Bool.not_eq_true, HPRE.out]
            exact fun h => hskip ⟨by omega, h.1, h.2⟩
          rw [this]; simp
      have HDEC := Lib.hid (HD.out.trans (congrArg (Option.map (x ++ ·)) hdec))
      clear hdec
      rcases (by omega : p = 0 ∨ (0 < p ∧ X.toNat ≠ 92) ∨ (0 < p ∧ X.toNat = 92 ∧ Y.toNat ≠ 10)) with h0 | ⟨h0, hx92⟩ | ⟨h0, hx92, hy10⟩
      · subst h0
        clear hskip
        go_wp2_with fail
        refine (refRead_any (some ⟨g, o, none⟩) (n - 2) ca 0 T wr HTN.out (HTS.out wr HB.out) (by omega) (by omega)).mono ?_
        rintro e w2 ⟨rfl, hb2⟩
        have HB2 := Lib.hid (HB.out.trans (hb2.mono HB.out.size))
        have HO2 := Lib.hid (HO.out.far hb2)
        clear hb2
        rw [HRD.out]
        by_cases hz : (Fold.one (T.drop 0)).2 = 0
        · rw [if_pos hz]
          have hnone : Fold.refBack b = none := by rw [HREF.out, HDEC.out, if_pos hz]; rfl
          have HNONE := Lib.hid hnone
          clear hz hnone
          go_wp2_with fail
          go_ret2
          rw [HNONE.out]
          exact refBk_none HB2.out
        · rw [if_neg hz]
          have hle := Fold.one_le (T.drop 0)
          have hne1 : T.drop 0 ≠ [] := fun h => by rw [h] at hz; exact hz rfl
          obtain ⟨c, hc⟩ : ∃ c, c = (Fold.one (T.drop 0)).1 := ⟨_, rfl⟩
          obtain ⟨m, hm⟩ : ∃ m, m = (Fold.one (T.drop 0)).2 := ⟨_, rfl⟩
          have hnew : Fold.decGo n true T = (Fold.decGo f false (T.drop m)).map ((x ++ [c]) ++ ·) := by
            rw [HDEC.out, if_neg hz, ← hc, ← hm, List.drop_drop, Nat.zero_add]
            cases Fold.decGo f false (T.drop m) <;> simp
          rw [← hc, ← hm]
          have HNEW := Lib.hid hnew
          have hm0 : 0 < m := by omega
          have hml : m ≤ n - 2 := by have := HTN.out; rw [List.length_drop] at hle; omega
          have hmk : ((m : Int) == 0) = false := by rw [beq_eq_false_iff_ne]; omega
          have hmk2 : (m == 0) = false := by rw [beq_eq_false_iff_ne]; omega
          clear hz hle hne1 hc hm hnew
          go_wp2_with (at_builtin; refine wpList_append_bytes _ rfl (.tmp 65) (.tmp 67) 22 rfl w.heap.size 5 stBytes _ _ rfl (HO2.out.alloc _) _ _ _ _ [c] rfl (SliceAt.newBytes _ _ _ [c] 1 (by simp) (by simp [maxLen]) rfl) rfl (by omega) (by have := HB2.out.size; simp; omega) ?_; intro v3 w3 hown3 hg3 hat3; have HO3 := Lib.hid hown3; have HB3 := Lib.hid (below_own (HB2.out.alloc HB2.out.size _) (HO2.out.alloc _) hg3 (by have := HB2.out.size; simp; omega)); clear hown3 hg3 hat3)
          go_roundg (n - 2 - m)
          case measure => omega
          case rel => exact ⟨m, f, _, by omega, by go_num, rfl, HO3, HB3, Lib.hid (by rw [show decide (m = 0) = false from decide_eq_false (by omega)]; exact HNEW.out), by omega, by simp; omega⟩
      · have e1 : ((X.toNat : Int) == 92) = false := by rw [beq_eq_false_iff_ne]; omega
        have e1' : (X.toNat == 92) = false := by rw [beq_eq_false_iff_ne]; exact hx92
        clear hskip hx92
        go_wp2_with fail
        refine (refRead_any (some ⟨g, o, none⟩) (n - 2) ca p T wr HTN.out (HTS.out wr HB.out) (by omega) (by omega)).mono ?_
        rintro e w2 ⟨rfl, hb2⟩
        have HB2 := Lib.hid (HB.out.trans (hb2.mono HB.out.size))
        have HO2 := Lib.hid (HO.out.far hb2)
        clear hb2
        rw [HRD.out]
        by_cases hz : (Fold.one (T.drop p)).2 = 0
        · rw [if_pos hz]
          have hnone : Fold.refBack b = none := by rw [HREF.out, HDEC.out, if_pos hz]; rfl
          have HNONE := Lib.hid hnone
          clear hz hnone
          go_wp2_with fail
          go_ret2
          rw [HNONE.out]
          exact refBk_none HB2.out
        · rw [if_neg hz]
          have hle := Fold.one_le (T.drop p)
          have hne1 : T.drop p ≠ [] := fun h => by rw [h] at hz; exact hz rfl
          obtain ⟨c, hc⟩ : ∃ c, c = (Fold.one (T.drop p)).1 := ⟨_, rfl⟩
          obtain ⟨m, hm⟩ : ∃ m, m = (Fold.one (T.drop p)).2 := ⟨_, rfl⟩
          have hnew : Fold.decGo n true T = (Fold.decGo f false (T.drop (p + m))).map ((x ++ [c]) ++ ·) := by
            rw [HDEC.out, if_neg hz, ← hc, ← hm, List.drop_drop]
            cases Fold.decGo f false (T.drop (p + m)) <;> simp
          rw [← hc, ← hm]
          have HNEW := Lib.hid hnew
          have hm0 : 0 < m := by omega
          have hml : p + m ≤ n - 2 := by have := HTN.out; rw [List.length_drop] at hle; omega
          have hmk : ((m : Int) == 0) = false := by rw [beq_eq_false_iff_ne]; omega
          have hmk2 : (m == 0) = false := by rw [beq_eq_false_iff_ne]; omega
          clear hz hle hne1 hc hm hnew
          go_wp2_with (at_builtin; refine wpList_append_bytes _ rfl (.tmp 65) (.tmp 67) 22 rfl w.heap.size 5 stBytes _ _ rfl (HO2.out.alloc _) _ _ _ _ [c] rfl (SliceAt.newBytes _ _ _ [c] 1 (by simp) (by simp [maxLen]) rfl) rfl (by omega) (by have := HB2.out.size; simp; omega) ?_; intro v3 w3 hown3 hg3 hat3; have HO3 := Lib.hid hown3; have HB3 := Lib.hid (below_own (HB2.out.alloc HB2.out.size _) (HO2.out.alloc _) hg3 (by have := HB2.out.size; simp; omega)); clear hown3 hg3 hat3)
          go_roundg (n - 2 - (p + m))
          case measure => omega
          case rel => exact ⟨p + m, f, _, by omega, by go_num, rfl, HO3, HB3, Lib.hid (by rw [show decide (p + m = 0) = false from decide_eq_false (by omega)]; exact HNEW.out), by omega, by simp; omega⟩
      · have e1 : ((Y.toNat : Int) == 10) = false := by rw [beq_eq_false_iff_ne]; omega
        have e1' : (Y.toNat == 10) = false := by rw [beq_eq_false_iff_ne]; exact hy10
        rw [hx92] at hc1
        clear hskip hx92 hy10
        go_wp2_with fail
        refine (refRead_any (some ⟨g, o, none⟩) (n - 2) ca p T wr HTN.out (HTS.out wr HB.out) (by omega) (by omega)).mono ?_
        rintro e w2 ⟨rfl, hb2⟩
        have HB2 := Lib.hid (HB.out.trans (hb2.mono HB.out.size))
        have HO2 := Lib.hid (HO.out.far hb2)
        clear hb2
        rw [HRD.out]
        by_cases hz : (Fold.one (T.drop p)).2 = 0
        · rw [if_pos hz]
          have hnone : Fold.refBack b = none := by rw [HREF.out, HDEC.out, if_pos hz]; rfl
          have HNONE := Lib.hid hnone
          clear hz hnone
          go_wp2_with fail
          go_ret2
          rw [HNONE.out]
          exact refBk_none HB2.out
        · rw [if_neg hz]
          have hle := Fold.one_le (T.drop p)
          have hne1 : T.drop p ≠ [] := fun h => by rw [h] at hz; exact hz rfl
          obtain ⟨c, hc⟩ : ∃ c, c = (Fold.one (T.drop p)).1 := ⟨_, rfl⟩
          obtain ⟨m, hm⟩ : ∃ m, m = (Fold.one (T.drop p)).2 := ⟨_, rfl⟩
          have hnew : Fold.decGo n true T = (Fold.decGo f false (T.drop (p + m))).map ((x ++ [c]) ++ ·) := by
            rw [HDEC.out, if_neg hz, ← hc, ← hm, List.drop_drop]
            cases Fold.decGo f false (T.drop (p + m)) <;> simp
          rw [← hc, ← hm]
          have HNEW := Lib.hid hnew
          have hm0 : 0 < m := by omega
          have hml : p + m ≤ n - 2 := by have := HTN.out; rw [List.length_drop] at hle; omega
          have hmk : ((m : Int) == 0) = false := by rw [beq_eq_false_iff_ne]; omega
          have hmk2 : (m == 0) = false := by rw [beq_eq_false_iff_ne]; omega
          clear hz hle hne1 hc hm hnew
          go_wp2_with (at_builtin; refine wpList_append_bytes _ rfl (.tmp 65) (.tmp 67) 22 rfl w.heap.size 5 stBytes _ _ rfl (HO2.out.alloc _) _ _ _ _ [c] rfl (SliceAt.newBytes _ _ _ [c] 1 (by simp) (by simp [maxLen]) rfl) rfl (by omega) (by have := HB2.out.size; simp; omega) ?_; intro v3 w3 hown3 hg3 hat3; have HO3 := Lib.hid hown3; have HB3 := Lib.hid (below_own (HB2.out.alloc HB2.out.size _) (HO2.out.alloc _) hg3 (by have := HB2.out.size; simp; omega)); clear hown3 hg3 hat3)
          go_roundg (n - 2 - (p + m))
          case measure => omega
          case rel => exact ⟨p + m, f, _, by omega, by go_num, rfl, HO3, HB3, Lib.hid (by rw [show decide (p + m = 0) = false from decide_eq_false (by omega)]; exact HNEW.out), by omega, by simp; omega⟩
    · have e0 : n - 2 = p := by omega
      subst e0
      have hdec : Fold.decGo n true T = some x := by
        rw [HD.out, List.drop_of_length_le (by have := HTN.out; omega), Fold.decGo_nil]
        simp
      have href2 : Fold.refBack b = if Fold.Row (Fold.leastGo 0 4 b) x = b then some x else none := by rw [HREF.out, hdec]
      have HREF2 := Lib.hid href2
      obtain ⟨A5, n5, c5, rfl, hn5, hnc5, hcm5⟩ := HO.out.form
      have hl4 := Fold.leastGo_ge b 0 4
      obtain ⟨L, hL⟩ : ∃ L, L = Fold.leastGo 0 4 b := ⟨_, rfl⟩
      rw [← hL] at hl4
      have HL := Lib.hid hL
      have hn5' : n5 ≤ n := by have := hn5.out; omega
      clear hdec href2 hlt hL
      go_wp2_with fail
      refine (least_any (some ⟨g, o, none⟩) n ca b wr hn _ (hb.out.keep (fun _ h => h) (Same.of_below HB.out fun _ h => h))).mono ?_
      rintro e w' ⟨rfl, hw⟩
      have hw' := hw.symm
      clear hw
      subst hw'
      rw [← HL.out]
      go_wp2_with fail
      obtain ⟨A5', n5', c5', he5, hn5', -, -, hs5⟩ := HO.out.read
      simp only [Value.slice.injEq] at he5
      obtain ⟨rfl, rfl, rfl⟩ := he5
      refine (rRow A5 n5 c5 L (L : Int) x wr hn5.out (hs5.up (btw_under (Nat.le_refl _))) (by omega) (by omega)).mono ?_
      clear hs5
      rintro e w9 ⟨A9, n9, c9, rfl, HO9, hc9, hm9, HB9⟩
      have HB9' := Lib.hid (HB.out.trans (HB9.out.mono HB.out.size))
      have HO5 := Lib.hid (HO.out.far HB9.out)
      obtain ⟨A9', n9', c9', he9, hn9, -, -, hs9⟩ := HO9.out.read
      simp only [Value.slice.injEq] at he9
      obtain ⟨rfl, rfl, rfl⟩ := he9
      have HS9 := Lib.hid hs9
      have hl9 : n9 ≤ 6 * n5 + 2 := by have := Fold.row_len L x; have := hn9.out; have := hn5.out; omega
      clear hs9
      by_cases hlen : n9 = n
      · have hlen' := hlen.symm
        clear hlen
        subst hlen'
        obtain ⟨R, hR⟩ : ∃ R, R = Fold.Row L x := ⟨_, rfl⟩
        rw [← hR] at HS9 hn9
        have HRE := Lib.hid hR
        have HN9 := Lib.hid hn9.out
        have hnn : (n != n) = false := by simp
        clear hR hn9
        go_wp2_with fail
        obtain ⟨wx, rfl⟩ : ∃ wx : World, wx = w9 := ⟨_, rfl⟩
        go_loopg [10] n (fun k iv wr => ∃ i nd : Nat, i ≤ n ∧ iv = .int .i64 i ∧ k = n - i ∧ wr = wx.drewN nd ∧ Hid (R.take i = b.take i))
        case atStart => exact ⟨0, 0, Nat.zero_le _, rfl, rfl, rfl, Lib.hid (by simp)⟩
        case round =>
          obtain ⟨i, nd, hi, rfl, rfl, hwr, HT⟩ := hrel
          by_cases hin : i < n
          · have hir : i < R.length := by have := HN9.out; omega
            have hib : i < b.length := by have := hn.out; omega
            obtain ⟨g9, o9, rfl, -, hc9⟩ := HS9.out.byte hir
            have hcb := HCELL.out wx i HB9'.out hib
            obtain ⟨W, hW⟩ : ∃ W, W = wx.drewN nd := ⟨_, rfl⟩
            have e0 : ∀ a, W.cell? a = wx.cell? a := fun a => by rw [hW]; rfl
            rw [← e0] at hc9 hcb
            have HW := Lib.hid hW
            have hwr' := hwr.trans hW.symm
            clear hwr hW e0
            subst hwr'
            by_cases he : R[i] = b[i]
            · have HE := Lib.hid he
              rw [← he] at hcb
              generalize R[i] = y at hc9 hcb
              have HIR := Lib.hid hir
              have HIB := Lib.hid hib
              clear he
              go_wp2_with fail
              go_quiet (fail)
              go_wp2_with fail
              go_roundg (n - (i + 1))
              case measure => omega
              case rel => exact ⟨i + 1, nd + nq, by omega, by go_num, rfl, by rw [HW.out]; exact World.drewN_drewN _ _ _, Lib.hid (take_succ_eq HT.out HIR.out HIB.out HE.out)⟩
            · have hnone : Fold.refBack b = none := by
                rw [HREF2.out, ← HL.out, if_neg]
                rw [← HRE.out]
                exact of_decide_eq_false (ne_of_at hir hib he)
              have HNONE := Lib.hid hnone
              obtain ⟨y, hy⟩ : ∃ y, y = R[i] := ⟨_, rfl⟩
              obtain ⟨z, hz⟩ : ∃ z, z = b[i] := ⟨_, rfl⟩
              rw [← hy] at hc9 he
              rw [← hz] at hcb he
              have hne : ((y.toNat : Int) != (z.toNat : Int)) = true := by rw [bne_iff_ne]; intro h; exact he (UInt8.toNat_inj.1 (by omega))
              have hne2 : (y.toNat != z.toNat) = true := by rw [bne_iff_ne]; intro h; exact he (UInt8.toNat_inj.1 h)
              clear he hnone hy hz
              go_wp2_with fail
              go_quiet (fail)
              go_wp2_with fail
              go_ret2
              rw [HNONE.out]
              exact refBk_none (by rw [HW.out]; exact HB9'.out.trans ⟨rfl, rfl, rfl, Nat.le_refl _, fun _ _ => rfl⟩)
          · have e0 : n = i := by omega
            subst e0
            have hsome : Fold.refBack b = some x := by
              rw [HREF2.out, ← HL.out, if_pos]
              have := HT.out
              rw [List.take_of_length_le (by have := HN9.out; omega), List.take_of_length_le (by have := hn.out; omega)] at this
              rw [← HRE.out]
              exact this
            have HSOME := Lib.hid hsome
            clear hsome hin
            subst hwr
            go_wp2_with fail
            go_ret2
            rw [HSOME.out]
            exact ⟨A5, n5, c5, rfl, Lib.hid (HO5.out.drewN nd), hnc5, hcm5, Lib.hid (HB9'.out.trans ⟨rfl, rfl, rfl, Nat.le_refl _, fun _ _ => rfl⟩)⟩
      · have hnone : Fold.refBack b = none := by
          rw [HREF2.out, ← HL.out, if_neg]
          intro h
          have := congrArg List.length h
          have := hn9.out
          have := hn.out
          omega
        have HNONE := Lib.hid hnone
        have e1 : ((n9 : Int) != (n : Int)) = true := by rw [bne_iff_ne]; omega
        have e1' : (n9 != n) = true := by rw [bne_iff_ne]; exact hlen
        clear hnone hlen
        go_wp2_with fail
        go_ret2
        rw [HNONE.out]
        exact refBk_none HB9'.out
theorem refBack_any (hn : Hid (n = b.length)) (hb : Hid (SliceAt Rep.byte w (under w.heap.size) A ca b)) (hsize : n ≤ 4294967296) : Calls Tryd.prog 19 #[.slice A n ca] w (RefBk w (Fold.back b)) := by
  rw [← Fold.refBack_eq b (by have := hn.out; omega)]
  cases hs : [36, 10].isSuffixOf b with
  | false => exact refBack_bad A n ca b w hn hb hs
  | true =>
    have hl := (List.isSuffixOf_iff_suffix.1 hs).length_le
    exact refBack_good A n ca b w hn hb (by have := hn.out; simp at hl; omega) hsize hs
end
end Go.Proofs.YtgbjcpnlllaeeaaDoor
