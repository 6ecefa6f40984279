/- Texts that lead to the claim, one behind the other: Are too many nodes nested: the walk of galleyref00.Beyond (that it answers, whatever). No conditions. | Is a command beyond the bound: the walk of the law's beyond. Condition: the reach. -/
import Derived.Test.YtnpideapdjomgaaDoorRA11
import Derived.Test.YtnpideapdjomgaaDoorRA23
import Derived.Test.YtnpideapdjomgaaDoorRA17
import Derived.Test.YtnpideapdjomgaaDoorRA4
import Derived.Deep.Cut
import Derived.Deep.CutBlock
import Derived.Deep.LoopGhost
import Derived.Test.YtnpideapdjomgaaDoorRA12
import Derived.Test.YtnpideapdjomgaaDoorRA25
namespace Go.Proofs.YtnpideapdjomgaaDoor
open Go.RowKit Go.ChangeShapes Go.WideShapes Go.Deep

theorem Own.at0 {α : Type} {r : Rep α} {e : TypeId} {W : World} {base : Nat} {S : Blocks} {A : Option Addr} {n c : Nat} {l : List α} (h : Own r e W base S (.slice A n c) l) (hl : 0 < l.length) : ∃ g, A = some ⟨g, 0, none⟩ ∧ base ≤ g ∧ g < W.heap.size := by
  obtain ⟨xs, hx, _⟩ := h
  have hlt := hx.lt
  obtain ⟨_, hv⟩ := hx
  rcases hv with ⟨hh, h0⟩ | ⟨g, cap, cur, hh, hb, hg, _⟩
  · omega
  · simp only [Value.slice.injEq] at hh
    exact ⟨g, hh.1, hb, (Array.getElem?_eq_some_iff.1 hg).1⟩
theorem stIntsB : SliceType Tryd.prog 25 3 1 8 := SliceType.mk' (z := .int .i64 0) Tryd.underlying25 (by kernel_rfl) rfl (by omega)
set_option maxRecDepth 100000 in
set_option maxHeartbeats 8000000 in
theorem beyondNd_any (A : Option Addr) (n c : Nat) (l : List Nd) (w : World) (S : Blocks) (hn : Hid (n = l.length)) (hl : Hid (SliceAt Rep.nd w S A c l)) (hS : Hid (∀ b, S b → b < w.heap.size)) :
    Calls Tryd.prog 17 #[.slice A n c] w fun e w' => (∃ b : Bool, e = .returned (.bool b)) ∧ Below w.heap.size w w' := by
  have hnc : n ≤ c := by rw [hn.out]; exact hl.out.len
  have hcm := hl.out.max
  go_enter Tryd.func17, Tryd.ntmps17
  go_wp2_with fail
  go_loopg [3, 4] n (fun k v3 v4 wr => ∃ (i : Nat) (A3 : Option Addr) (n3 c3 : Nat) (os : List Int), i ≤ n ∧ v4 = .int .i64 i ∧ k = n - i ∧ v3 = .slice A3 n3 c3 ∧ n3 ≤ c3 ∧ c3 ≤ 9223372036854775807 ∧ n3 ≤ 65536 ∧ Hid (n3 = os.length) ∧ Hid (Own (Rep.int .i64) 3 wr w.heap.size nob (.slice A3 n3 c3) os) ∧ Hid (Below w.heap.size w wr))
  case atStart => exact ⟨0, none, 0, 0, [], Nat.zero_le _, rfl, rfl, rfl, Nat.le_refl _, by omega, by omega, Lib.hid rfl, Lib.hid (Own.nil _ _ _ _), Lib.hid (Below.refl _ _)⟩
  case round =>
    obtain ⟨i, A3, n3, c3, os, hi, rfl, hk, rfl, hnc3, hcm3, h65, HN3, HO, HB⟩ := hrel
    have HK := Lib.hid hk
    clear hk
    obtain ⟨w1, rfl⟩ : ∃ W : World, W = wr := ⟨_, rfl⟩
    by_cases hin : i < n
    · have hil : i < l.length := by rw [← hn.out]; exact hin
      have HIL := Lib.hid hil
      go_upto_block 2 with fail
      go_cut [3] from 11 to 27 (fun v3 wc => ∃ (A4 : Option Addr) (n4 c4 : Nat) (ps : List Int), v3 = .slice A4 n4 c4 ∧ n4 ≤ c4 ∧ c4 ≤ 9223372036854775807 ∧ n4 ≤ 65536 ∧ Hid (n4 = ps.length) ∧ Hid (Own (Rep.int .i64) 3 wc w.heap.size nob (.slice A4 n4 c4) ps) ∧ Hid (Below w.heap.size w wc) ∧ Hid (∀ x, ps[n4 - 1]? = some x → 0 < x))
      case first =>
        go_wp2_with fail
        go_loopg [3] n3 (fun gk v wr => ∃ (k : Nat) (A4 : Option Addr) (c4 : Nat) (ps : List Int), gk = k ∧ v = .slice A4 k c4 ∧ k ≤ c4 ∧ c4 ≤ 9223372036854775807 ∧ k ≤ 65536 ∧ Hid (k = ps.length) ∧ Hid (Own (Rep.int .i64) 3 wr w.heap.size nob (.slice A4 k c4) ps) ∧ Hid (Below w.heap.size w wr))
        case atStart => exact ⟨n3, A3, c3, os, rfl, rfl, hnc3, hcm3, h65, HN3, HO, HB⟩
        case round =>
          obtain ⟨k, A4, c4, ps, hgk, rfl, hkc, hcm4, hk65, HK4, HO4, HB4⟩ := hrel
          have HGK := Lib.hid hgk
          clear hgk
          rcases Nat.eq_zero_or_pos k with hk0 | hk0
          · subst hk0
            go_wp2_with fail
            go_meet
            case rel => exact ⟨A4, 0, c4, ps, rfl, hkc, hcm4, hk65, HK4, HO4, HB4, Lib.hid fun x hx => by
              have := HK4.out
              rw [List.getElem?_eq_none (by omega)] at hx; cases hx⟩
          · obtain ⟨j, rfl⟩ : ∃ j, k = j + 1 := ⟨k - 1, by omega⟩
            have hj : j < ps.length := by rw [← HK4.out]; omega
            obtain ⟨A', c', he, hso⟩ := HO4.out.slice
            simp only [Value.slice.injEq] at he
            obtain ⟨rfl, -, rfl⟩ := he
            obtain ⟨go, oo, rfl, xo⟩ := num_at22 hso (Same.refl _ _) (i := j) hj
            obtain ⟨x, hx⟩ : ∃ x, x = ps[j] := ⟨_, rfl⟩
            rw [← hx] at xo
            have HX : Hid (ps[j]? = some x) := Lib.hid (by rw [hx]; exact List.getElem?_eq_getElem hj)
            clear hso hx
            by_cases hx0 : x ≤ 0
            · go_wp2_with fail
              go_roundg j
              case measure => have := HGK.out; omega
              case rel => exact ⟨j, _, c4, ps.take j, rfl, rfl, by omega, hcm4, by omega, Lib.hid (by rw [List.length_take]; omega), Lib.hid (HO4.out.cutEnd (by omega)), HB4⟩
            · go_wp2_with fail
              go_meet
              case rel => exact ⟨_, j + 1, c4, ps, rfl, hkc, hcm4, hk65, HK4, HO4, HB4, Lib.hid fun y hy => by
                rw [Nat.add_sub_cancel, HX.out] at hy
                injection hy with hy
                omega⟩
      case rest =>
        obtain ⟨A4, n4, c4, ps, rfl, hnc4, hcm4, h465, HN4, HO4, HB4, HPOS⟩ := hcut
        obtain ⟨w2, rfl⟩ : ∃ W : World, W = wc := ⟨_, rfl⟩
        clear HO HB HN3 hnc3 hcm3 h65
        go_upto_if 30 with fail
        go_cut [] from 30 to 42 (fun wc => ∃ (qs : List Int), Hid (n4 = qs.length) ∧ Hid (Own (Rep.int .i64) 3 wc w.heap.size nob (.slice A4 n4 c4) qs) ∧ Hid (Below w.heap.size w wc))
        case first =>
          rcases Nat.eq_zero_or_pos n4 with h0 | h0
          · subst h0
            go_wp2_with fail
            go_meet
            case rel => exact ⟨ps, HN4, HO4, HB4⟩
          · obtain ⟨j, rfl⟩ : ∃ j, n4 = j + 1 := ⟨n4 - 1, by omega⟩
            have hj : j < ps.length := by rw [← HN4.out]; omega
            obtain ⟨gq, rfl, hgl, hgs⟩ := HO4.out.at0 (by omega)
            obtain ⟨A', c', he, hso⟩ := HO4.out.slice
            simp only [Value.slice.injEq] at he
            obtain ⟨he1, -, rfl⟩ := he
            obtain ⟨go, oo, he2, xo⟩ := num_at22 hso (Same.refl _ _) (i := j) hj
            rw [← he1] at he2
            cases he2
            rw [Nat.zero_add] at xo
            obtain ⟨x, hx⟩ : ∃ x, x = ps[j] := ⟨_, rfl⟩
            rw [← hx] at xo
            have hxp : 0 < x := HPOS.out x (by rw [Nat.add_sub_cancel, hx]; exact List.getElem?_eq_getElem hj)
            have hwf : x ≤ 9223372036854775807 := by
              obtain ⟨_, _, cs, _, _, _, rfl, hm⟩ := hso.at_ hj
              rw [hx]
              simp [Lit.wf, IntKind.min, IntKind.max, IntKind.signed, IntKind.bits] at hm; omega
            have hfr := HO4.out.free j
            have HO5 := Lib.hid (HO4.out.setCell1 rfl hj (u := .int .i64 (x - 1)) (x := x - 1) ⟨rfl, by simp [Lit.wf, IntKind.min, IntKind.max, IntKind.signed, IntKind.bits]; omega⟩)
            have HB5 : Hid (Below w.heap.size w (w2.setCell ⟨gq, j, none⟩ (.int .i64 (x - 1)))) := Lib.hid (HB4.out.grown (grown_setCell w2 gq j _) HB4.out.size fun k hk => by simp at hk; omega)
            clear hso hx he1 hj
            go_wp2_with fail
            go_meet
            case rel => exact ⟨_, Lib.hid (by rw [List.length_set]; exact HN4.out), HO5, HB5⟩
        case rest =>
          obtain ⟨qs, HN6, HO6, HB6⟩ := hcut
          obtain ⟨w6, rfl⟩ : ∃ W : World, W = wc := ⟨_, rfl⟩
          clear HO4 HB4 HN4 HPOS
          obtain ⟨g, o, rfl, hg, hcs, hok⟩ := nd_at hl.out (Same.of_below HB6.out hS.out) hil
          obtain ⟨kd, hkd⟩ : ∃ kd, kd = l[i].kids := ⟨_, rfl⟩
          have x8 : w6.cell? ⟨g, o + i * 9 + 8, none⟩ = some (.int .i64 kd) := by rw [hkd]; exact hcs 8 _ rfl
          have HWF : Hid ((Lit.int .i64 kd).wf = true) := Lib.hid (by rw [hkd]; exact hok.kids)
          have HQL : Hid (qs.length ≤ 65536) := Lib.hid (by rw [← HN6.out]; exact h465)
          have HNEW : Hid (∀ W : World, SliceAt (Rep.int .i64) (W.alloc (.cells #[.int .i64 kd] 3)) (fun b => b = W.heap.size ∨ nob b) (some ⟨W.heap.size, 0, none⟩) 1 [kd]) := Lib.hid fun W => SliceAt.new1 (Rep.int .i64) W _ _ kd nob ⟨rfl, HWF.out⟩ (fun _ h => h.elim)
          have HOW : Hid (Own (Rep.int .i64) 3 (w6.alloc (.cells #[.int .i64 kd] 3)) w.heap.size nob (.slice A4 n4 c4) qs) := Lib.hid (HO6.out.alloc _)
          clear hcs hok hkd hg
          go_upto_region 10 with (at_builtin; refine wpList_append_Own _ rfl (.tmp 43) (.tmp 49) 25 rfl (Rep.int .i64) w.heap.size 3 8 stIntsB nob (.slice A4 n4 c4) qs rfl HOW.out _ (some ⟨w6.heap.size, 0, none⟩) 1 [kd] rfl (HNEW.out w6) nob (fun _ h => h.elim) (fun _ h => h) (fun _ _ h => h) (by have := HQL.out; simp only [List.length_singleton]; omega) (by have := HQL.out; simp only [List.length_singleton]; omega) (by have := HB6.out.size; simp; omega) ?_; intro v7 w7 hown hg7 _; obtain ⟨A7, n7, c7, rfl, hn7, hnc7, hcm7⟩ := hown.form; have HO := Lib.hid hown; have HG := Lib.hid hg7; have HN7 := Lib.hid hn7.out; clear hown hg7 hn7)
          have HB7 : Hid (Below w.heap.size w w7) := Lib.hid ((HB6.out.alloc HB6.out.size _).grown HG.out (by have := HB6.out.size; simp; omega) fun k hk => by have := (HOW.out.lo k hk).1; omega)
          by_cases h7 : n7 ≤ 65536
          · go_wp2_with fail
            go_roundg (n - (i + 1))
            case measure => have := HK.out; omega
            case rel => exact ⟨i + 1, A7, n7, c7, _, by omega, by go_num, rfl, rfl, hnc7, hcm7, h7, HN7, HO, HB7⟩
          · go_wp2_with fail
            go_ret
            exact ⟨⟨_, rfl⟩, HB7.out⟩
    · obtain rfl : i = n := by omega
      go_wp2_with fail
      go_ret
      exact ⟨⟨_, rfl⟩, HB.out⟩
end Go.Proofs.YtnpideapdjomgaaDoor
namespace Go.Proofs.YtnpideapdjomgaaDoor
open Go.RowKit Go.ChangeShapes Go.WideShapes Go.Deep

theorem wpList_load_cm2 {ops : Array Oper} {rest : List Oper} {op : Oper} {a : Act} {w : World} {Q : Exit → Act → World → Prop} {g o : Nat} {X : Array Value} {c : Cm} {s : CmS} (hc : CellsAt w g o (ccells c s)) (hX : CmX X c s) (x : Operand) (ho : op.op = .load 44 x)
    (hw : Region.wanted op (yielded ops a.tmps) = true) (hx : a.eval x = .pointer (some ⟨g, o, none⟩)) (h : wpList Tryd.prog ops Q rest (a.put op.dst (.agg X)) w) : wpList Tryd.prog ops Q (op :: rest) a w :=
  wpList_loadg hw 44 x ho g o hx X.toList (.struct (Tryd.prog.fieldsOf 44)) (by rw [hX.list]; exact hc) (by kernel_rfl) rfl (by rw [Array.length_toList, hX.size]; kernel_rfl) X Array.toArray_toList.symm h
/-- What fits into memory. -/
structure Cm.reach (c : Cm) : Prop where
  a : c.a.re.length ≤ 140737488351232
  b : c.b.re.length ≤ 140737488351232
  text : c.text.length ≤ 140737488351232
  re : c.re.length ≤ 140737488351232
  fill : c.fill.length ≤ 140737488351232
  pieces : ∀ p ∈ c.fill, p.text.length ≤ 140737488351232
def Cm.cw (x : Cm) : Nat := 1 + x.text.length + x.re.length + x.a.re.length + x.b.re.length + x.fill.length
def cws (l : List Cm) : Nat := (l.map Cm.cw).sum
theorem cws_snoc (l : List Cm) (x : Cm) : cws (l ++ [x]) = cws l + x.cw := by simp [cws]
theorem cws_mem {l : List Cm} {x : Cm} (h : x ∈ l) : x.cw ≤ cws l := by
  obtain ⟨a, b, rfl⟩ := List.append_of_mem h
  simp [cws]; omega
theorem cws_len : ∀ (l : List Cm), l.length ≤ cws l := by
  intro l
  induction l with
  | nil => simp [cws]
  | cons x l ih =>
    have : cws (x :: l) = x.cw + cws l := by simp [cws]
    rw [this, List.length_cons]; unfold Cm.cw; omega
theorem room_of {l : List Cm} (h : cws l ≤ 16777216) (hr : ∀ x ∈ l, x.reach) : ∀ x ∈ l, x.room := fun x hx => by
  have h1 := Nat.le_trans (cws_mem hx) h
  unfold Cm.cw at h1
  exact ⟨by omega, by omega, by omega, by omega, by omega, (hr x hx).pieces⟩
set_option maxRecDepth 100000 in
set_option maxHeartbeats 8000000 in
theorem beyond_any (A : Option Addr) (n c : Nat) (l : List Cm) (w : World) (S : Blocks) (hn : Hid (n = l.length)) (hl : Hid (SliceAt Rep.cm w S A c l)) (hS : Hid (∀ b, S b → b < w.heap.size)) (hr : Hid (∀ x ∈ l, x.reach)) :
    Calls Tryd.prog 7 #[.slice A n c] w fun e w' => (∃ b : Bool, e = .returned (.bool b) ∧ (b = false → cws l ≤ 16777216)) ∧ Below w.heap.size w w' := by
  obtain ⟨Z, hZ⟩ : ∃ Z, Z = zcells.toArray := ⟨_, rfl⟩
  have HZ := Lib.hid hZ
  have HZS : Hid (Z.size = 272) := Lib.hid (by rw [hZ, List.size_toArray]; exact zcells_len)
  clear hZ
  have hnc : n ≤ c := by rw [hn.out]; exact hl.out.len
  have hcm := hl.out.max
  go_enter Tryd.func7, Tryd.ntmps7
  go_wp2_with fail
  go_loopg [3, 4] n (fun k v3 v4 wr => ∃ (i N : Nat), i ≤ n ∧ v4 = .int .i64 i ∧ v3 = .int .i64 N ∧ k = n - i ∧ N ≤ 1125899906842624 ∧ Hid (N = cws (l.take i)) ∧ Hid (Below w.heap.size w wr))
  case atStart => exact ⟨0, 0, Nat.zero_le _, rfl, rfl, rfl, by omega, Lib.hid rfl, Lib.hid (Below.refl _ _)⟩
  case round =>
    obtain ⟨i, N, hi, rfl, rfl, hk, hN, HN, HB⟩ := hrel
    have HK := Lib.hid hk
    clear hk
    obtain ⟨w1, rfl⟩ : ∃ W : World, W = wr := ⟨_, rfl⟩
    by_cases hin : i < n
    · by_cases hN2 : N ≤ 16777216
      · have hil : i < l.length := by rw [← hn.out]; exact hin
        obtain ⟨x, hx⟩ : ∃ x, x = l[i] := ⟨_, rfl⟩
        have HRX : Hid x.reach := Lib.hid (by rw [hx]; exact hr.out _ (List.getElem_mem hil))
        have HTK : Hid (l.take (i + 1) = l.take i ++ [x]) := Lib.hid (by rw [hx]; exact List.take_succ_eq_append_getElem hil)
        obtain ⟨g, o, s, rfl, hg, hcs, hwf, hcl⟩ := cm_at hl.out (Same.of_below HB.out hS.out) hil
        rw [← hx] at hcs hwf hcl
        obtain ⟨X, hXX⟩ : ∃ X, X = (ccells x s).toArray := ⟨_, rfl⟩
        have HCX : Hid (CmX X x s) := Lib.hid ⟨by rw [hXX], hwf⟩
        have HCS := Lib.hid hcs
        have HCL := Lib.hid hcl
        have HS1 : Hid (∀ b, S b → b < w1.heap.size) := Lib.hid fun b hb => Nat.lt_of_lt_of_le (hS.out b hb) HB.out.size
        have HIL := Lib.hid hil
        clear hXX hcs hwf hcl hg hx
        go_upto_region 6 with (first
          | (refine wpList_load_cm2 HCS.out HCX.out (.tmp 18) rfl rfl rfl ?_)
          | (refine wpList_alloc_cm rfl rfl Z HZ.out ?_)
          | (refine wpList_store_cm rfl (.tmp 5) (.tmp 19) rfl w1.heap.size X rfl rfl HCX.out 44 Z (heap_alloc_new _ _) HZS.out ?_))
        obtain ⟨w2, hw2⟩ : ∃ W, W = (w1.alloc (.cells Z 44)).setRow w1.heap.size X := ⟨_, rfl⟩
        obtain ⟨cb, hcb⟩ : ∃ cb, cb = w1.heap.size := ⟨_, rfl⟩
        rw [← hw2, ← hcb]
        have HB2 : Hid (Below w1.heap.size w1 w2) := Lib.hid (by rw [hw2]; exact below_setRow ((Below.refl _ w1).alloc (Nat.le_refl _) _) (Nat.le_refl _) _)
        have HC2 : Hid (w2.heap[cb]? = some (.cells X 44 (0, 0))) := Lib.hid (by rw [hw2, hcb]; exact setRow_heap _ _ _ _ _ _ (heap_alloc_new _ _))
        clear hw2 hcb
        have HBY : Hid (∀ (Ar : Option Addr) (cr : Nat) (re : List Nd) W, SliceAt Rep.nd w1 S Ar cr re → Below w2.heap.size w2 W → Calls Tryd.prog 17 #[.slice Ar re.length cr] W fun e w' => (∃ b : Bool, e = .returned (.bool b)) ∧ Below w2.heap.size w2 w') := Lib.hid fun Ar cr re W hsl hW => by
          have hb := HB2.out.trans (hW.mono HB2.out.size)
          refine (beyondNd_any Ar _ cr re W S (Lib.hid rfl) (Lib.hid (hsl.keep (fun _ h => h) (Same.of_below hb HS1.out))) (Lib.hid fun b h => Nat.lt_of_lt_of_le (HS1.out b h) hb.size)).mono ?_
          rintro e w' ⟨h, hb'⟩
          exact ⟨h, hW.trans (hb'.mono hW.size)⟩
        have HCE : Hid (∀ W, Below w2.heap.size w2 W → W.heap[cb]? = some (.cells X 44 (0, 0))) := Lib.hid fun W hW => (hW.block cb (Array.getElem?_eq_some_iff.1 HC2.out).1).trans HC2.out
        have y10 : w2.cell? ⟨cb, 10, none⟩ = some (.slice s.A4 x.re.length s.c4) := (cm_cell HC2.out HCX.out (by omega)).trans rfl
        try simp only [Act.put, List.setIfInBounds_toArray, List.set_cons_zero, List.set_cons_succ]
        go_cut [34] from 6 to 58 (fun v wc => (∃ b : Bool, v = .bool b) ∧ Hid (Below w2.heap.size w2 wc))
        case first =>
          go_wp2_with (first
            | (go_at_call_of 17 (s.A4); refine (HBY.out _ _ _ _ HCL.out.re (Below.refl _ _)).mono ?_; rintro _ w31 ⟨⟨b1, rfl⟩, hb31⟩; have HB31 := Lib.hid hb31; have y2 : w31.cell? ⟨cb, 2, none⟩ = some (.slice s.A1 x.a.re.length s.c1) := (cm_cell (HCE.out _ hb31) HCX.out (by omega)).trans rfl; clear hb31)
            | (go_at_call_of 17 (s.A1); refine (HBY.out _ _ _ _ HCL.out.a HB31.out).mono ?_; rintro _ w32 ⟨⟨b2, rfl⟩, hb32⟩; have HB32 := Lib.hid hb32; have y5 : w32.cell? ⟨cb, 5, none⟩ = some (.slice s.A2 x.b.re.length s.c2) := (cm_cell (HCE.out _ hb32) HCX.out (by omega)).trans rfl; clear hb32)
            | (go_at_call_of 17 (s.A2); refine (HBY.out _ _ _ _ HCL.out.b HB32.out).mono ?_; rintro _ w33 ⟨⟨b3, rfl⟩, hb33⟩; have HB33 := Lib.hid hb33; clear hb33))
          all_goals (go_meet; first | exact ⟨⟨_, rfl⟩, HB33⟩ | exact ⟨⟨_, rfl⟩, HB32⟩ | exact ⟨⟨_, rfl⟩, HB31⟩)
        case rest =>
          obtain ⟨⟨b, rfl⟩, HB4⟩ := hcut
          obtain ⟨w4, rfl⟩ : ∃ W : World, W = wc := ⟨_, rfl⟩
          clear y10
          have HB5 : Hid (Below w.heap.size w w4) := Lib.hid (HB.out.trans ((HB2.out.trans (HB4.out.mono HB2.out.size)).mono HB.out.size))
          cases b
          · have hc4 := HCE.out _ HB4.out
            have z9 : w4.cell? ⟨cb, 9, none⟩ = some (.slice s.A3 x.text.length s.c3) := (cm_cell hc4 HCX.out (by omega)).trans rfl
            have z10 : w4.cell? ⟨cb, 10, none⟩ = some (.slice s.A4 x.re.length s.c4) := (cm_cell hc4 HCX.out (by omega)).trans rfl
            have z2 : w4.cell? ⟨cb, 2, none⟩ = some (.slice s.A1 x.a.re.length s.c1) := (cm_cell hc4 HCX.out (by omega)).trans rfl
            have z5 : w4.cell? ⟨cb, 5, none⟩ = some (.slice s.A2 x.b.re.length s.c2) := (cm_cell hc4 HCX.out (by omega)).trans rfl
            have z11 : w4.cell? ⟨cb, 11, none⟩ = some (.slice s.A5 x.fill.length s.c5) := (cm_cell hc4 HCX.out (by omega)).trans rfl
            obtain ⟨l1, hl1⟩ : ∃ k, k = x.text.length := ⟨_, rfl⟩
            obtain ⟨l2, hl2⟩ : ∃ k, k = x.re.length := ⟨_, rfl⟩
            obtain ⟨l3, hl3⟩ : ∃ k, k = x.a.re.length := ⟨_, rfl⟩
            obtain ⟨l4, hl4⟩ : ∃ k, k = x.b.re.length := ⟨_, rfl⟩
            obtain ⟨l5, hl5⟩ : ∃ k, k = x.fill.length := ⟨_, rfl⟩
            have m1 : l1 ≤ 140737488351232 := by rw [hl1]; exact HRX.out.text
            have m2 : l2 ≤ 140737488351232 := by rw [hl2]; exact HRX.out.re
            have m3 : l3 ≤ 140737488351232 := by rw [hl3]; exact HRX.out.a
            have m4 : l4 ≤ 140737488351232 := by rw [hl4]; exact HRX.out.b
            have m5 : l5 ≤ 140737488351232 := by rw [hl5]; exact HRX.out.fill
            have HCW : Hid (x.cw = 1 + l1 + l2 + l3 + l4 + l5) := Lib.hid (by rw [hl1, hl2, hl3, hl4, hl5]; rfl)
            rw [← hl1] at z9
            rw [← hl2] at z10
            rw [← hl3] at z2
            rw [← hl4] at z5
            rw [← hl5] at z11
            clear hl1 hl2 hl3 hl4 hl5 hc4
            go_wp2_with fail
            go_roundg (n - (i + 1))
            case measure => have := HK.out; omega
            case rel => exact ⟨i + 1, N + 1 + l1 + l2 + l3 + l4 + l5, by omega, by go_num, by go_num, rfl, by omega, Lib.hid (by rw [HTK.out, cws_snoc, HCW.out, ← HN.out]; omega), HB5⟩
          · go_wp2_with fail
            go_ret
            exact ⟨⟨_, rfl, fun h => by cases h⟩, HB5.out⟩
      · go_wp2_with fail
        go_ret
        refine ⟨⟨_, rfl, fun h => ?_⟩, HB.out⟩
        exfalso
        first | (simp at h; omega) | cases h
    · obtain rfl : i = n := by omega
      have HNN : Hid (N = cws l) := Lib.hid (by have := HN.out; rwa [List.take_of_length_le (by rw [← hn.out]; exact Nat.le_refl _)] at this)
      by_cases hN2 : N ≤ 16777216
      · go_wp2_with fail
        go_ret
        exact ⟨⟨_, rfl, fun _ => by rw [← HNN.out]; exact hN2⟩, HB.out⟩
      · go_wp2_with fail
        go_ret
        refine ⟨⟨_, rfl, fun h => ?_⟩, HB.out⟩
        exfalso
        first | (simp at h; omega) | cases h
end Go.Proofs.YtnpideapdjomgaaDoor
