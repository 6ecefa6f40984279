/- A byte put behind pieces: the walk of fill.add. Condition: there is room (2^40 of each). -/
import Derived.Test.YtebbilkkacbfjaaDoorProg
import Derived.Test.YtebbilkkacbfjaaDoorParts
import Derived.WalkKit
import Derived.WalkSpells
import Derived.Deep.QuietTactic
import Derived.BigQuiet
import Derived.Lib.Hide
import Derived.Deep.DeepMust
namespace Go.Proofs.YtebbilkkacbfjaaDoor
open Go.RowKit

def addB (l : List Piece) (b : UInt8) : List Piece :=
  match l.getLast? with
  | some p => if p.group = -1 then l.dropLast ++ [{ p with text := p.text ++ [b] }] else l ++ [⟨-1, [b]⟩]
  | none => l ++ [⟨-1, [b]⟩]
theorem addB_yes (l : List Piece) (p : Piece) (b : UInt8) (h : p.group = -1) : addB (l ++ [p]) b = l ++ [{ p with text := p.text ++ [b] }] := by simp [addB, h]
theorem addB_no (l : List Piece) (p : Piece) (b : UInt8) (h : p.group ≠ -1) : addB (l ++ [p]) b = l ++ [p] ++ [⟨-1, [b]⟩] := by simp [addB, h]
theorem POwn.form {w : World} {base : Nat} {v : Value} {l : List Piece} (h : POwn w base v l) : ∃ A n c, v = .slice A n c ∧ Hid (n = l.length) ∧ n ≤ c ∧ c ≤ 9223372036854775807 := by
  obtain ⟨A, c, e, hs⟩ := h.slice
  exact ⟨A, _, c, e, Lib.hid rfl, hs.len, hs.max⟩
theorem info_piece : (Tryd.prog.info? 81).map (fun i => (i.zero, i.size, i.bytes)) = some (some (.agg #[.int .i64 0, .slice none 0 0]), 2, 32) := by kernel_rfl
theorem newText (w : World) (e : TypeId) (base : Nat) (hb : base ≤ w.heap.size) (cs : Array Value) (l : List UInt8) (h : cs.toList = bcells l) (hm : l.length ≤ maxLen) :
    Own Rep.byte e (w.alloc (.cells cs e)) base nob (.slice (some ⟨w.heap.size, 0, none⟩) l.length l.length) l := by
  have hs : cs.size = l.length := by rw [← Array.length_toList, h, bcells_len]
  refine ⟨bcells l, ⟨by rw [bcells_len]; simp [Rep.byte], .inr ⟨w.heap.size, l.length, cs, rfl, hb, heap_alloc_new w _, Nat.le_refl _, hm, by simp [Rep.byte, hs], ?_⟩⟩, fun _ h => h.elim, bcells_one l, fun i hi => ?_⟩
  · rw [h]; exact List.take_of_length_le (by rw [bcells_len]; simp [Rep.byte])
  · have hi' : i < (bcells l).length := by rw [bcells_len]; exact hi
    show ((bcells l).drop (i * 1)).take 1 = [_]
    rw [Nat.mul_one, List.drop_eq_getElem_cons hi']
    simp [bcells]

set_option maxHeartbeats 1000000 in
theorem add_yes (v : Value) (l : List Piece) (p : Piece) (b : UInt8) (w : World) (base : Nat) (hbase : base ≤ w.heap.size) (h : POwn w base v (l ++ [p])) (hp : p.group = -1) (hl : l.length < 1099511627776) (ht : p.text.length < 1099511627776) :
    Calls Tryd.prog 38 #[v, .int .u8 b.toNat] w fun e w' => ∃ v', e = .returned v' ∧ POwn w' base v' (addB (l ++ [p]) b) ∧ Below base w w' := by
  obtain ⟨g, cap, tv, rfl, hbg, hc0, hc1, hfz, hgl, hown, hne, hshut⟩ := h.last
  obtain ⟨A, n, c, e, hn, hle, hmax⟩ := h.form
  have hle' : l.length + 1 ≤ cap := by have := hn.out; simp at e this; omega
  have hmax' : cap ≤ 9223372036854775807 := by simp at e; omega
  clear e hle hmax hn
  rw [hp] at hc0
  have hpos : ((l.length : Nat) : Int) + 1 - 1 = l.length := by omega
  have hown' := hown.alloc (.cells #[.int .u8 b.toNat] 5)
  have HOWN := Lib.hid hown'
  have HS := Lib.hid hshut
  have HP := Lib.hid hp
  have HO := Lib.hid hown
  have hne' : (some g : Option Nat) ≠ tv.ownBlock := by
    intro e
    rcases hne with h | h
    · rw [h] at e; cases e
    · exact h e.symm
  have HNE := Lib.hid hne'
  clear hown hown' hshut hp h hpos hne hne'
  go_enter Tryd.func38, Tryd.ntmps38
  go_wp2_with (at_builtin; go_must (refine wpList_append_bytes _ rfl (.tmp 25) (.tmp 27) 58 rfl base 5 stBytes _ _ rfl HOWN.out _ _ _ _ [b] rfl (SliceAt.newBytes _ _ _ [b] 1 (by simp) (by simp [maxLen]) rfl) rfl (by omega) (by simp; omega) ?_); intro v1 w1 hown1 hg1 hat1; obtain ⟨A1, n1, c1, rfl, hn1, -, -⟩ := hown1.form; have hkeep : w1.heap[g]? = w.heap[g]? := (hg1.block g (by simp; omega) HNE.out).trans (Below.heap_alloc _ _ _ hgl); have hc1' : w1.cell? ⟨g, l.length * 2 + 1, none⟩ = some tv := (World.cell?_of_block hkeep).trans hc1; have hfz' : w1.frozen? ⟨g, l.length * 2 + 1, none⟩ = false := (World.frozen?_of_block hkeep).trans hfz; have HK := Lib.hid hkeep; have HG1 := Lib.hid hg1; have HO1 := Lib.hid hown1; have HA1 := Lib.hid hat1; clear hkeep hg1 hown1 hat1)
  go_ret
  have hw1 : w.grownBy w1 tv.ownBlock := by
    obtain ⟨a, b, c, d, e⟩ := HG1.out
    exact ⟨a, b, c, Nat.le_trans (by simp) d, fun k hk hne => (e k (by simp; omega) hne).trans (Below.heap_alloc _ _ _ hk)⟩
  refine ⟨_, rfl, ?_, ?_⟩
  · rw [addB_yes _ _ _ HP.out]
    refine HS.out w1 _ _ hw1 HO1.out ?_
    rcases HA1.out with h | h
    · exact .inl h
    · exact .inr (.inr ⟨_, h, by simp⟩)
  · exact (below_own ((Below.refl _ w).alloc hbase _) HOWN.out HG1.out (by simp; omega)).setCell hbg _

/-- One piece of no text, or of a new one, put behind: append's law at pieces. -/
theorem wpList_append_piece {w : World} {ops : Array Oper} {rest : List Oper} {o : Oper} {a : Act} {Q : Exit → Act → World → Prop} (hgd : o.guard = none) (s x : Operand)
    (ho : o.op = .call { callee := .builtin .append, args := #[s, x], argTypes := #[26, 26] })
    (w0 : World) (base : Nat) (v tv : Value) (l : List Piece) (p : Piece) (hs : a.eval s = v) (h : POwn w0 base v l) (hb : Below w0.heap.size w0 w) (hwf : (Lit.int .i64 p.group).wf = true)
    (ht : Own Rep.byte 5 w base nob tv p.text) (hnew : ∀ k, tv.ownBlock = some k → w0.heap.size ≤ k)
    (b c : Nat) (hx : a.eval x = .slice (some ⟨b, 0, none⟩) 1 c) (hc0 : w.cell? ⟨b, 0, none⟩ = some (.int .i64 p.group)) (hc1 : w.cell? ⟨b, 1, none⟩ = some tv) (hbase : base ≤ w.heap.size) (hl : l.length < 1099511627776)
    (hk : ∀ v' w', POwn w' base v' (l ++ [p]) → Below base w w' → wpList Tryd.prog ops Q rest (a.put o.dst v') w') : wpList Tryd.prog ops Q (o :: rest) a w := by
  obtain ⟨i0, hi, hz0, hz1, hz2⟩ := info_parts info_piece
  obtain ⟨ts, h1, h2, h3, h4, h5⟩ := h
  have h2' := ownsRow_far h2 hb
  have htv : tv.oneCell' = true := by
    obtain ⟨A, n, c, rfl, _⟩ := ht.form
    rfl
  refine wpList_append_own _ hgd s x 26 ho base 81 i0 _ 2 32 Tryd.underlying26 hi hz0 hz1 hz2 rfl (by omega) v l.length _ hs h2' ⟨b, 0, none⟩ 1 c [.int .i64 p.group, tv] hx (by simp) (fun j u hj => ?_) (fun u hu => ?_) (by simp only [maxLen]; omega) (by omega) hbase (fun v' w' hown hg _ => hk v' w' (POwn.push ⟨ts, h1, h2, h3, h4, h5⟩ hb hwf ht hnew (fun xs hxs => ?_) hg) ((Below.refl _ w).grown hg hbase fun k hk => (h2'.lt k hk).1))
  · rw [Go.WideShapes.add_plain]
    match j, hj with
    | 0, hj => simp at hj; subst hj; exact hc0
    | 1, hj => simp at hj; subst hj; exact hc1
  · simp at hu
    rcases hu with rfl | rfl
    · rfl
    · exact htv
  · have e : xs = flatP l ts := by
      rcases hxs.2 with ⟨e, h0⟩ | ⟨g, cap, cur, e, _, hg1, _, _, _, ht1⟩
      · have a1 := hxs.1; have a2 := h2'.1
        rw [h0] at a1 a2
        rw [List.eq_nil_of_length_eq_zero (l := xs) (by omega), List.eq_nil_of_length_eq_zero (l := flatP l ts) (by omega)]
      · rcases h2'.2 with ⟨e', h0⟩ | ⟨g', cap', cur', e', _, hg2, _, _, _, ht2⟩
        · rw [e] at e'; simp at e'
        · rw [e] at e'
          simp at e'
          obtain ⟨rfl, rfl⟩ := e'
          rw [hg1] at hg2
          have hcur := Option.some.inj hg2
          simp only [Obj.cells.injEq] at hcur
          obtain ⟨rfl, -⟩ := hcur
          rw [← ht1, ht2]
    rw [e]; exact hown

set_option maxHeartbeats 1000000 in
theorem add_no (v : Value) (l : List Piece) (b : UInt8) (w : World) (base : Nat) (hbase : base ≤ w.heap.size) (h : POwn w base v l) (hp : ∀ l0 p, l = l0 ++ [p] → p.group ≠ -1) (hl : l.length < 1099511627776) :
    Calls Tryd.prog 38 #[v, .int .u8 b.toNat] w fun e w' => ∃ v', e = .returned v' ∧ POwn w' base v' (l ++ [⟨-1, [b]⟩]) ∧ Below base w w' := by
  have H := Lib.hid h
  have hnt : Own Rep.byte 5 ((w.alloc (.cells #[.int .u8 b.toNat] 5)).alloc (.cells #[.int .i64 (-1), .slice (some ⟨w.heap.size, 0, none⟩) 1 1] 81)) base nob (.slice (some ⟨w.heap.size, 0, none⟩) 1 1) [b] :=
    (newText w 5 base hbase #[.int .u8 b.toNat] [b] rfl (by simp [maxLen])).alloc _
  have HNT := Lib.hid hnt
  have hbl : Below w.heap.size w ((w.alloc (.cells #[.int .u8 b.toNat] 5)).alloc (.cells #[.int .i64 (-1), .slice (some ⟨w.heap.size, 0, none⟩) 1 1] 81)) := ((Below.refl _ w).alloc (Nat.le_refl _) _).alloc (by simp) _
  have HBL := Lib.hid hbl
  clear hnt hbl
  rcases List.eq_nil_or_concat l with rfl | ⟨l0, p, rfl⟩
  · obtain ⟨A, n, c, rfl, hn, -, -⟩ := h.form
    obtain rfl : n = 0 := hn.out
    clear h hn
    go_enter Tryd.func38, Tryd.ntmps38
    go_wp2_with (at_builtin; refine wpList_append_piece rfl (.tmp 32) (.tmp 36) rfl w base _ (.slice (some ⟨w.heap.size, 0, none⟩) 1 1) [] ⟨-1, [b]⟩ rfl H.out HBL.out rfl HNT.out (fun k hk => by simp [Value.ownBlock] at hk; omega) _ _ rfl (by simp) (by simp) (by simp; omega) (by simp) ?_; intro v1 w1 hp1 hb1; have HP1 := Lib.hid hp1; have HB1 := Lib.hid hb1; obtain ⟨A1, n1, c1, rfl, -, -, -⟩ := hp1.form; clear hp1 hb1)
    go_ret
    exact ⟨_, rfl, HP1.out, (HBL.out.mono hbase).trans HB1.out⟩
  · have hg := hp l0 p (by simp)
    obtain ⟨g, cap, tv, rfl, hbg, hc0, -, -, hgl, -⟩ := (show POwn w base v (l0 ++ [p]) by simpa using h).last
    obtain ⟨A, n, c, e, hn, hle, hmax⟩ := h.form
    have hle' : l0.length + 1 ≤ cap := by have := hn.out; simp at e this; omega
    have hmax' : cap ≤ 9223372036854775807 := by simp at e; omega
    have hl' : l0.length < 1099511627776 := by simp at hl; omega
    have h1 : (p.group == -1) = false := by simpa using hg
    have HL := Lib.hid hl
    clear h e hle hp hg hl hn
    go_enter Tryd.func38, Tryd.ntmps38
    go_wp2_with (at_builtin; refine wpList_append_piece rfl (.tmp 32) (.tmp 36) rfl w base _ (.slice (some ⟨w.heap.size, 0, none⟩) 1 1) _ ⟨-1, [b]⟩ rfl H.out HBL.out rfl HNT.out (fun k hk => by simp [Value.ownBlock] at hk; omega) _ _ rfl (by simp) (by simp) (by simp; omega) HL.out ?_; intro v1 w1 hp1 hb1; have HP1 := Lib.hid hp1; have HB1 := Lib.hid hb1; obtain ⟨A1, n1, c1, rfl, -, -, -⟩ := hp1.form; clear hp1 hb1)
    go_ret
    exact ⟨_, rfl, HP1.out, (HBL.out.mono hbase).trans HB1.out⟩

theorem add_any (v : Value) (l : List Piece) (b : UInt8) (w : World) (base : Nat) (hbase : base ≤ w.heap.size) (h : POwn w base v l) (hl : l.length < 1099511627776) (ht : ∀ p ∈ l, p.text.length < 1099511627776) :
    Calls Tryd.prog 38 #[v, .int .u8 b.toNat] w fun e w' => ∃ v', e = .returned v' ∧ POwn w' base v' (addB l b) ∧ Below base w w' := by
  rcases List.eq_nil_or_concat l with rfl | ⟨l0, p, rfl⟩
  · exact add_no v [] b w base hbase h (fun l0 p e => by simp at e) hl
  · rw [List.concat_eq_append] at *
    by_cases hp : p.group = -1
    · exact add_yes v l0 p b w base hbase h hp (by simp at hl; omega) (ht p (by simp))
    · rw [addB_no _ _ _ hp]
      exact add_no v _ b w base hbase h (fun l1 q e => by have := List.append_inj_right' e rfl; simp at this; rw [← this]; exact hp) hl

end Go.Proofs.YtebbilkkacbfjaaDoor
