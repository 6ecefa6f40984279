/- The document's reading of an option word: the walk of galleyref28.word (printed by gen/refword28.py). Condition: room. -/
import Derived.Test.YtmjagjcaepbklaaDoorRefWord28
import Derived.Test.YtmjagjcaepbklaaDoorOptsPrint
namespace Go.Proofs.YtmjagjcaepbklaaDoor
open Go.RowKit

theorem word_result (tmps : Array Value) (w' : World) (G : Nat) (f : Opts.Fl) (v1 v2 v3 v4 v5 : Value) (h : w'.heap[G]? = some (oObj f v1 v2)) (h2 : tmps.getD 4 undef = .pointer (some ⟨G, 0, none⟩)) (h3 : tmps.getD 5 undef = v3) (h4 : tmps.getD 6 undef = v4) (h5 : tmps.getD 7 undef = v5) :
    (results Tryd.f33 tmps).run Tryd.prog w' = .ok (.tuple #[.agg (oCells f v1 v2), v3, v4, v5]) w' := by
  obtain ⟨q, e, a, i⟩ := f
  obtain ⟨c0, c1, c2, c3, c4, c5⟩ := oObj_cells h
  simp only [Array.getD_eq_getD_getElem?] at h2 h3 h4 h5
  simp [results, Tryd.results33, go_sem, oCells, *]
/-- A part was put behind. -/
def PartAns (base : Nat) (w : World) (f : Opts.Fl) (v : Value) (ps : List Opts.Prt) (p : Opts.Prt) (k : Nat) (e : Ending) (w' : World) : Prop :=
  ∃ v', e = .returned (.tuple #[.agg #[.bool f.q, .bool f.e, .bool f.a, .bool f.i, v', .slice none 0 0], .int .i64 k, .int .i64 0, .string ⟨#[]⟩]) ∧ Own Rep.prt 38 w' base nob v' (ps ++ [p]) ∧ Only (fun b => v.ownBlock = some b) w w'
/-- What a word answers. -/
def WordAns (base : Nat) (w : World) (v : Value) (ps : List Opts.Prt) (r : List ByteArray) (e : Ending) (w' : World) : Opts.Out → Prop
  | .done f => e = .returned (.tuple #[.agg #[.bool f.q, .bool f.e, .bool f.a, .bool f.i, v, .slice none 0 0], .int .i64 1, .int .i64 0, .string ⟨#[]⟩]) ∧ Below w.heap.size w w'
  | .bad s => ∃ o : Opts.Fl, e = .returned (.tuple #[.agg #[.bool o.q, .bool o.e, .bool o.a, .bool o.i, v, .slice none 0 0], .int .i64 0, .int .i64 90, .string s]) ∧ Below w.heap.size w w'
  | .part f b s t => if t = ⟨#[]⟩ then
      match r with
      | [] => ∃ o : Opts.Fl, e = .returned (.tuple #[.agg #[.bool o.q, .bool o.e, .bool o.a, .bool o.i, v, .slice none 0 0], .int .i64 0, .int .i64 91, .string s]) ∧ Below w.heap.size w w'
      | y :: _ => PartAns base w f v ps (b, y) 2 e w'
    else PartAns base w f v ps (b, t) 1 e w'
theorem prtOne (w : World) (a : Bool) (b : ByteArray) (h : b.size ≤ maxLen) : SliceAt Rep.prt (w.alloc (.cells #[.bool a, .string b] 38)) (under (w.heap.size + 1)) (some ⟨w.heap.size, 0, none⟩) 1 [(a, b)] :=
  (SliceAt.new1 Rep.prt w 38 #[.bool a, .string b] (a, b) nob (prt_is a b h) (fun _ h => h.elim)).up fun k hk => by rcases hk with rfl | hk; exact Nat.lt_succ_self _; exact hk.elim
/-- Where a word is being read: the options' box and the result's. -/
structure WSt (w wr : World) (base : Nat) (f : Opts.Fl) (v : Value) (ps : List Opts.Prt) : Prop where
  obj : wr.heap[w.heap.size]? = some (oObj f v (.slice none 0 0))
  res : wr.heap[w.heap.size + 1]? = some (oObj none_ (.slice none 0 0) (.slice none 0 0))
  own : Own Rep.prt 38 wr base nob v ps
  b : Below w.heap.size w wr
section
variable {w wr w' : World} {base : Nat} {f f' : Opts.Fl} {v : Value} {ps : List Opts.Prt}
theorem WSt.start (h : Own Rep.prt 38 w base nob v ps) : WSt w ((w.alloc (oObj f v (.slice none 0 0))).alloc (oObj none_ (.slice none 0 0) (.slice none 0 0))) base f v ps := by
  refine ⟨?_, ?_, (h.alloc _).alloc _, ((Below.refl _ w).alloc (Nat.le_refl _) _).alloc (by simp) _⟩
  · rw [heap_alloc_old _ _ (by simp)]
    exact heap_alloc_new _ _
  · have := heap_alloc_new (w.alloc (oObj f v (.slice none 0 0))) (oObj none_ (.slice none 0 0) (.slice none 0 0))
    simpa using this
theorem WSt.far (h : WSt w wr base f v ps) (hb : Below wr.heap.size wr w') : WSt w w' base f v ps :=
  ⟨(hb.block _ (Array.getElem?_eq_some_iff.1 h.obj).1).trans h.obj, (hb.block _ (Array.getElem?_eq_some_iff.1 h.res).1).trans h.res, h.own.far hb, h.b.trans (hb.mono h.b.size)⟩
theorem WSt.turn (h : WSt w wr base f v ps) (hg : wr.grownBy w' (some w.heap.size)) (ho : w'.heap[w.heap.size]? = some (oObj f' v (.slice none 0 0))) : WSt w w' base f' v ps :=
  ⟨ho, (hg.block _ (Array.getElem?_eq_some_iff.1 h.res).1 (by simp)).trans h.res, h.own.mono hg (.inr (h.own.ne_block h.obj (by decide))) (fun _ h => h.elim), h.b.grown hg h.b.size fun b hb => by cases hb; exact Nat.le_refl _⟩
/-- Behind append, behind the store into the field, behind the result's store. -/
theorem WSt.push (h : WSt w wr base f v ps) {w3 : World} {v' : Value} {p : Opts.Prt} (hg : wr.grownBy w3 v.ownBlock) (ho : Own Rep.prt 38 w3 base nob v' (ps ++ [p])) :
    w3.frozen? ⟨w.heap.size, 4, none⟩ = false ∧ w3.heap[w.heap.size]? = some (oObj f v (.slice none 0 0)) ∧ (w3.setCell ⟨w.heap.size, 4, none⟩ v').heap[w.heap.size]? = some (oObj f v' (.slice none 0 0)) ∧
      (w3.setCell ⟨w.heap.size, 4, none⟩ v').heap[w.heap.size + 1]? = some (oObj none_ (.slice none 0 0) (.slice none 0 0)) ∧
      ∀ w5, (w3.setCell ⟨w.heap.size, 4, none⟩ v').grownBy w5 (some (w.heap.size + 1)) → Own Rep.prt 38 w5 base nob v' (ps ++ [p]) ∧ Only (fun b => v.ownBlock = some b) w w5 := by
  have hobj : w3.heap[w.heap.size]? = some (oObj f v (.slice none 0 0)) := (hg.block _ (Array.getElem?_eq_some_iff.1 h.obj).1 (fun e => h.own.ne_block h.obj (by decide) e.symm)).trans h.obj
  have hres : w3.heap[w.heap.size + 1]? = some (oObj none_ (.slice none 0 0) (.slice none 0 0)) := (hg.block _ (Array.getElem?_eq_some_iff.1 h.res).1 (fun e => h.own.ne_block h.res (by decide) e.symm)).trans h.res
  have hobj2 : (w3.setCell ⟨w.heap.size, 4, none⟩ v').heap[w.heap.size]? = some (oObj f v' (.slice none 0 0)) := by simp [World.setCell, Array.getElem?_modify, hobj, oObj, oCells]
  have hres2 : (w3.setCell ⟨w.heap.size, 4, none⟩ v').heap[w.heap.size + 1]? = some (oObj none_ (.slice none 0 0) (.slice none 0 0)) := (Below.heap_setCell _ _ _ _ (by simp)).trans hres
  have ho2 := ho.mono (setCell_grown w.heap.size w3 4 v') (.inr (ho.ne_block hobj (by decide))) (fun _ h => h.elim)
  refine ⟨by simp [World.frozen?, hobj, oObj], hobj, hobj2, hres2, fun w5 h5 => ⟨ho2.mono h5 (.inr (ho2.ne_block hres2 (by decide))) (fun _ h => h.elim), ?_⟩⟩
  exact (((Only.of_below h.b _).grown hg fun b hb => .inl hb.symm).grown (setCell_grown _ _ _ _) fun b hb => .inr (by cases hb; exact Nat.le_refl _)).grown h5 fun b hb => .inr (by cases hb; omega)
end
set_option maxRecDepth 100000 in
set_option maxHeartbeats 8000000 in
theorem word_any (base : Nat) (f0 : Opts.Fl) (A B : Option Addr) (n c m cb : Nat) (ps : List Opts.Prt) (x : ByteArray) (r : List ByteArray) (w : World) (hown : Hid (Own Rep.prt 38 w base nob (.slice A n c) ps)) (hbase : base ≤ w.heap.size) (hps : Hid (ps.length ≤ 4294967296))
    (hm : Hid (m = (x :: r).length)) (hl : Hid (SliceAt Rep.str w (under w.heap.size) B cb (x :: r))) (hx : 1 ≤ x.size) :
    Calls Tryd.prog 33 #[.agg #[.bool f0.q, .bool f0.e, .bool f0.a, .bool f0.i, .slice A n c, .slice none 0 0], .slice B m cb] w fun e w' => WordAns base w (.slice A n c) ps r e w' (Opts.word f0 (Opts.tail x)) := by
  have hmc : m ≤ cb := by rw [hm.out]; exact hl.out.len
  have hcm := hl.out.max
  have hm1 : 1 ≤ m := by rw [hm.out]; simp
  obtain ⟨g, o, rfl, -, hc0, hxs⟩ := hl.out.texts (i := 0) (by simp)
  simp only [Nat.add_zero, List.getElem_cons_zero] at hc0 hxs
  have hgl := World.block_lt_of_cell? w _ hc0
  have HX0 : Hid (∀ W, Below w.heap.size w W → W.cell? ⟨g, o, none⟩ = some (.string x)) := Lib.hid fun W hW => (hW.cell (p := ⟨g, o, none⟩) hgl).trans hc0
  have HY0 : Hid (∀ y r', r = y :: r' → y.size ≤ maxLen ∧ ∀ W, Below w.heap.size w W → W.cell? ⟨g, o + 1, none⟩ = some (.string y)) := Lib.hid fun y r' hr => by
    subst hr
    obtain ⟨g', o', he, -, hc1, hys⟩ := hl.out.texts (i := 1) (by simp)
    simp only [Option.some.injEq, Addr.mk.injEq] at he
    obtain ⟨rfl, rfl, -⟩ := he
    exact ⟨by simpa [maxLen] using hys, fun W hW => (hW.cell (p := ⟨g, o + 1, none⟩) hgl).trans hc1⟩
  have hx1 : x.size ≤ 9223372036854775807 := hxs
  have HS0 : Hid (∀ W, W = (w.alloc (oObj f0 (.slice A n c) (.slice none 0 0))).alloc (oObj none_ (.slice none 0 0) (.slice none 0 0)) → WSt w W base f0 (.slice A n c) ps) := Lib.hid fun W h => by rw [h]; exact WSt.start hown.out
  have c1 := (HX0.out _ (HS0.out _ rfl).b)
  simp only [oObj, oCells, none_] at c1
  clear hc0 hxs
  go_enter Tryd.func33, Tryd.ntmps33
  go_wp2_with fail
  clear c1
  go_loopg [8, 9, 10, 12, 13] (Opts.tail x).size (fun k v8 v9 v10 v12 v13 wr => ∃ (y : ByteArray) (f : Opts.Fl), v8 = .string y ∧ k = y.size ∧ y.size ≤ 9223372036854775807 ∧ Hid (WSt w wr base f (.slice A n c) ps) ∧ Hid (Opts.word f0 (Opts.tail x) = Opts.word f y))
  case atStart =>
    have hts : (Opts.tail x).size ≤ 9223372036854775807 := by
      have : (Opts.tail x).size = x.size - 1 := by unfold Opts.tail; rw [ByteArray.size_extract]; omega
      omega
    exact ⟨Opts.tail x, f0, rfl, rfl, hts, Lib.hid (HS0.out _ rfl), Lib.hid rfl⟩
  case round =>
    obtain ⟨y, f, rfl, rfl, hys, HS, HW⟩ := hrel
    by_cases hy0 : y.size = 0
    · have HWD := Lib.hid (HW.out.trans (Opts.word_zero f hy0))
      have hd : decide ((0 : Int) < (y.size : Int)) = false := decide_eq_false (by omega)
      obtain ⟨k0, k1, k2, k3, k4, k5⟩ := oObj_cells HS.out.obj
      go_wp2_with (refine wpList_store_opts rfl (.tmp 4) (.tmp 67) rfl (w.heap.size + 1) _ _ _ HS.out.res rfl f _ _ rfl rfl rfl ?_; intro w5 HH5 HG5)
      refine bodyPost_ret (v := .tuple #[.agg (oCells f (.slice A n c) (.slice none 0 0)), .int .i64 1, .int .i64 0, .string ⟨#[]⟩]) (word_result _ w5 (w.heap.size + 1) f _ _ _ _ _ HH5.out rfl rfl rfl rfl) rfl ?_
      rw [HWD.out]
      exact ⟨rfl, HS.out.b.grown HG5.out HS.out.b.size fun b hb => by cases hb; omega⟩
    have hy1 : 0 < y.size := by omega
    have hd : decide ((0 : Int) < (y.size : Int)) = true := decide_eq_true (by omega)
    have hle := Opts.dec_le hy1
    have hpos := Opts.dec_pos hy1
    have hrs := Opts.rest_size hy1
    have HSZ := Lib.hid (size_any y wr hy1 hys)
    have HRS : Hid (y.extract (Lib.decodeGo y).2 y.size = Opts.rest y) := Lib.hid rfl
    have HLT : Hid (y.extract 0 (Lib.decodeGo y).2 = Opts.letter y) := Lib.hid rfl
    obtain ⟨kw, hkw⟩ : ∃ kw, kw = (Lib.decodeGo y).2 := ⟨_, rfl⟩
    rw [← hkw] at hle hpos hrs HSZ HRS HLT
    clear hkw
    go_wp2_with fail
    refine HSZ.out.mono ?_
    clear HSZ
    rintro e wz ⟨rfl, hbz⟩
    have HZ := Lib.hid (HS.out.far hbz)
    clear hbz HS
    obtain ⟨k0, k1, k2, k3, k4, k5⟩ := oObj_cells HZ.out.obj
    have hrl : (Opts.rest y).size ≤ 9223372036854775807 := by omega
    by_cases hc101 : Opts.letter y = ⟨#[101]⟩
    · have HPART := Lib.hid (HW.out.trans (Opts.word_part f false hy1 (Opts.of_letter hy1 (c := 101) (by decide) hc101)))
      have hlx : y.extract 0 kw = ⟨#[101]⟩ := HLT.out.trans hc101
      rw [hc101] at HPART
      have hrx := HRS.out
      by_cases ht : Opts.rest y = ⟨#[]⟩
      · rw [ht] at hrx HPART
        cases r with
        | nil =>
          obtain rfl : m = 1 := by rw [hm.out]; rfl
          clear hc101 ht HLT HRS HX0 HY0
          go_wp2_with (refine wpList_store_opts rfl (.tmp 4) (.tmp 40) rfl (w.heap.size + 1) _ _ _ HZ.out.res rfl f _ _ rfl rfl rfl ?_; intro w5 HH5 HG5)
          refine bodyPost_ret (v := .tuple #[.agg (oCells f (.slice A n c) (.slice none 0 0)), .int .i64 0, .int .i64 91, .string ⟨#[101]⟩]) (word_result _ w5 (w.heap.size + 1) f _ _ _ _ _ HH5.out rfl rfl rfl rfl) rfl ?_
          rw [HPART.out]
          exact ⟨_, rfl, HZ.out.b.grown HG5.out HZ.out.b.size fun b hb => by cases hb; omega⟩
        | cons y2 r2 =>
          obtain ⟨hy2, hc2⟩ := HY0.out y2 r2 rfl
          have hy2c := hc2 wz HZ.out.b
          have HY2 := Lib.hid hy2
          have hmm : ((m : Int) == 1) = false := by rw [beq_eq_false_iff_ne]; have := hm.out; simp at this; omega
          have hm2 : 2 ≤ m := by have := hm.out; simp at this; omega
          clear hc101 ht HLT HRS HX0 HY0 hc2 hy2
          go_wp2_with (first | (at_builtin; refine wpList_append_Own _ rfl (.tmp 46) (.tmp 51) 23 rfl Rep.prt base 38 24 stPrt nob (.slice A n c) ps rfl (HZ.out.own.alloc _) (under (wz.heap.size + 1)) (some ⟨wz.heap.size, 0, none⟩) 1 [(false, y2)] rfl (prtOne wz false y2 HY2.out) nob (fun _ h => h.elim) (fun _ h => h) (fun cs x ⟨_, _, h0, h1, h2⟩ => ⟨_, _, h0, h1, h2⟩) (by have := hps.out; simp <;> omega) (by have := hps.out; simp <;> omega) (by have := HZ.out.b.size; simp <;> omega) ?_; intro v3 w3 hown3 hg3 hat3; obtain ⟨A3, n3, c3, rfl, -, k31, k32⟩ := hown3.form; obtain ⟨q1, q2, q3, q4, q5⟩ := (HZ.out.far ((Below.refl _ wz).alloc (Nat.le_refl _) _)).push hg3 hown3; have Q5 := Lib.hid q5; obtain ⟨z0, z1, z2, z3, z4, z5⟩ := oObj_cells q2; clear hown3 hg3 hat3 q5) | (refine wpList_store_opts rfl (.tmp 4) (.tmp 54) rfl (w.heap.size + 1) _ _ _ q4 rfl f _ _ rfl rfl rfl ?_; intro w5 HH5 HG5))
          refine bodyPost_ret (v := .tuple #[.agg (oCells f (.slice A3 n3 c3) (.slice none 0 0)), .int .i64 2, .int .i64 0, .string ⟨#[]⟩]) (word_result _ w5 (w.heap.size + 1) f _ _ _ _ _ HH5.out rfl rfl rfl rfl) rfl ?_
          rw [HPART.out]
          obtain ⟨p1, p2⟩ := Q5.out w5 HG5.out
          exact ⟨_, rfl, p1, p2⟩
      · have hte : (Opts.rest y).toList.isEmpty = false := by
          rw [List.isEmpty_eq_false_iff, ne_eq, ByteArray.toList_eq]
          intro e
          exact ht (by cases hq : Opts.rest y with | mk d => rw [hq] at e; simp at e; rw [e])
        have HT := Lib.hid ht
        have HTS : Hid ((Opts.rest y).size ≤ maxLen) := Lib.hid (by simp only [maxLen]; omega)
        clear hc101 ht HLT HRS HX0 HY0
        obtain ⟨tt, htt⟩ : ∃ tt, tt = Opts.rest y := ⟨_, rfl⟩
        rw [← htt] at hrx hte HT HTS HPART
        clear htt
        go_wp2_with (first | (at_builtin; refine wpList_append_Own _ rfl (.tmp 46) (.tmp 51) 23 rfl Rep.prt base 38 24 stPrt nob (.slice A n c) ps rfl (HZ.out.own.alloc _) (under (wz.heap.size + 1)) (some ⟨wz.heap.size, 0, none⟩) 1 [(false, tt)] rfl (prtOne wz false tt HTS.out) nob (fun _ h => h.elim) (fun _ h => h) (fun cs x ⟨_, _, h0, h1, h2⟩ => ⟨_, _, h0, h1, h2⟩) (by have := hps.out; simp <;> omega) (by have := hps.out; simp <;> omega) (by have := HZ.out.b.size; simp <;> omega) ?_; intro v3 w3 hown3 hg3 hat3; obtain ⟨A3, n3, c3, rfl, -, k31, k32⟩ := hown3.form; obtain ⟨q1, q2, q3, q4, q5⟩ := (HZ.out.far ((Below.refl _ wz).alloc (Nat.le_refl _) _)).push hg3 hown3; have Q5 := Lib.hid q5; obtain ⟨z0, z1, z2, z3, z4, z5⟩ := oObj_cells q2; clear hown3 hg3 hat3 q5) | (refine wpList_store_opts rfl (.tmp 4) (.tmp 54) rfl (w.heap.size + 1) _ _ _ q4 rfl f _ _ rfl rfl rfl ?_; intro w5 HH5 HG5))
        refine bodyPost_ret (v := .tuple #[.agg (oCells f (.slice A3 n3 c3) (.slice none 0 0)), .int .i64 1, .int .i64 0, .string ⟨#[]⟩]) (word_result _ w5 (w.heap.size + 1) f _ _ _ _ _ HH5.out rfl rfl rfl rfl) rfl ?_
        rw [HPART.out]
        obtain ⟨p1, p2⟩ := Q5.out w5 HG5.out
        show WordAns base w (.slice A n c) ps r _ w5 (.part f false ⟨#[101]⟩ tt)
        simp only [WordAns]
        rw [if_neg HT.out]
        exact ⟨_, rfl, p1, p2⟩
    by_cases hc102 : Opts.letter y = ⟨#[102]⟩
    · have HPART := Lib.hid (HW.out.trans (Opts.word_part f true hy1 (Opts.of_letter hy1 (c := 102) (by decide) hc102)))
      have hlx : y.extract 0 kw = ⟨#[102]⟩ := HLT.out.trans hc102
      rw [hc102] at HPART
      have hrx := HRS.out
      by_cases ht : Opts.rest y = ⟨#[]⟩
      · rw [ht] at hrx HPART
        cases r with
        | nil =>
          obtain rfl : m = 1 := by rw [hm.out]; rfl
          clear hc102 ht HLT HRS HX0 HY0
          go_wp2_with (refine wpList_store_opts rfl (.tmp 4) (.tmp 40) rfl (w.heap.size + 1) _ _ _ HZ.out.res rfl f _ _ rfl rfl rfl ?_; intro w5 HH5 HG5)
          refine bodyPost_ret (v := .tuple #[.agg (oCells f (.slice A n c) (.slice none 0 0)), .int .i64 0, .int .i64 91, .string ⟨#[102]⟩]) (word_result _ w5 (w.heap.size + 1) f _ _ _ _ _ HH5.out rfl rfl rfl rfl) rfl ?_
          rw [HPART.out]
          exact ⟨_, rfl, HZ.out.b.grown HG5.out HZ.out.b.size fun b hb => by cases hb; omega⟩
        | cons y2 r2 =>
          obtain ⟨hy2, hc2⟩ := HY0.out y2 r2 rfl
          have hy2c := hc2 wz HZ.out.b
          have HY2 := Lib.hid hy2
          have hmm : ((m : Int) == 1) = false := by rw [beq_eq_false_iff_ne]; have := hm.out; simp at this; omega
          have hm2 : 2 ≤ m := by have := hm.out; simp at this; omega
          clear hc102 ht HLT HRS HX0 HY0 hc2 hy2
          go_wp2_with (first | (at_builtin; refine wpList_append_Own _ rfl (.tmp 46) (.tmp 51) 23 rfl Rep.prt base 38 24 stPrt nob (.slice A n c) ps rfl (HZ.out.own.alloc _) (under (wz.heap.size + 1)) (some ⟨wz.heap.size, 0, none⟩) 1 [(true, y2)] rfl (prtOne wz true y2 HY2.out) nob (fun _ h => h.elim) (fun _ h => h) (fun cs x ⟨_, _, h0, h1, h2⟩ => ⟨_, _, h0, h1, h2⟩) (by have := hps.out; simp <;> omega) (by have := hps.out; simp <;> omega) (by have := HZ.out.b.size; simp <;> omega) ?_; intro v3 w3 hown3 hg3 hat3; obtain ⟨A3, n3, c3, rfl, -, k31, k32⟩ := hown3.form; obtain ⟨q1, q2, q3, q4, q5⟩ := (HZ.out.far ((Below.refl _ wz).alloc (Nat.le_refl _) _)).push hg3 hown3; have Q5 := Lib.hid q5; obtain ⟨z0, z1, z2, z3, z4, z5⟩ := oObj_cells q2; clear hown3 hg3 hat3 q5) | (refine wpList_store_opts rfl (.tmp 4) (.tmp 54) rfl (w.heap.size + 1) _ _ _ q4 rfl f _ _ rfl rfl rfl ?_; intro w5 HH5 HG5))
          refine bodyPost_ret (v := .tuple #[.agg (oCells f (.slice A3 n3 c3) (.slice none 0 0)), .int .i64 2, .int .i64 0, .string ⟨#[]⟩]) (word_result _ w5 (w.heap.size + 1) f _ _ _ _ _ HH5.out rfl rfl rfl rfl) rfl ?_
          rw [HPART.out]
          obtain ⟨p1, p2⟩ := Q5.out w5 HG5.out
          exact ⟨_, rfl, p1, p2⟩
      · have hte : (Opts.rest y).toList.isEmpty = false := by
          rw [List.isEmpty_eq_false_iff, ne_eq, ByteArray.toList_eq]
          intro e
          exact ht (by cases hq : Opts.rest y with | mk d => rw [hq] at e; simp at e; rw [e])
        have HT := Lib.hid ht
        have HTS : Hid ((Opts.rest y).size ≤ maxLen) := Lib.hid (by simp only [maxLen]; omega)
        clear hc102 ht HLT HRS HX0 HY0
        obtain ⟨tt, htt⟩ : ∃ tt, tt = Opts.rest y := ⟨_, rfl⟩
        rw [← htt] at hrx hte HT HTS HPART
        clear htt
        go_wp2_with (first | (at_builtin; refine wpList_append_Own _ rfl (.tmp 46) (.tmp 51) 23 rfl Rep.prt base 38 24 stPrt nob (.slice A n c) ps rfl (HZ.out.own.alloc _) (under (wz.heap.size + 1)) (some ⟨wz.heap.size, 0, none⟩) 1 [(true, tt)] rfl (prtOne wz true tt HTS.out) nob (fun _ h => h.elim) (fun _ h => h) (fun cs x ⟨_, _, h0, h1, h2⟩ => ⟨_, _, h0, h1, h2⟩) (by have := hps.out; simp <;> omega) (by have := hps.out; simp <;> omega) (by have := HZ.out.b.size; simp <;> omega) ?_; intro v3 w3 hown3 hg3 hat3; obtain ⟨A3, n3, c3, rfl, -, k31, k32⟩ := hown3.form; obtain ⟨q1, q2, q3, q4, q5⟩ := (HZ.out.far ((Below.refl _ wz).alloc (Nat.le_refl _) _)).push hg3 hown3; have Q5 := Lib.hid q5; obtain ⟨z0, z1, z2, z3, z4, z5⟩ := oObj_cells q2; clear hown3 hg3 hat3 q5) | (refine wpList_store_opts rfl (.tmp 4) (.tmp 54) rfl (w.heap.size + 1) _ _ _ q4 rfl f _ _ rfl rfl rfl ?_; intro w5 HH5 HG5))
        refine bodyPost_ret (v := .tuple #[.agg (oCells f (.slice A3 n3 c3) (.slice none 0 0)), .int .i64 1, .int .i64 0, .string ⟨#[]⟩]) (word_result _ w5 (w.heap.size + 1) f _ _ _ _ _ HH5.out rfl rfl rfl rfl) rfl ?_
        rw [HPART.out]
        obtain ⟨p1, p2⟩ := Q5.out w5 HG5.out
        show WordAns base w (.slice A n c) ps r _ w5 (.part f true ⟨#[102]⟩ tt)
        simp only [WordAns]
        rw [if_neg HT.out]
        exact ⟨_, rfl, p1, p2⟩
    have e1 : ((Opts.letter y).toList == [101]) = false := Opts.str_no hc101
    have e2 : ((Opts.letter y).toList == [102]) = false := Opts.str_no hc102
    have hlx : y.extract 0 kw = Opts.letter y := HLT.out
    have hrx : y.extract kw y.size = Opts.rest y := HRS.out
    have HN1 : Hid ((Lib.decodeGo y).1 ≠ 101) := Lib.hid fun h => hc101 (Opts.letter_of hy1 (c := 101) h (by decide))
    have HN2 : Hid ((Lib.decodeGo y).1 ≠ 102) := Lib.hid fun h => hc102 (Opts.letter_of hy1 (c := 102) h (by decide))
    have HLA := Lib.hid (letter_any f A n c y hy1 wz)
    have HY1 := Lib.hid hy1
    clear hc101 hc102 HLT HRS HX0 HY0
    obtain ⟨ly, hly⟩ : ∃ ly, ly = Opts.letter y := ⟨_, rfl⟩
    rw [← hly] at hlx HLA e1 e2
    have HLY := Lib.hid hly
    clear hly
    go_wp2_with fail
    refine HLA.out.mono ?_
    clear HLA
    rintro e w3 ⟨h1, h2, hb3⟩
    have HZ3 : Hid (∀ ob, WSt w (w3.alloc ob) base f (.slice A n c) ps) := Lib.hid fun ob => (HZ.out.far hb3).far ((Below.refl _ w3).alloc (Nat.le_refl _) ob)
    have hlt3 : w.heap.size + 1 < w3.heap.size := by have := (Array.getElem?_eq_some_iff.1 (HZ.out.far hb3).res).1; omega
    clear hb3 k0 k1 k2 k3 k4 k5
    cases hst : Opts.step f (Lib.decodeGo y).1 with
    | some f' =>
      obtain rfl := h1 f' hst
      have HST := Lib.hid hst
      clear h1 h2 hst
      go_wp2_with (refine wpList_store_opts rfl (.tmp 2) (.tmp 66) rfl w.heap.size _ _ _ (HZ3.out _).obj rfl f' _ _ rfl rfl rfl ?_; intro w5 HH5 HG5)
      go_roundg (Opts.rest y).size
      case measure => omega
      case rel => exact ⟨_, f', rfl, rfl, hrl, Lib.hid ((HZ3.out _).turn HG5.out HH5.out), Lib.hid (HW.out.trans (Opts.word_step f f' HY1.out HST.out))⟩
    | none =>
      obtain rfl := h2 hst
      have HBAD := Lib.hid (HW.out.trans (Opts.word_bad f HY1.out hst HN1.out HN2.out))
      clear h1 h2 hst
      have kk := fun ob => oObj_cells (HZ3.out ob).obj
      have k0 := fun ob => (kk ob).1
      have k1 := fun ob => (kk ob).2.1
      have k2 := fun ob => (kk ob).2.2.1
      have k3 := fun ob => (kk ob).2.2.2.1
      have k4 := fun ob => (kk ob).2.2.2.2.1
      have k5 := fun ob => (kk ob).2.2.2.2.2
      clear kk
      go_wp2_with (refine wpList_store_opts rfl (.tmp 4) (.tmp 64) rfl (w.heap.size + 1) _ _ _ (HZ3.out _).res rfl f _ _ rfl rfl rfl ?_; intro w5 HH5 HG5)
      refine bodyPost_ret (v := .tuple #[.agg (oCells f (.slice A n c) (.slice none 0 0)), .int .i64 0, .int .i64 90, .string ly]) (word_result _ w5 (w.heap.size + 1) f _ _ _ _ _ HH5.out rfl rfl rfl rfl) rfl ?_
      rw [HBAD.out, HLY.out]
      exact ⟨_, rfl, (HZ3.out _).b.grown HG5.out (HZ3.out _).b.size fun b hb => by cases hb; omega⟩
end Go.Proofs.YtmjagjcaepbklaaDoor
