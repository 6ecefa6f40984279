/- Texts that lead to the claim, one behind the other: ResolveAgain: the walk. Condition: the reach; the library's variables hold what they hold. -/
import Derived.Test.YtnpideapdjomgaaDoorRA45
import Derived.Test.YtnpideapdjomgaaDoorRA46
import Derived.Test.YtnpideapdjomgaaDoorRA26
namespace Go.Proofs.YtnpideapdjomgaaDoor
open Go.RowKit Go.ChangeShapes Go.WideShapes Go.Deep

theorem ints_wf {W : World} {g : Nat} {l : List Int} (h : W.heap[g]? = some (.cells (intCells l) 3 (0, 0))) (hw : ∀ x ∈ l, (Lit.int .i64 x).wf = true) (hm : l.length ≤ 9223372036854775807) : SliceAt (Rep.int .i64) W (fun b => b = g) (some ⟨g, 0, none⟩) l.length l := by
  refine ⟨Nat.le_refl _, by simp only [maxLen]; omega, by simp, fun i hi => ⟨g, 0, _, rfl, rfl, fun j u hj => ?_, rfl, hw _ (List.getElem_mem hi)⟩⟩
  match j, hj with
  | 0, hj =>
    simp only [List.getElem?_cons_zero, Option.some.injEq] at hj
    subst hj
    rw [cell_of_row W _ _ _ _ (0, 0) h]
    simp [intCells, Rep.int, hi]
theorem small_wf {x : Int} (h : -1 ≤ x ∧ x ≤ 33554433) : (Lit.int .i64 x).wf = true := by
  simp [Lit.wf, IntKind.min, IntKind.max, IntKind.signed, IntKind.bits]; omega
/-- What was resolved, as a program in memory. -/
theorem ResOk.pg {l : List Cm} {w w' : World} {r : List Int × List (List UInt8)} {A1 A3 : Option Addr} {c1 c3 : Nat} {fs : List ByteArray} (h : ResOk l w w' r A1 c1 A3 c3 fs) (hl : l.length ≤ 33554432) (q : Bool) : PgL w' (under w'.heap.size) ⟨l, r.1, fs, q⟩ ⟨A1, c1, some ⟨w.heap.size + 2, 0, none⟩, l.length, A3, c3⟩ := by
  refine ⟨h.cmdsAt.up fun b hb => hb.2, ?_, h.filesAt.up fun b hb => hb.2⟩
  have := ints_of h.tob h.tw (by rw [h.len]; omega)
  rw [h.len] at this
  exact this.up fun b hb => by rw [hb]; exact (Array.getElem?_eq_some_iff.1 h.tob).1
theorem files_inj {fs gs : List ByteArray} (h : fs.map (fun t => t.data.toList) = gs.map (fun t => t.data.toList)) : fs = gs := by
  have := files_same gs fs rfl
  rw [decide_eq_true h] at this
  exact of_decide_eq_true this.symm
theorem good_yes {l : List Cm} {r : List Int × List (List UInt8)} {fs : List ByteArray} {q : Bool} (h : Res.resolve (l.map Cm.rc) = .ok r) (hf : fs.map (fun t => t.data.toList) = r.2) : Pg.good ⟨l, r.1, fs, q⟩ = true := by
  unfold Pg.good
  rw [h]
  simp [hf]
theorem good_more {l : List Cm} {r : List Int × List (List UInt8)} {fs : List ByteArray} {t : ByteArray} {q : Bool} {tos : List Int} (h : Res.resolve (l.map Cm.rc) = .ok r) (hf : fs.map (fun t => t.data.toList) = r.2) : Pg.good ⟨l, tos, fs ++ [t], q⟩ = false := by
  unfold Pg.good
  rw [h]
  have : ¬ (fs ++ [t]).map (fun t => t.data.toList) = r.2 := by
    intro e
    have := congrArg List.length e
    rw [← hf] at this
    simp at this
  show (decide (tos = r.1) && decide ((fs ++ [t]).map (fun t => t.data.toList) = r.2)) = false
  rw [decide_eq_false this, Bool.and_false]
theorem good_turned {l : List Cm} {r : List Int × List (List UInt8)} {fs : List ByteArray} {q : Bool} {k : Nat} {z : Int} (h : Res.resolve (l.map Cm.rc) = .ok r) (hk : k < r.1.length) (hz : z ≠ r.1[k]) : Pg.good ⟨l, r.1.set k z, fs, q⟩ = false := by
  unfold Pg.good
  rw [h]
  have : ¬ r.1.set k z = r.1 := by
    intro e
    have h2 : (r.1.set k z)[k]? = r.1[k]? := by rw [e]
    rw [List.getElem?_set_self hk, List.getElem?_eq_getElem hk] at h2
    exact hz (by injection h2)
  simp [decide_eq_false this]
theorem wrap_turn (v b : Int) (_ : -1 ≤ v ∧ v ≤ 33554433) (hb : -9223372036854775808 ≤ b ∧ b ≤ 9223372036854775807) (h0 : b ≠ 0) : wrap64 (v + b) ≠ v ∧ (Lit.int .i64 (wrap64 (v + b))).wf = true := by
  unfold wrap64
  constructor
  · omega
  · simp [Lit.wf, IntKind.min, IntKind.max, IntKind.signed, IntKind.bits]
    omega
theorem Own.low22 {α : Type} {r : Rep α} {e : TypeId} {w : World} {base base' : Nat} {S : Blocks} {v : Value} {l : List α} (h : Own r e w base S v l) (hb : base' ≤ base) : Own r e w base' S v l := by
  obtain ⟨xs, ⟨h1, h2⟩, h3⟩ := h
  refine ⟨xs, ⟨h1, ?_⟩, h3⟩
  rcases h2 with h2 | ⟨g, cap, cur, a, b, c⟩
  · exact .inl h2
  · exact .inr ⟨g, cap, cur, a, Nat.le_trans hb b, c⟩
theorem resok_five {l : List Cm} {w w' : World} {r : List Int × List (List UInt8)} {A1 A3 : Option Addr} {c1 c3 : Nat} {fs : List ByteArray} (h : ResOk l w w' r A1 c1 A3 c3 fs) : w.heap.size + 3 ≤ w'.heap.size := (Array.getElem?_eq_some_iff.1 h.tob).1
/-- .. with a file more. -/
theorem ResOk.more {l : List Cm} {w4 w5 w8 w9 : World} {r : List Int × List (List UInt8)} {B1 B3 : Option Addr} {d1 d3 : Nat} {gs : List ByteArray} {o : Obj} {t : ByteArray} {C3 : Option Addr} {n3 e3 gq : Nat} {X : Array Value} (h : ResOk l w4 w5 r B1 d1 B3 d3 gs) (hl : l.length ≤ 33554432) (q : Bool) (hb : Below w5.heap.size w5 w8) (h45 : Below w4.heap.size w4 w5)
    {bs : Nat} (ho : Own Rep.str 9 w9 bs nob (.slice C3 n3 e3) (gs ++ [t])) (hg : (w8.alloc o).grownBy w9 (Value.slice B3 gs.length d3).ownBlock) (hgq : w5.heap.size ≤ gq) (hq : w8.heap[gq]? = some (.cells X 28 (0, 0))) (v : Value) :
    PgL (w9.setCell ⟨gq, 2, none⟩ v) (under (w9.setCell ⟨gq, 2, none⟩ v).heap.size) ⟨l, r.1, gs ++ [t], q⟩ ⟨B1, d1, some ⟨w4.heap.size + 2, 0, none⟩, l.length, C3, e3⟩ ∧ Below w4.heap.size w4 (w9.setCell ⟨gq, 2, none⟩ v) ∧ n3 = gs.length + 1 ∧ (w9.setCell ⟨gq, 2, none⟩ v).heap[gq]? = some (.cells (X.setIfInBounds 2 v) 28 (0, 0)) ∧ (∀ k, w9.cell? ⟨gq, k, none⟩ = X[k]?) ∧ w9.frozen? ⟨gq, 2, none⟩ = false := by
  have hlo := h.files.lo
  have hg2 := grown_setCell w9 gq 2 v
  have hgs := hg2.size
  have hs8 : w5.heap.size ≤ (w8.alloc o).heap.size := Nat.le_trans hb.size (by simp)
  have hbA : Below w5.heap.size w5 (w8.alloc o) := hb.alloc hb.size _
  have key : ∀ b, b < w5.heap.size → some b ≠ (Value.slice B3 gs.length d3).ownBlock → (w9.setCell ⟨gq, 2, none⟩ v).heap[b]? = w5.heap[b]? := fun b hb' hne =>
    ((hg2.block b (Nat.lt_of_lt_of_le hb' (Nat.le_trans hs8 hg.size)) (by simp; omega)).trans (hg.block b (Nat.lt_of_lt_of_le hb' hs8) hne)).trans (hbA.block b hb')
  have hsz : w5.heap.size ≤ (w9.setCell ⟨gq, 2, none⟩ v).heap.size := Nat.le_trans hs8 (Nat.le_trans hg.size hgs)
  have hq9 : w9.heap[gq]? = some (.cells X 28 (0, 0)) := by
    have hlt := (Array.getElem?_eq_some_iff.1 hq).1
    refine (hg.block gq (by simp; omega) (fun e => ?_)).trans ((Below.heap_alloc _ _ _ hlt).trans hq)
    have := (hlo gq e.symm).2; omega
  have hb4 : Below w4.heap.size w4 (w9.setCell ⟨gq, 2, none⟩ v) := by
    have h1 : Below w4.heap.size w4 (w8.alloc o) := h45.trans (hbA.mono h45.size)
    have h2 : Below w4.heap.size w4 w9 := h1.grown hg h1.size fun k hk => by have := (hlo k hk).1; omega
    exact h2.grown hg2 h2.size fun k hk => by simp at hk; have := h45.size; omega
  have ho2 := ho.mono hg2 (by
    cases hv : (Value.slice C3 n3 e3).ownBlock with
    | none => exact .inl rfl
    | some k =>
      refine .inr fun e => ?_
      injection e with e
      subst e
      obtain ⟨xs, ⟨_, hvv⟩, _⟩ := ho
      rcases hvv with ⟨hh, _⟩ | ⟨g, cap, cur, hh, _, hgg, _⟩
      · rw [hh] at hv; simp [Value.ownBlock] at hv
      · rw [hh] at hv; simp [Value.ownBlock] at hv
        subst hv
        rw [hgg] at hq9
        simp at hq9) (fun _ h => h.elim)
  refine ⟨⟨?_, ?_, ?_⟩, hb4, ?_, ?_, fun k => cell_of_row w9 gq k _ _ (0, 0) hq9, by simp [World.frozen?, hq9]⟩
  · obtain ⟨S1, h1, h2⟩ := h.cmds
    obtain ⟨A', c', e, hs⟩ := h1.slice
    have hne := h1.ne h.files (by decide)
    simp only [Value.slice.injEq] at e
    obtain ⟨rfl, -, rfl⟩ := e
    refine hs.keep (fun b hb' => ?_) fun b hb' => ?_
    · rcases hb' with hb' | hb'
      · exact Nat.lt_of_lt_of_le hb'.2.1 hsz
      · exact Nat.lt_of_lt_of_le (h2 b hb').2.1 hsz
    · rcases hb' with hb' | hb'
      · refine key b hb'.2.1 ?_
        rcases hne with e | e
        · rw [e] at hb'; exact absurd hb'.2.2 (by simp)
        · rw [hb'.2.2]; exact e
      · exact key b (h2 b hb').2.1 (h2 b hb').2.2
  · have h1 := ints_of (W := w5) h.tob h.tw (by rw [h.len]; omega)
    rw [h.len] at h1
    have hlt := (Array.getElem?_eq_some_iff.1 h.tob).1
    refine h1.keep (fun b hb' => ?_) fun b hb' => ?_
    · rw [hb']; exact Nat.lt_of_lt_of_le hlt hsz
    · rw [hb']
      exact key _ hlt fun e => by have := (hlo _ e.symm).1; omega
  · obtain ⟨A', n', c', e, -, -, -, hs⟩ := ho2.read
    simp only [Value.slice.injEq] at e
    obtain ⟨rfl, -, rfl⟩ := e
    exact hs.up fun b hb' => hb'.2
  · obtain ⟨A', n', c', e, hn', -, -, -⟩ := ho2.read
    simp only [Value.slice.injEq] at e
    rw [e.2.1, hn'.out]; simp
  · rw [setCell_eq_setRow w9 gq 2 _ _ _ v hq9]
    exact setRow_heap w9 gq _ _ _ _ hq9
/-- .. with one number turned. -/
theorem ResOk.turn {l : List Cm} {w2 w3 W : World} {r : List Int × List (List UInt8)} {A1 A3 : Option Addr} {c1 c3 : Nat} {fs : List ByteArray} (h : ResOk l w2 w3 r A1 c1 A3 c3 fs) (hl : l.length ≤ 33554432) (q : Bool) (h23 : Below w2.heap.size w2 w3) (hb : Below w3.heap.size w3 W) (k : Nat) (z : Int) (hz : (Lit.int .i64 z).wf = true) :
    PgL (W.setCell ⟨w2.heap.size + 2, k, none⟩ (.int .i64 z)) (under (W.setCell ⟨w2.heap.size + 2, k, none⟩ (.int .i64 z)).heap.size) ⟨l, r.1.set k z, fs, q⟩ ⟨A1, c1, some ⟨w2.heap.size + 2, 0, none⟩, l.length, A3, c3⟩ ∧ Below w2.heap.size w2 (W.setCell ⟨w2.heap.size + 2, k, none⟩ (.int .i64 z)) ∧ (∀ j, W.cell? ⟨w2.heap.size + 2, j, none⟩ = (intCells r.1)[j]?) ∧ W.frozen? ⟨w2.heap.size + 2, k, none⟩ = false ∧ w2.heap.size + 2 < w3.heap.size := by
  have hlt := (Array.getElem?_eq_some_iff.1 h.tob).1
  have htW : W.heap[w2.heap.size + 2]? = some (.cells (intCells r.1) 3 (0, 0)) := (hb.block _ hlt).trans h.tob
  have hg2 := grown_setCell W (w2.heap.size + 2) k (.int .i64 z)
  have hsz : w3.heap.size ≤ (W.setCell ⟨w2.heap.size + 2, k, none⟩ (.int .i64 z)).heap.size := Nat.le_trans hb.size hg2.size
  have key : ∀ b, btw (w2.heap.size + 5) w3.heap.size b → (W.setCell ⟨w2.heap.size + 2, k, none⟩ (.int .i64 z)).heap[b]? = w3.heap[b]? := fun b hb' =>
    (hg2.block b (Nat.lt_of_lt_of_le hb'.2 hb.size) (by have := hb'.1; simp; omega)).trans (hb.block b hb'.2)
  refine ⟨⟨h.cmdsAt.keep (fun b hb' => Nat.lt_of_lt_of_le hb'.2 hsz) key, ?_, h.filesAt.keep (fun b hb' => Nat.lt_of_lt_of_le hb'.2 hsz) key⟩, ?_, fun j => cell_of_row W _ j _ _ (0, 0) htW, by simp [World.frozen?, htW], hlt⟩
  · have hh : (W.setCell ⟨w2.heap.size + 2, k, none⟩ (.int .i64 z)).heap[w2.heap.size + 2]? = some (.cells (intCells (r.1.set k z)) 3 (0, 0)) := by
      rw [setCell_eq_setRow W _ k _ _ _ _ htW, intCells_set]
      exact setRow_heap W _ _ _ _ _ htW
    have h1 := ints_wf hh (fun x hx => by
      rcases List.mem_or_eq_of_mem_set hx with hx | rfl
      · exact small_wf (h.tw x hx)
      · exact hz) (by rw [List.length_set, h.len]; omega)
    rw [List.length_set, h.len] at h1
    exact h1.up fun b hb' => by rw [hb']; exact Nat.lt_of_lt_of_le hlt hsz
  · have h1 := h23.trans (hb.mono h23.size)
    exact h1.grown hg2 h1.size fun j hj => by simp at hj; omega
set_option maxRecDepth 100000 in
set_option maxHeartbeats 8000000 in
theorem again_law (w : World) (A : Option Addr) (n c : Nat) (l : List Cm) (q : Bool) (a b : Int) (hn : Hid (n = l.length)) (hl : Hid (SliceAt Rep.cm w (under w.heap.size) A c l)) (hE : Hid (Env22 w)) (hr : Hid (∀ x ∈ l, x.reach)) (ha : -9223372036854775808 ≤ a ∧ a ≤ 9223372036854775807) (hb : -9223372036854775808 ≤ b ∧ b ≤ 9223372036854775807) :
    Calls Tryd.prog 5 #[.slice A n c, .bool q, .int .i64 a, .int .i64 b] w fun e w' => e = .returned (.bool true) ∧ Below w.heap.size w w' := by
  have HA := Lib.hid ha
  have HBY := Lib.hid hb
  clear ha hb
  have HK : Hid (∀ W, Below w.heap.size w W → SliceAt Rep.cm W (under W.heap.size) A c l ∧ Env22 W) := Lib.hid fun W hW => ⟨hl.out.keep (fun b h => Nat.lt_of_lt_of_le h hW.size) (Same.of_below hW fun b h => h), hE.out.below hW⟩
  have HWK := Lib.hid (works_any w hE)
  have HBE : Hid (∀ W, Below w.heap.size w W → Calls Tryd.prog 7 #[.slice A n c] W fun e w' => (∃ b : Bool, e = .returned (.bool b) ∧ (b = false → cws l ≤ 16777216)) ∧ Below w.heap.size w w') := Lib.hid fun W hW => by
    refine (beyond_any A n c l W _ hn (Lib.hid (HK.out W hW).1) (Lib.hid fun b h => h) hr).mono ?_
    rintro e w' ⟨h1, h2⟩
    exact ⟨h1, hW.trans (h2.mono hW.size)⟩
  go_enter Tryd.func5, Tryd.ntmps5
  go_upto_if 19 with (first
    | (go_at_call 6; refine HWK.out.mono ?_; rintro _ w1 ⟨rfl, hb1⟩; have HB1 := Lib.hid hb1; clear hb1)
    | (go_at_call 7; refine (HBE.out _ HB1.out).mono ?_; rintro _ w2 ⟨⟨bb, rfl, hbb⟩, hb2⟩; have HBB := Lib.hid hbb; have HB2 := Lib.hid hb2; clear hbb hb2))
  cases bb
  case true =>
    go_wp2_with fail
    go_ret
    exact ⟨rfl, HB2.out⟩
  case false =>
    have hcw := HBB.out rfl
    have HRM : Hid (∀ x ∈ l, x.room) := Lib.hid (room_of hcw hr.out)
    have HNL : Hid (l.length ≤ 16777216) := Lib.hid (Nat.le_trans (cws_len l) hcw)
    have hn24 : n ≤ 16777216 := by rw [hn.out]; exact HNL.out
    clear hcw HBB
    have HR1 := Lib.hid (resolve_any A n c l q w2 _ hn (Lib.hid (HK.out w2 HB2.out).1) (Lib.hid fun b h => h) (Lib.hid (HK.out w2 HB2.out).2) HRM (by omega))
    cases hres : Res.resolve (l.map Cm.rc) with
    | error x =>
      have hx1 := (Res.resolve_code hres).1
      obtain ⟨xc, hxc⟩ : ∃ xc, xc = x.1 := ⟨_, rfl⟩
      have hne : (xc != 0) = true := by rw [hxc]; rcases hx1 with h | h | h | h | h <;> rw [h] <;> rfl
      have HR2 : Hid (Calls Tryd.prog 8 #[.slice A n c, .bool q] w2 fun e w' => (∃ y, e = .returned (.tuple #[.agg #[.slice none 0 0, .slice none 0 0, .slice none 0 0, .bool false], .int .i64 xc, .int .i64 y])) ∧ Below w2.heap.size w2 w') := Lib.hid (HR1.out.mono (by
        rintro e w' ⟨hb, h⟩
        rw [hres] at h
        obtain ⟨hi, rfl⟩ := h
        exact ⟨⟨_, by rw [hxc]⟩, hb⟩))
      clear hx1 hxc hres HR1
      go_wp2_with (go_at_call 8; refine HR2.out.mono ?_; rintro _ w3 ⟨⟨y, rfl⟩, hb3⟩; have HB3 := Lib.hid hb3; clear hb3)
      go_ret
      exact ⟨rfl, HB2.out.trans ((HB3.out.alloc HB3.out.size _).mono HB2.out.size)⟩
    | ok r =>
      have HRES := Lib.hid hres
      have HR2 : Hid (Calls Tryd.prog 8 #[.slice A n c, .bool q] w2 fun e w' => ∃ A1 c1 A3 c3 fs, e = .returned (.tuple #[.agg #[.slice A1 n c1, .slice (some ⟨w2.heap.size + 2, 0, none⟩) n n, .slice A3 fs.length c3, .bool q], .int .i64 0, .int .i64 0]) ∧ ResOk l w2 w' r A1 c1 A3 c3 fs ∧ Below w2.heap.size w2 w') := Lib.hid (HR1.out.mono (by
        rintro e w' ⟨hb, h⟩
        rw [hres] at h
        obtain ⟨A1, c1, A3, c3, fs, rfl, hok⟩ := h
        exact ⟨A1, c1, A3, c3, fs, by rw [hn.out], hok, hb⟩))
      clear hres HR1
      go_upto_region 7 with (go_at_call 8; refine HR2.out.mono ?_; rintro _ w3 ⟨A1, c1, A3, c3, fs, rfl, hok, hb3⟩; have HOK1 := Lib.hid hok; have HB3 := Lib.hid hb3; clear hb3 hok)
      obtain ⟨tb, htb⟩ : ∃ t, t = w2.heap.size + 2 := ⟨_, rfl⟩
      obtain ⟨nf, hnf⟩ : ∃ k, k = fs.length := ⟨_, rfl⟩
      obtain ⟨gp, hgp⟩ : ∃ g, g = w3.heap.size := ⟨_, rfl⟩
      rw [← htb, ← hnf, ← hgp]
      obtain ⟨w4, hw4⟩ : ∃ W, W = w3.alloc (.cells #[.slice A1 n c1, .slice (some ⟨tb, 0, none⟩) n n, .slice A3 nf c3, .bool q] 28) := ⟨_, rfl⟩
      rw [← hw4]
      have HB34 : Hid (Below w3.heap.size w3 w4) := Lib.hid (by rw [hw4]; exact (Below.refl _ _).alloc (Nat.le_refl _) _)
      have HP4 : Hid (w4.heap[gp]? = some (.cells #[.slice A1 n c1, .slice (some ⟨tb, 0, none⟩) n n, .slice A3 nf c3, .bool q] 28 (0, 0))) := Lib.hid (by rw [hw4, hgp]; exact heap_alloc_new _ _)
      have HB4 : Hid (Below w.heap.size w w4) := Lib.hid (HB2.out.trans ((HB3.out.trans (HB34.out.mono HB3.out.size)).mono HB2.out.size))
      have HPC : Hid (∀ W, Below w4.heap.size w4 W → W.cell? ⟨gp, 0, none⟩ = some (.slice A1 n c1) ∧ W.cell? ⟨gp, 1, none⟩ = some (.slice (some ⟨tb, 0, none⟩) n n) ∧ W.cell? ⟨gp, 2, none⟩ = some (.slice A3 nf c3) ∧ W.cell? ⟨gp, 3, none⟩ = some (.bool q)) := Lib.hid fun W hW => by
        have h : ∀ k, W.cell? ⟨gp, k, none⟩ = _ := fun k => cell_of_row W gp k _ _ (0, 0) ((hW.block _ (Array.getElem?_eq_some_iff.1 HP4.out).1).trans HP4.out)
        refine ⟨?_, ?_, ?_, ?_⟩ <;> (rw [h]; rfl)
      have HPG : Hid (∀ W, Below w3.heap.size w3 W → PgL W (under W.heap.size) ⟨l, r.1, fs, q⟩ ⟨A1, c1, some ⟨tb, 0, none⟩, n, A3, c3⟩) := Lib.hid fun W hW => by
        have h := HOK1.out.pg (by have := HNL.out; omega) q
        rw [← hn.out, ← htb] at h
        exact h.keep (fun b h => Nat.lt_of_lt_of_le h hW.size) (Same.of_below hW fun b h => h)
      have HTB := Lib.hid htb
      have HNF := Lib.hid hnf
      have HGP := Lib.hid hgp
      have HR3 : Hid (Calls Tryd.prog 8 #[.slice A1 n c1, .bool q] w4 fun e w' => ∃ B1 d1 B3 d3 gs, e = .returned (.tuple #[.agg #[.slice B1 n d1, .slice (some ⟨w4.heap.size + 2, 0, none⟩) n n, .slice B3 gs.length d3, .bool q], .int .i64 0, .int .i64 0]) ∧ ResOk l w4 w' r B1 d1 B3 d3 gs ∧ Below w4.heap.size w4 w') := Lib.hid ((resolve_any A1 n c1 l q w4 _ hn (Lib.hid (HPG.out w4 HB34.out).cmds) (Lib.hid fun b h => h) (Lib.hid (hE.out.below HB4.out)) HRM (by omega)).mono (by
        rintro e w' ⟨hb, h⟩
        rw [HRES.out] at h
        obtain ⟨A1, c1, A3, c3, fs, rfl, hok⟩ := h
        exact ⟨A1, c1, A3, c3, fs, by rw [hn.out], hok, hb⟩))
      obtain ⟨y0, -, -, -⟩ := HPC.out w4 (Below.refl _ _)
      clear hw4 htb hnf hgp
      go_upto_region 8 with (go_at_call 8; refine HR3.out.mono ?_; rintro _ w5 ⟨B1, d1, B3, d3, gs, rfl, hok, hb5⟩; have HOK2 := Lib.hid hok; have HB5 := Lib.hid hb5; clear hb5 hok)
      obtain ⟨ub, hub⟩ : ∃ t, t = w4.heap.size + 2 := ⟨_, rfl⟩
      obtain ⟨mf, hmf⟩ : ∃ k, k = gs.length := ⟨_, rfl⟩
      obtain ⟨gq, hgq⟩ : ∃ g, g = w5.heap.size := ⟨_, rfl⟩
      rw [← hub, ← hmf, ← hgq]
      obtain ⟨w6, hw6⟩ : ∃ W, W = w5.alloc (.cells #[.slice B1 n d1, .slice (some ⟨ub, 0, none⟩) n n, .slice B3 mf d3, .bool q] 28) := ⟨_, rfl⟩
      rw [← hw6]
      have HB56 : Hid (Below w5.heap.size w5 w6) := Lib.hid (by rw [hw6]; exact (Below.refl _ _).alloc (Nat.le_refl _) _)
      have HQ6 : Hid (w6.heap[gq]? = some (.cells #[.slice B1 n d1, .slice (some ⟨ub, 0, none⟩) n n, .slice B3 mf d3, .bool q] 28 (0, 0))) := Lib.hid (by rw [hw6, hgq]; exact heap_alloc_new _ _)
      have HB46 : Hid (Below w4.heap.size w4 w6) := Lib.hid (HB5.out.trans (HB56.out.mono HB5.out.size))
      have HFE : Hid (gs = fs) := Lib.hid (files_inj (by rw [HOK1.out.fl, HOK2.out.fl]))
      have HQG : Hid (∀ W, Below w5.heap.size w5 W → PgL W (under W.heap.size) ⟨l, r.1, fs, q⟩ ⟨B1, d1, some ⟨ub, 0, none⟩, n, B3, d3⟩) := Lib.hid fun W hW => by
        have h := HOK2.out.pg (by have := HNL.out; omega) q
        rw [← hn.out, ← hub, HFE.out] at h
        exact h.keep (fun b h => Nat.lt_of_lt_of_le h hW.size) (Same.of_below hW fun b h => h)
      have HQC : Hid (∀ W, Below w6.heap.size w6 W → W.cell? ⟨gq, 0, none⟩ = some (.slice B1 n d1) ∧ W.cell? ⟨gq, 1, none⟩ = some (.slice (some ⟨ub, 0, none⟩) n n) ∧ W.cell? ⟨gq, 2, none⟩ = some (.slice B3 mf d3) ∧ W.cell? ⟨gq, 3, none⟩ = some (.bool q)) := Lib.hid fun W hW => by
        have h : ∀ k, W.cell? ⟨gq, k, none⟩ = _ := fun k => cell_of_row W gq k _ _ (0, 0) ((hW.block _ (Array.getElem?_eq_some_iff.1 HQ6.out).1).trans HQ6.out)
        refine ⟨?_, ?_, ?_, ?_⟩ <;> (rw [h]; rfl)
      have HLN : Hid (n = r.1.length) := Lib.hid (by rw [HOK1.out.len, hn.out])
      have HMF : Hid (mf = fs.length) := Lib.hid (by rw [hmf, HFE.out])
      have HUB := Lib.hid hub
      have HGQ := Lib.hid hgq
      have HEP : Hid (Calls Tryd.prog 9 #[.agg #[.slice A1 n c1, .slice (some ⟨tb, 0, none⟩) n n, .slice A3 nf c3, .bool q], .agg #[.slice B1 n d1, .slice (some ⟨ub, 0, none⟩) n n, .slice B3 mf d3, .bool q]] w6 fun e w' => e = .returned (.bool true) ∧ Below w6.heap.size w6 w') := Lib.hid (by
        have := eqProgram_any (p := ⟨l, r.1, fs, q⟩) (q := ⟨l, r.1, fs, q⟩) (w := w6) (Lib.hid (HPG.out w6 (HB34.out.trans (HB46.out.mono HB34.out.size)))) (Lib.hid (HQG.out w6 HB56.out)) (Lib.hid fun b h => h) #[.slice A1 n c1, .slice (some ⟨tb, 0, none⟩) n n, .slice A3 nf c3, .bool q] #[.slice B1 n d1, .slice (some ⟨ub, 0, none⟩) n n, .slice B3 mf d3, .bool q] (by unfold pcells; rw [← hn.out, ← HLN.out, ← HNF.out]) (by unfold pcells; rw [← hn.out, ← HLN.out, ← HMF.out])
        rwa [decide_eq_true rfl] at this)
      have HGD : Hid (∀ W, Below w6.heap.size w6 W → Calls Tryd.prog 15 #[.agg #[.slice A1 n c1, .slice (some ⟨tb, 0, none⟩) n n, .slice A3 nf c3, .bool q]] W fun e w' => e = .returned (.bool true) ∧ Below w6.heap.size w6 w') := Lib.hid fun W hW => by
        have hb4 := HB46.out.trans (hW.mono HB46.out.size)
        have := good_any (p := ⟨l, r.1, fs, q⟩) (w := W) (Lib.hid (HPG.out W (HB34.out.trans (hb4.mono HB34.out.size)))) (Lib.hid fun b h => h) (Lib.hid (hE.out.below (HB4.out.trans (hb4.mono HB4.out.size)))) HRM (Lib.hid (by have := HNL.out; show l.length ≤ _; omega)) #[.slice A1 n c1, .slice (some ⟨tb, 0, none⟩) n n, .slice A3 nf c3, .bool q] (by unfold pcells; rw [← hn.out, ← HLN.out, ← HNF.out])
        rw [good_yes HRES.out HOK1.out.fl] at this
        refine this.mono ?_
        rintro e w' ⟨h1, h2⟩
        exact ⟨h1, hW.trans (h2.mono hW.size)⟩
      clear y0 hw6 hub hmf hgq
      obtain ⟨p0, p1, p2, p3⟩ := HPC.out w6 HB46.out
      obtain ⟨q0, q1, q2, q3⟩ := HQC.out w6 (Below.refl _ _)
      go_upto_if 55 with (first
        | (go_at_call 9; refine HEP.out.mono ?_; rintro _ w7 ⟨rfl, hb7⟩; have HB7 := Lib.hid hb7; obtain ⟨p70, p71, p72, p73⟩ := HPC.out w7 (HB46.out.trans (hb7.mono HB46.out.size)); clear hb7)
        | (go_at_call 15; refine (HGD.out _ HB7.out).mono ?_; rintro _ w8 ⟨rfl, hb8⟩; have HB8 := Lib.hid hb8; clear hb8))
      clear p0 p1 p2 p3 q0 q1 q2 q3 p70 p71 p72 p73
      have HOF : Hid (Own Rep.str 9 w5 (w4.heap.size + 5) nob (.slice B3 mf d3) gs) := Lib.hid (by rw [HMF.out, ← HFE.out]; exact HOK2.out.files)
      have HB58 : Hid (Below w5.heap.size w5 w8) := Lib.hid (HB56.out.trans (HB8.out.mono HB56.out.size))
      have HGL : Hid (gs.length ≤ 16777216) := Lib.hid (by
        have h1 := congrArg List.length HOK2.out.fl
        rw [List.length_map] at h1
        obtain ⟨st, hst, -, -, hf⟩ := Res.resolve_ok HRES.out
        have h2 := Res.files_few (l := l.map Cm.rc) (i := (l.map Cm.rc).length) (Nat.le_refl _) (by rw [List.take_length]; exact hst)
        rw [List.length_map] at h2
        have := HNL.out
        rw [h1, hf]; omega)
      have HNEW : Hid (∀ W : World, SliceAt Rep.str (W.alloc (.cells #[.string ⟨#[109, 111, 114, 101]⟩] 9)) (fun b => b = W.heap.size ∨ nob b) (some ⟨W.heap.size, 0, none⟩) 1 [⟨#[109, 111, 114, 101]⟩]) := Lib.hid fun W => SliceAt.new1 Rep.str W _ _ _ nob ⟨rfl, by decide⟩ (fun _ h => h.elim)
      have HOW : Hid (Own Rep.str 9 (w8.alloc (.cells #[.string ⟨#[109, 111, 114, 101]⟩] 9)) (w4.heap.size + 3) nob (.slice B3 mf d3) gs) := Lib.hid (((HOF.out.far HB58.out).alloc _).low22 (by omega))
      obtain ⟨-, -, q82, -⟩ := HQC.out w8 HB8.out
      have HQ8 : Hid (w8.heap[gq]? = some (.cells #[.slice B1 n d1, .slice (some ⟨ub, 0, none⟩) n n, .slice B3 mf d3, .bool q] 28 (0, 0))) := Lib.hid ((HB8.out.block _ (Array.getElem?_eq_some_iff.1 HQ6.out).1).trans HQ6.out)
      have HMG : Hid (mf = gs.length) := Lib.hid (by rw [HMF.out, HFE.out])
      go_upto_region 11 with (at_builtin; refine wpList_append_Own _ rfl (.tmp 57) (.tmp 58) 26 rfl Rep.str (w4.heap.size + 3) 9 16 stStrs22 nob (.slice B3 mf d3) gs rfl HOW.out _ (some ⟨w8.heap.size, 0, none⟩) 1 [⟨#[109, 111, 114, 101]⟩] rfl (HNEW.out w8) nob (fun _ h => h.elim) (fun _ h => h) (fun _ _ h => h) (by have := HGL.out; simp only [List.length_singleton]; omega) (by have := HGL.out; simp only [List.length_singleton]; omega) (by have := HB58.out.size; have h10 := resok_five HOK2.out; simp; omega) ?_; intro v9 w9 hown hg9 _; obtain ⟨C3, n3, e3, rfl, -, -, -⟩ := hown.form; rw [HMG.out] at hg9; obtain ⟨hpg, hb49, hn3, hq10, hc9, hf9⟩ := HOK2.out.more (by have := HNL.out; omega) q HB58.out HB5.out hown hg9 (by rw [HGQ.out]; exact Nat.le_refl _) HQ8.out (.slice C3 n3 e3); have hc92 : w9.cell? ⟨gq, 2, none⟩ = some (.slice B3 mf d3) := hc9 2; have HPG9 := Lib.hid hpg; have HB49 := Lib.hid hb49; have HN3 := Lib.hid hn3; have HQ10 := Lib.hid hq10; clear hown hg9 hpg hb49 hn3 hq10 hc9)
      obtain ⟨w10, hw10⟩ : ∃ W, W = w9.setCell ⟨gq, 2, none⟩ (.slice C3 n3 e3) := ⟨_, rfl⟩
      rw [← hw10] at HPG9 HB49 HQ10 ⊢
      clear hw10 hc92 hf9 q82
      have HEV : Hid (∀ W, Below w4.heap.size w4 W → Env22 W) := Lib.hid fun W hW => hE.out.below (HB4.out.trans (hW.mono HB4.out.size))
      have q100 : w10.cell? ⟨gq, 0, none⟩ = some (.slice B1 n d1) := (cell_of_row w10 gq 0 _ _ (0, 0) HQ10.out).trans rfl
      have q101 : w10.cell? ⟨gq, 1, none⟩ = some (.slice (some ⟨ub, 0, none⟩) n n) := (cell_of_row w10 gq 1 _ _ (0, 0) HQ10.out).trans rfl
      have q102 : w10.cell? ⟨gq, 2, none⟩ = some (.slice C3 n3 e3) := (cell_of_row w10 gq 2 _ _ (0, 0) HQ10.out).trans rfl
      have q103 : w10.cell? ⟨gq, 3, none⟩ = some (.bool q) := (cell_of_row w10 gq 3 _ _ (0, 0) HQ10.out).trans rfl
      have HG2 : Hid (Calls Tryd.prog 15 #[.agg #[.slice B1 n d1, .slice (some ⟨ub, 0, none⟩) n n, .slice C3 n3 e3, .bool q]] w10 fun e w' => e = .returned (.bool false) ∧ Below w10.heap.size w10 w') := Lib.hid (by
        have := good_any (w := w10) HPG9 (Lib.hid fun b h => h) (Lib.hid (HEV.out _ HB49.out)) HRM (Lib.hid (by have := HNL.out; show l.length ≤ _; omega)) #[.slice B1 n d1, .slice (some ⟨ub, 0, none⟩) n n, .slice C3 n3 e3, .bool q] (by unfold pcells; simp only []; rw [← hn.out, ← HLN.out, HN3.out, HUB.out]; simp)
        rw [good_more HRES.out HOK2.out.fl] at this
        exact this)
      go_upto_region 12 with (go_at_call 15; refine HG2.out.mono ?_; rintro _ w11 ⟨rfl, hb11⟩; have HB11 := Lib.hid hb11; clear hb11)
      have HB4Y : Hid (Below w4.heap.size w4 w11) := Lib.hid (HB49.out.trans (HB11.out.mono HB49.out.size))
      have HBY4 : Hid (Below w.heap.size w w11) := Lib.hid (HB4.out.trans (HB4Y.out.mono HB4.out.size))
      obtain ⟨r0, r1, r2, r3⟩ := HPC.out w11 HB4Y.out
      clear q100 q101 q102 q103
      by_cases hneg : a < 0
      · go_wp2_with fail
        go_ret
        exact ⟨rfl, HBY4.out⟩
      obtain ⟨k, rfl⟩ : ∃ k : Nat, a = k := ⟨a.toNat, by omega⟩
      by_cases hkn : n ≤ k
      · have hkn' : (n : Int) ≤ (k : Int) := by omega
        go_wp2_with fail
        go_ret
        exact ⟨rfl, HBY4.out⟩
      by_cases hb0 : b = 0
      · subst hb0
        go_wp2_with fail
        go_ret
        exact ⟨rfl, HBY4.out⟩
      have hkr : k < r.1.length := by rw [← HLN.out]; omega
      obtain ⟨v, hv⟩ : ∃ v, v = r.1[k] := ⟨_, rfl⟩
      obtain ⟨z, hz⟩ : ∃ z, z = wrap64 (v + b) := ⟨_, rfl⟩
      have hvb := HOK1.out.tw _ (List.getElem_mem hkr)
      rw [← hv] at hvb
      obtain ⟨hz1, hz2⟩ := wrap_turn v b hvb HBY.out hb0
      rw [← hz] at hz1 hz2
      have hB311 : Below w3.heap.size w3 w11 := HB34.out.trans (HB4Y.out.mono HB34.out.size)
      have hB3d : Below w3.heap.size w3 w11.drew := ⟨hB311.os, hB311.tape, hB311.output, hB311.size, hB311.block⟩
      obtain ⟨ht1, ht2, -, -, ht5⟩ := HOK1.out.turn (by have := HNL.out; omega) q HB3.out hB3d k z hz2
      obtain ⟨-, -, ht3, ht4, -⟩ := HOK1.out.turn (by have := HNL.out; omega) q HB3.out hB311 k z hz2
      rw [← HTB.out] at ht1 ht2 ht3 ht4
      have xt : w11.cell? ⟨tb, k, none⟩ = some (.int .i64 v) := by rw [ht3, hv]; simp [intCells, hkr]
      have HT1 := Lib.hid ht1
      have HT2 := Lib.hid ht2
      have HZ1 : Hid (z ≠ r.1[k]) := Lib.hid (by rw [← hv]; exact hz1)
      have HKR := Lib.hid hkr
      have HZ := Lib.hid hz
      have HGP2 : Hid (gp ≠ tb) := Lib.hid (by rw [HGP.out, HTB.out]; omega)
      have HB2W := HB2
      clear hz hz1 hz2 ht1 ht2 ht3 ht5 hv hvb hB311 hB3d
      have hk0 : ¬ ((k : Int) < 0) := by omega
      have hkn2 : ¬ ((n : Int) ≤ (k : Int)) := by omega
      have hkn3 : k < n := by omega
      go_wp2_with fail
      go_region
      all_goals
        rw [← HZ.out, show (w11.setCell ⟨tb, k, none⟩ (.int .i64 z)).drew = w11.drew.setCell ⟨tb, k, none⟩ (.int .i64 z) from rfl]
        obtain ⟨w12, hw12⟩ : ∃ W, W = w11.drew.setCell ⟨tb, k, none⟩ (.int .i64 z) := ⟨_, rfl⟩
        rw [← hw12]
        have hp12 : w12.heap[gp]? = some (.cells #[.slice A1 n c1, .slice (some ⟨tb, 0, none⟩) n n, .slice A3 nf c3, .bool q] 28 (0, 0)) := by
          have hlt := (Array.getElem?_eq_some_iff.1 HP4.out).1
          have h1 : w11.heap[gp]? = some (.cells #[.slice A1 n c1, .slice (some ⟨tb, 0, none⟩) n n, .slice A3 nf c3, .bool q] 28 (0, 0)) := (HB4Y.out.block _ hlt).trans HP4.out
          rw [hw12]
          exact ((grown_setCell w11.drew tb k _).block gp (Nat.lt_of_lt_of_le hlt HB4Y.out.size) (by have := HGP2.out; simp; omega)).trans h1
        rw [← hw12] at HT1 HT2
        have s0 : w12.cell? ⟨gp, 0, none⟩ = some (.slice A1 n c1) := (cell_of_row w12 gp 0 _ _ (0, 0) hp12).trans rfl
        have s1 : w12.cell? ⟨gp, 1, none⟩ = some (.slice (some ⟨tb, 0, none⟩) n n) := (cell_of_row w12 gp 1 _ _ (0, 0) hp12).trans rfl
        have s2 : w12.cell? ⟨gp, 2, none⟩ = some (.slice A3 nf c3) := (cell_of_row w12 gp 2 _ _ (0, 0) hp12).trans rfl
        have s3 : w12.cell? ⟨gp, 3, none⟩ = some (.bool q) := (cell_of_row w12 gp 3 _ _ (0, 0) hp12).trans rfl
        have HBF : Hid (Below w.heap.size w w12) := Lib.hid (HB2.out.trans (HT2.out.mono HB2.out.size))
        have HG3 : Hid (Calls Tryd.prog 15 #[.agg #[.slice A1 n c1, .slice (some ⟨tb, 0, none⟩) n n, .slice A3 nf c3, .bool q]] w12 fun e w' => e = .returned (.bool false) ∧ Below w12.heap.size w12 w') := Lib.hid (by
          have := good_any (w := w12) HT1 (Lib.hid fun b h => h) (Lib.hid (hE.out.below HBF.out)) HRM (Lib.hid (by have := HNL.out; show l.length ≤ _; omega)) #[.slice A1 n c1, .slice (some ⟨tb, 0, none⟩) n n, .slice A3 nf c3, .bool q] (by unfold pcells; simp only []; rw [List.length_set, ← hn.out, ← HLN.out, ← HNF.out])
          rw [good_turned HRES.out HKR.out HZ1.out] at this
          exact this)
        clear hw12 hp12
        go_wp2_with (go_at_call 15; refine HG3.out.mono ?_; rintro _ w13 ⟨rfl, hb13⟩; have HB13 := Lib.hid hb13; clear hb13)
        go_ret
        exact ⟨rfl, HBF.out.trans (HB13.out.mono HBF.out.size)⟩
end Go.Proofs.YtnpideapdjomgaaDoor
