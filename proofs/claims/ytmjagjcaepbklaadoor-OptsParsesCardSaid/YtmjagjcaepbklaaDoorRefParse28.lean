/- The document's reading of a command line: the walk of galleyref28.Parse. Condition: at most 2^32 words. -/
import Derived.Test.YtmjagjcaepbklaaDoorRefWord28b
import Derived.Deep.RegionWith
import Derived.Deep.RegionLaw
namespace Go.Proofs.YtmjagjcaepbklaaDoor
open Go.RowKit

theorem refp_result (tmps : Array Value) (w' : World) (G : Nat) (f : Opts.Fl) (v1 v2 v3 v4 : Value) (h : w'.heap[G]? = some (oObj f v1 v2)) (h2 : tmps.getD 2 undef = .pointer (some ⟨G, 0, none⟩)) (h3 : tmps.getD 3 undef = v3) (h4 : tmps.getD 4 undef = v4) :
    (results Tryd.f14 tmps).run Tryd.prog w' = .ok (.tuple #[.agg (oCells f v1 v2), v3, v4]) w' := by
  obtain ⟨q, e, a, i⟩ := f
  obtain ⟨c0, c1, c2, c3, c4, c5⟩ := oObj_cells h
  simp only [Array.getD_eq_getD_getElem?] at h2 h3 h4
  simp [results, Tryd.results14, go_sem, oCells, *]
section
variable {w wr w3 : World} {f : Opts.Fl} {v v' : Value} {ps ps' : List Opts.Prt}
/-- Behind a word: what is there still, and what a store into the options makes of it. -/
theorem OSt.word (h : OSt w wr f v ps) (ho : Only (fun b => v.ownBlock = some b) wr w3) (hown : Own Rep.prt 38 w3 w.heap.size nob v' ps') :
    w3.heap[w.heap.size + 1]? = some (oObj f v (.slice none 0 0)) ∧ w3.heap[w.heap.size]? = some (oObj none_ (.slice none 0 0) (.slice none 0 0)) ∧ Below w.heap.size w w3 ∧
      ∀ w5 f', w3.grownBy w5 (some (w.heap.size + 1)) → w5.heap[w.heap.size + 1]? = some (oObj f' v' (.slice none 0 0)) → OSt w w5 f' v' ps' := by
  have l1 := (Array.getElem?_eq_some_iff.1 h.obj).1
  have hz := ho.size
  have hobj : w3.heap[w.heap.size + 1]? = some (oObj f v (.slice none 0 0)) := (ho.block _ l1 (fun e => h.ne.1 e)).trans h.obj
  have hres : w3.heap[w.heap.size]? = some (oObj none_ (.slice none 0 0) (.slice none 0 0)) := (ho.block _ (by omega) (fun e => h.ne.2 e)).trans h.res
  have hb : Below w.heap.size w w3 := h.b.trans (ho.below h.b.size fun b hb => (h.own.block_lt hb).1)
  refine ⟨hobj, hres, hb, fun w5 f' hg h5 => ⟨(hg.block _ (Array.getElem?_eq_some_iff.1 hres).1 (by simp)).trans hres, h5, ?_, hb.grown hg hb.size fun b hb => by cases hb; omega⟩⟩
  exact hown.mono hg (.inr (hown.ne_block hobj (by decide))) (fun _ h => h.elim)
/-- Behind the region that calls 'word': the answer's box, what has turned. -/
def AfterW (wr wc : World) (v : Value) (B : Nat) (v' : Value) (ps' : List Opts.Prt) (f' : Opts.Fl) (bx : Nat) : Prop :=
  wr.heap.size ≤ bx ∧ wc.heap[bx]? = some (oObj f' v' (.slice none 0 0)) ∧ Only (fun b => v.ownBlock = some b) wr wc ∧ Own Rep.prt 38 wc B nob v' ps'
theorem afterA {B : Nat} {f' : Opts.Fl} (p2 : Only (fun b => v.ownBlock = some b) wr.drew w3) (p1 : Own Rep.prt 38 w3 B nob v' ps') :
    AfterW wr (w3.alloc (.cells #[.bool f'.q, .bool f'.e, .bool f'.a, .bool f'.i, v', .slice none 0 0] 25)) v B v' ps' f' w3.heap.size :=
  ⟨p2.size, heap_alloc_new _ _, ⟨p2.os, p2.tape, p2.output, p2.size, p2.block⟩ |> fun (h : Only (fun b => v.ownBlock = some b) wr w3) => h.alloc _, p1.alloc _⟩
theorem afterB {B : Nat} {f' : Opts.Fl} {zz : Obj} (p2 : Only (fun b => v.ownBlock = some b) (wr.alloc zz).drew w3) (p1 : Own Rep.prt 38 w3 B nob v' ps') (hbx : w3.heap[wr.heap.size]? = some (oObj none_ (.slice none 0 0) (.slice none 0 0))) :
    AfterW wr ((((((w3.setCell ⟨wr.heap.size, 0, none⟩ (.bool f'.q)).setCell ⟨wr.heap.size, 1, none⟩ (.bool f'.e)).setCell ⟨wr.heap.size, 2, none⟩ (.bool f'.a)).setCell ⟨wr.heap.size, 3, none⟩ (.bool f'.i)).setCell ⟨wr.heap.size, 4, none⟩ v').setCell ⟨wr.heap.size, 5, none⟩ (.slice none 0 0)) v B v' ps' f' wr.heap.size := by
  have hal : Only (fun b => v.ownBlock = some b) wr (wr.alloc zz) := (Only.refl _ _).alloc zz
  have h3 : Only (fun b => v.ownBlock = some b) wr w3 := hal.trans (show Only (fun b => v.ownBlock = some b) (wr.alloc zz) w3 from ⟨p2.os, p2.tape, p2.output, p2.size, p2.block⟩) fun b hb => .inl hb
  have hs : ∀ (W : World) (k : Nat) (u : Value), Only (fun b => b = wr.heap.size) w3 W → Only (fun b => b = wr.heap.size) w3 (W.setCell ⟨wr.heap.size, k, none⟩ u) := fun W k u h => h.setCell (.inl rfl) u
  have h6 : Only (fun b => b = wr.heap.size) w3 ((((((w3.setCell ⟨wr.heap.size, 0, none⟩ (.bool f'.q)).setCell ⟨wr.heap.size, 1, none⟩ (.bool f'.e)).setCell ⟨wr.heap.size, 2, none⟩ (.bool f'.a)).setCell ⟨wr.heap.size, 3, none⟩ (.bool f'.i)).setCell ⟨wr.heap.size, 4, none⟩ v').setCell ⟨wr.heap.size, 5, none⟩ (.slice none 0 0)) :=
    hs _ _ _ (hs _ _ _ (hs _ _ _ (hs _ _ _ (hs _ _ _ (hs _ _ _ (Only.refl _ w3))))))
  refine ⟨Nat.le_refl _, ?_, h3.trans h6 fun b hb => .inr (by rw [hb]; exact Nat.le_refl _), p1.only h6 fun b hb e => ?_⟩
  · simp [World.setCell, Array.getElem?_modify, hbx, oObj, oCells]
  · rw [e] at hb
    exact p1.ne_block hbx (by decide) hb
/-- A word's answer, whatever it is. -/
def WordR (ps : List Opts.Prt) (r : List ByteArray) (o : Opts.Fl) (ps' : List Opts.Prt) (k er : Nat) (st : ByteArray) : Opts.Out → Prop
  | .done f => o = f ∧ ps' = ps ∧ k = 1 ∧ er = 0
  | .bad s => er = 90 ∧ st = s
  | .part f b s t => if t = ⟨#[]⟩ then
      match r with
      | [] => er = 91 ∧ st = s
      | y :: _ => o = f ∧ ps' = ps ++ [(b, y)] ∧ k = 2 ∧ er = 0
    else o = f ∧ ps' = ps ++ [(b, t)] ∧ k = 1 ∧ er = 0
theorem wordU {B : Nat} {W W' : World} {A : Option Addr} {n c : Nat} {r : List ByteArray} {e : Ending} {x : Opts.Out} (h : WordAns B W (.slice A n c) ps r e W' x) (ho : Own Rep.prt 38 W B nob (.slice A n c) ps) :
    ∃ (o : Opts.Fl) (A3 : Option Addr) (n3 c3 k er : Nat) (st : ByteArray) (ps' : List Opts.Prt), e = .returned (.tuple #[.agg #[.bool o.q, .bool o.e, .bool o.a, .bool o.i, .slice A3 n3 c3, .slice none 0 0], .int .i64 k, .int .i64 er, .string st]) ∧
      Own Rep.prt 38 W' B nob (.slice A3 n3 c3) ps' ∧ Only (fun b => (Value.slice A n c).ownBlock = some b) W W' ∧ Hid (WordR ps r o ps' k er st x) := by
  cases x with
  | done f => exact ⟨f, A, n, c, 1, 0, ⟨#[]⟩, ps, h.1, ho.far h.2, Only.of_below h.2 _, Lib.hid ⟨rfl, rfl, rfl, rfl⟩⟩
  | bad s =>
    obtain ⟨o, he, hb⟩ := h
    exact ⟨o, A, n, c, 0, 90, s, ps, he, ho.far hb, Only.of_below hb _, Lib.hid ⟨rfl, rfl⟩⟩
  | part f b s t =>
    simp only [WordAns] at h
    by_cases ht : t = ⟨#[]⟩
    · rw [if_pos ht] at h
      cases r with
      | nil =>
        obtain ⟨o, he, hb⟩ := h
        exact ⟨o, A, n, c, 0, 91, s, ps, he, ho.far hb, Only.of_below hb _, Lib.hid (by show (if t = (⟨#[]⟩ : ByteArray) then _ else _); rw [if_pos ht]; exact ⟨rfl, rfl⟩)⟩
      | cons y r2 =>
        obtain ⟨v', he, p1, p2⟩ := h
        obtain ⟨A3, n3, c3, rfl, -, -, -⟩ := p1.form
        exact ⟨f, A3, n3, c3, 2, 0, ⟨#[]⟩, _, he, p1, p2, Lib.hid (by show (if t = (⟨#[]⟩ : ByteArray) then _ else _); rw [if_pos ht]; exact ⟨rfl, rfl, rfl, rfl⟩)⟩
    · rw [if_neg ht] at h
      obtain ⟨v', he, p1, p2⟩ := h
      obtain ⟨A3, n3, c3, rfl, -, -, -⟩ := p1.form
      exact ⟨f, A3, n3, c3, 1, 0, ⟨#[]⟩, _, he, p1, p2, Lib.hid (by show (if t = (⟨#[]⟩ : ByteArray) then _ else _); rw [if_neg ht]; exact ⟨rfl, rfl, rfl, rfl⟩)⟩
/-- One row made, ahead of a draw. -/
theorem OSt.one' (h : OSt w wr f v ps) (b : Bool) (x : ByteArray) (hx : x.size ≤ maxLen) :
    OSt w ((wr.setCell ⟨w.heap.size + 1, 4, none⟩ (.slice (some ⟨wr.heap.size, 0, none⟩) 1 1)).alloc (.cells #[.bool b, .string x] 38)) f (.slice (some ⟨wr.heap.size, 0, none⟩) 1 1) [(b, x)] := by
  have h2 := h.one b x hx
  exact ⟨h2.res, h2.obj, by
    obtain ⟨xs, hx1, hrest⟩ := h2.own
    exact ⟨xs, hx1, hrest⟩, ⟨h2.b.os, h2.b.tape, h2.b.output, h2.b.size, h2.b.block⟩⟩
end
theorem isOpt_size {x : ByteArray} (h : Opts.isOpt x = true) : 1 ≤ x.size := by
  unfold Opts.isOpt at h
  simp only [Bool.and_eq_true, decide_eq_true_eq] at h
  omega
theorem tail_ne {x : ByteArray} (h : Opts.isOpt x = true) (hd : x ≠ ⟨#[45, 45]⟩) : Opts.tail x ≠ ⟨#[45]⟩ := by
  intro ht
  have h1 : 1 < x.size := by
    unfold Opts.isOpt at h
    simp only [Bool.and_eq_true, decide_eq_true_eq] at h
    omega
  have h2 : x.get! 0 = 45 := by
    unfold Opts.isOpt at h
    simp only [Bool.and_eq_true, beq_iff_eq] at h
    exact h.2
  rw [Opts.get!_zero h1] at h2
  have hs : x.size = 2 := by
    have := congrArg ByteArray.size ht
    unfold Opts.tail at this
    rw [ByteArray.size_extract] at this
    have e1 : (⟨#[45]⟩ : ByteArray).size = 1 := rfl
    omega
  refine hd ?_
  obtain ⟨d⟩ := x
  have hd2 : d.size = 2 := hs
  apply ByteArray.ext
  apply Array.ext
  · simpa using hd2
  · intro j hj hj'
    have hj2 : j < 2 := by omega
    rcases (show j = 0 ∨ j = 1 by omega) with rfl | rfl
    · exact h2
    · have e2 := congrArg ByteArray.data ht
      have e3 : d.extract 1 d.size = #[45] := by
        simp only [Opts.tail, ByteArray.data_extract] at e2
        exact e2
      have e4 := congrArg (fun y : Array UInt8 => y[0]?) e3
      have e5 : d[1]? = some 45 := by simpa [Array.getElem?_extract, hd2] using e4
      exact (Array.getElem?_eq_some_iff.1 e5).2
/-- Is the word at a place the two dashes? -/
def ddash (l : List ByteArray) (i : Nat) : Bool := decide (l[i]? = some ⟨#[45, 45]⟩)
theorem ddash_at {l : List ByteArray} {i : Nat} (h : i < l.length) : ddash l i = decide (l[i] = ⟨#[45, 45]⟩) := by
  unfold ddash
  rw [List.getElem?_eq_getElem h]
  simp
theorem ddash_past {l : List ByteArray} {i : Nat} (h : l.length ≤ i) : ddash l i = false := by
  unfold ddash
  rw [List.getElem?_eq_none h]
  simp
/-- Options with their files on the way. -/
structure OSt2 (w wr : World) (f : Opts.Fl) (v u : Value) (ps : List Opts.Prt) (fs : List ByteArray) : Prop where
  res : wr.heap[w.heap.size]? = some (oObj none_ (.slice none 0 0) (.slice none 0 0))
  obj : wr.heap[w.heap.size + 1]? = some (oObj f v u)
  own : Own Rep.prt 38 wr w.heap.size nob v ps
  ownF : Own Rep.str 9 wr w.heap.size nob u fs
  b : Below w.heap.size w wr
section
variable {w wr w' w3 : World} {f : Opts.Fl} {v u u' : Value} {ps : List Opts.Prt} {fs fs' : List ByteArray}
theorem OSt.two (h : OSt w wr f v ps) : OSt2 w wr f v (.slice none 0 0) ps [] := ⟨h.res, h.obj, h.own, Own.nil _ _ _ _, h.b⟩
theorem OSt2.far (h : OSt2 w wr f v u ps fs) (hb : Below wr.heap.size wr w') : OSt2 w w' f v u ps fs :=
  ⟨(hb.block _ (Array.getElem?_eq_some_iff.1 h.res).1).trans h.res, (hb.block _ (Array.getElem?_eq_some_iff.1 h.obj).1).trans h.obj, h.own.far hb, h.ownF.far hb, h.b.trans (hb.mono h.b.size)⟩
theorem OSt2.push (h : OSt2 w wr f v u ps fs) (hg : wr.grownBy w3 u.ownBlock) (ho : Own Rep.str 9 w3 w.heap.size nob u' fs') :
    w3.frozen? ⟨w.heap.size + 1, 5, none⟩ = false ∧ w3.cell? ⟨w.heap.size + 1, 5, none⟩ = some u ∧ OSt2 w (w3.setCell ⟨w.heap.size + 1, 5, none⟩ u') f v u' ps fs' := by
  have hres : w3.heap[w.heap.size]? = some (oObj none_ (.slice none 0 0) (.slice none 0 0)) := (hg.block _ (Array.getElem?_eq_some_iff.1 h.res).1 (fun e => h.ownF.ne_block h.res (by decide) e.symm)).trans h.res
  have hobj : w3.heap[w.heap.size + 1]? = some (oObj f v u) := (hg.block _ (Array.getElem?_eq_some_iff.1 h.obj).1 (fun e => h.ownF.ne_block h.obj (by decide) e.symm)).trans h.obj
  have hp : Own Rep.prt 38 w3 w.heap.size nob v ps := h.own.mono hg (by
    cases hv : v.ownBlock with
    | none => exact .inl rfl
    | some b => exact .inr fun e => h.own.ne_type h.ownF (by decide) hv e.symm) (fun _ h => h.elim)
  refine ⟨by simp [World.frozen?, hobj, oObj], cell_of_row w3 _ 5 _ _ (0, 0) hobj, ?_, ?_, ?_, ?_, ?_⟩
  · simp only [World.setCell, Array.getElem?_modify]
    rw [if_neg (by omega)]
    exact hres
  · simp [World.setCell, Array.getElem?_modify, hobj, oObj, oCells]
  · exact hp.mono (setCell_grown _ _ _ _) (.inr (hp.ne_block hobj (by decide))) (fun _ h => h.elim)
  · exact ho.mono (setCell_grown _ _ _ _) (.inr (ho.ne_block hobj (by decide))) (fun _ h => h.elim)
  · exact (below_own h.b h.ownF hg h.b.size).grown (setCell_grown _ _ _ _) (Nat.le_trans h.b.size hg.size) (fun k hk => by cases hk; omega)
end
set_option maxRecDepth 100000 in
set_option maxHeartbeats 16000000 in
theorem refParse_any (A : Option Addr) (n c : Nat) (l : List ByteArray) (w : World) (hn : Hid (n = l.length)) (hl : Hid (SliceAt Rep.str w (under w.heap.size) A c l)) (hb : n ≤ 4294967296) :
    Calls Tryd.prog 14 #[.slice A n c] w fun e w' => OParsed w e w' (Opts.parse l) ∧ Below w.heap.size w w' := by
  have HS := Lib.hid (OSt.start w)
  have hnc : n ≤ c := by rw [hn.out]; exact hl.out.len
  have hcm := hl.out.max
  have hsl : ∀ (W : World) (k : Nat), k ≤ n → (Instr.sliceAt 22 (.slice A n c) (some (.int .i64 (k : Int))) none none).run Tryd.prog W = .ok (.slice (cutA A c k 1) (n - k) (c - k)) W := fun W k hk => run_slice_from W stStr A n c k hk
  have HSL := Lib.hid hsl
  clear hsl
  go_enter Tryd.func14, Tryd.ntmps14
  go_upto_block 0 with fail
  go_cut [6] from 7 (fun v6 wc => ∃ (i : Nat) (f : Opts.Fl) (v : Value) (ps : List Opts.Prt), v6 = .int .i64 i ∧ i ≤ n ∧ Hid (OSt w wc f v ps) ∧ Hid (ps.length ≤ i) ∧ Hid (Opts.parse l = Opts.finA (Opts.words ⟨f, ps, l.drop i⟩)) ∧ Hid (∀ h : i < l.length, l[i] ≠ ⟨#[45, 45]⟩ → Opts.isOpt l[i] = false))
  case first =>
    go_wp2_with fail
    go_loopg [6, 7, 8, 9, 10] n (fun k v6 v7 v8 v9 v10 wr => ∃ (i : Nat) (f : Opts.Fl) (v : Value) (ps : List Opts.Prt), v6 = .int .i64 i ∧ k = n - i ∧ i ≤ n ∧ Hid (OSt w wr f v ps) ∧ Hid (ps.length ≤ i) ∧ Hid (Opts.parse l = Opts.finA (Opts.words ⟨f, ps, l.drop i⟩)))
    case atStart => exact ⟨0, none_, _, [], rfl, rfl, Nat.zero_le _, HS, Lib.hid (by simp), Lib.hid rfl⟩
    case round =>
      obtain ⟨i, f, v, ps, rfl, rfl, hi, HO, HP, HF⟩ := hrel
      by_cases hin : i < n
      · have hil : i < l.length := by have := hn.out; omega
        obtain ⟨g, o, rfl, -, hx0, hxs⟩ := (hl.out.keep (fun _ h => h) (Same.of_below HO.out.b fun _ h => h)).texts hil
        obtain ⟨x, hx⟩ : ∃ x, x = l[i] := ⟨_, rfl⟩
        have HX := Lib.hid hx
        have HD : Hid (l.drop i = x :: l.drop (i + 1)) := Lib.hid (by rw [hx]; exact List.drop_eq_getElem_cons hil)
        rw [← hx] at hx0 hxs
        clear hx
        rw [HD.out] at HF
        have HIS := Lib.hid (is_any x wr hxs)
        by_cases hopt : Opts.isOpt x = true
        · rw [hopt] at HIS
          by_cases hdd : x = ⟨#[45, 45]⟩
          · have HDD := Lib.hid hdd
            subst hdd
            go_wp2_with fail
            refine HIS.out.mono ?_
            rintro e w2 ⟨rfl, rfl⟩
            go_wp2_with fail
            go_meet
            case rel => exact ⟨i, f, v, ps, rfl, hi, HO, HP, Lib.hid (by rw [HD.out]; exact HF.out), Lib.hid fun h hne => absurd HX.out.symm hne⟩
          · have hddf : (x.toList == [45, 45]) = false := Opts.str_no hdd
            have HTL : Hid (Opts.tail x ≠ ⟨#[45]⟩) := Lib.hid (tail_ne hopt hdd)
            have HG := Lib.hid (HF.out.trans (congrArg Opts.finA (Opts.words_word f ps x (l.drop (i + 1)) hopt HTL.out)))
            have hx1 : 1 ≤ x.size := isOpt_size hopt
            obtain ⟨A1, n1, c1, rfl, HN1, hnc1, hcm1⟩ := HO.out.own.form
            obtain ⟨k0, k1, k2, k3, k4, k5⟩ := HO.out.cells
            have hs1 := fun W => HSL.out W i hi
            have hlen : n - i = (x :: l.drop (i + 1)).length := by rw [← HD.out, List.length_drop, hn.out]
            have HLEN := Lib.hid hlen
            clear hlen
            have HWA : Hid (∀ W, Below wr.heap.size wr W → Calls Tryd.prog 33 #[.agg #[.bool f.q, .bool f.e, .bool f.a, .bool f.i, .slice A1 n1 c1, .slice none 0 0], .slice (cutA (some ⟨g, o, none⟩) c i 1) (n - i) (c - i)] W fun e w' =>
                ∃ (o : Opts.Fl) (A3 : Option Addr) (n3 c3 k er : Nat) (st : ByteArray) (ps' : List Opts.Prt), e = .returned (.tuple #[.agg #[.bool o.q, .bool o.e, .bool o.a, .bool o.i, .slice A3 n3 c3, .slice none 0 0], .int .i64 k, .int .i64 er, .string st]) ∧
                  Own Rep.prt 38 w' w.heap.size nob (.slice A3 n3 c3) ps' ∧ Only (fun b => (Value.slice A1 n1 c1).ownBlock = some b) W w' ∧ Hid (WordR ps (l.drop (i + 1)) o ps' k er st (Opts.word f (Opts.tail x)))) := Lib.hid fun W hW => by
              have hOW := HO.out.far hW
              refine (word_any w.heap.size f A1 _ n1 c1 (n - i) (c - i) ps x (l.drop (i + 1)) W (Lib.hid hOW.own) hOW.b.size (Lib.hid (by have := HP.out; omega)) HLEN (Lib.hid ?_) hx1).mono fun e w' h => wordU h hOW.own
              rw [← HD.out]
              exact (((hl.out.cutFromA (i := i) (s := 1) (by omega) rfl).keep (fun _ h => h) (Same.of_below hOW.b fun _ h => h)).up (fun b hb => Nat.lt_of_lt_of_le hb hOW.b.size))
            have HLT : Hid (∀ b, (Value.slice A1 n1 c1).ownBlock = some b → b < wr.heap.size) := Lib.hid fun b hb => (HO.out.own.block_lt hb).2
            have hdk0 : wr.drew.cell? ⟨w.heap.size + 1, 0, none⟩ = some (.bool f.q) := k0
            have hdk1 : wr.drew.cell? ⟨w.heap.size + 1, 1, none⟩ = some (.bool f.e) := k1
            have hdk2 : wr.drew.cell? ⟨w.heap.size + 1, 2, none⟩ = some (.bool f.a) := k2
            have hdk3 : wr.drew.cell? ⟨w.heap.size + 1, 3, none⟩ = some (.bool f.i) := k3
            have hdk4 : wr.drew.cell? ⟨w.heap.size + 1, 4, none⟩ = some (.slice A1 n1 c1) := k4
            have hdk5 : wr.drew.cell? ⟨w.heap.size + 1, 5, none⟩ = some (.slice none 0 0) := k5
            have hak := fun ob => (HO.out.far (((Below.refl _ wr).alloc (Nat.le_refl _) ob).drew)).cells
            have a0 := fun ob => (hak ob).1
            have a1 := fun ob => (hak ob).2.1
            have a2 := fun ob => (hak ob).2.2.1
            have a3 := fun ob => (hak ob).2.2.2.1
            have a4 := fun ob => (hak ob).2.2.2.2.1
            have a5 := fun ob => (hak ob).2.2.2.2.2
            clear hak
            clear k0 k1 k2 k3 k4 k5
            go_wp2_with fail
            refine HIS.out.mono ?_
            rintro e w2 ⟨rfl, rfl⟩
            go_upto_region 4 with fail
            go_cut [7, 8, 9, 10] from 30 to 48 (fun v7 v8 v9 v10 wc => ∃ (bx k er A3n A3c : Nat) (A3 : Option Addr) (st : ByteArray) (o3 : Opts.Fl) (ps' : List Opts.Prt), v7 = .pointer (some ⟨bx, 0, none⟩) ∧ v8 = .int .i64 k ∧ v9 = .int .i64 er ∧ v10 = .string st ∧ Hid (AfterW wr wc (.slice A1 n1 c1) w.heap.size (.slice A3 A3n A3c) ps' o3 bx) ∧ Hid (WordR ps (l.drop (i + 1)) o3 ps' k er st (Opts.word f (Opts.tail x))))
            case first =>
              go_region_with (first | (go_at_call 33; refine (HWA.out _ (by first | exact (Below.refl _ wr).drew | exact ((Below.refl _ wr).alloc (Nat.le_refl _) _).drew)).mono ?_; rintro e w3 ⟨o3, A3, n3, c3, k, er, st, ps', rfl, p1, p2, p3⟩; try (have hbx : w3.heap[wr.heap.size]? = some (oObj none_ (.slice none 0 0) (.slice none 0 0)) := (p2.block wr.heap.size (by simp) (fun e => absurd (HLT.out _ e) (Nat.lt_irrefl _))).trans (heap_alloc_new wr _); obtain ⟨b0, b1, b2, b3, b4, b5⟩ := oObj_cells hbx; have y0 := oObj_free (k := 0) hbx; have y1 := oObj_free (k := 1) hbx; have y2 := oObj_free (k := 2) hbx; have y3 := oObj_free (k := 3) hbx; have y4 := oObj_free (k := 4) hbx; have y5 := oObj_free (k := 5) hbx)))
              all_goals
                go_wp2_with fail
                go_meet
                case rel => first | (have hq := hbx; exact ⟨_, _, _, _, _, _, _, _, _, rfl, rfl, rfl, rfl, Lib.hid (afterB p2 p1 hq), p3⟩) | exact ⟨_, _, _, _, _, _, _, _, _, rfl, rfl, rfl, rfl, Lib.hid (afterA p2 p1), p3⟩
            case rest =>
              obtain ⟨bx, k, er, n3, c3, A3, st, o3, ps', rfl, rfl, rfl, rfl, HAF, HWR⟩ := hcut
              have HQ := Lib.hid (HO.out.word HAF.out.2.2.1 HAF.out.2.2.2)
              obtain ⟨w0, w1, w2, w3, w4, w5⟩ := oObj_cells HAF.out.2.1
              have HK : Hid ((er = 0 ∧ i + k ≤ n ∧ 1 ≤ k ∧ ps'.length ≤ ps.length + 1 ∧ Opts.parse l = Opts.finA (Opts.words ⟨o3, ps', l.drop (i + k)⟩)) ∨ (er = 90 ∧ Opts.parse l = .fault 90 st) ∨ (er = 91 ∧ Opts.parse l = .fault 91 st)) := Lib.hid (by
                have h1 := HWR.out
                have h2 := HG.out
                cases hwd : Opts.word f (Opts.tail x) with
                | done f' =>
                  rw [hwd] at h1 h2
                  obtain ⟨rfl, rfl, rfl, rfl⟩ := h1
                  exact .inl ⟨rfl, hin, Nat.le_refl _, by omega, h2⟩
                | bad s =>
                  rw [hwd] at h1 h2
                  obtain ⟨rfl, rfl⟩ := h1
                  exact .inr (.inl ⟨rfl, h2⟩)
                | part f' b s t =>
                  rw [hwd] at h1 h2
                  simp only [WordR, Opts.goOn] at h1 h2
                  by_cases ht : t = ⟨#[]⟩
                  · rw [if_pos ht] at h1 h2
                    cases hr : l.drop (i + 1) with
                    | nil =>
                      rw [hr] at h1 h2
                      obtain ⟨rfl, rfl⟩ := h1
                      exact .inr (.inr ⟨rfl, h2⟩)
                    | cons y r2 =>
                      rw [hr] at h1 h2
                      obtain ⟨rfl, rfl, rfl, rfl⟩ := h1
                      have h3 : l.drop (i + 2) = r2 := by
                        have : l.drop (i + 2) = (l.drop (i + 1)).drop 1 := by rw [List.drop_drop]
                        rw [this, hr]; rfl
                      refine .inl ⟨rfl, ?_, by omega, by simp, by rw [h3]; exact h2⟩
                      have := congrArg List.length hr
                      rw [List.length_drop, ← hn.out, List.length_cons] at this
                      omega
                  · rw [if_neg ht] at h1 h2
                    obtain ⟨rfl, rfl, rfl, rfl⟩ := h1
                    exact .inl ⟨rfl, hin, Nat.le_refl _, by simp, h2⟩)
              rcases HK.out with ⟨rfl, q1, q2, q3, q4⟩ | ⟨rfl, q1⟩ | ⟨rfl, q1⟩
              · have HQ3 := Lib.hid q3
                have HQ4 := Lib.hid q4
                clear q3 q4
                go_wp2_with (refine wpList_store_opts rfl (.tmp 5) (.tmp 45) rfl (w.heap.size + 1) _ _ _ HQ.out.1 rfl o3 _ _ rfl rfl rfl ?_; intro w5 HH5 HG5)
                go_roundg (n - (i + k))
                case measure => omega
                case rel => exact ⟨i + k, o3, _, _, by go_num, rfl, q1, Lib.hid (HQ.out.2.2.2 w5 o3 HG5.out HH5.out), Lib.hid (by have := HP.out; have := HQ3.out; omega), HQ4⟩
              · have HQ1 := Lib.hid q1
                clear q1
                go_wp2_with (refine wpList_store_opts rfl (.tmp 2) (.tmp 42) rfl w.heap.size _ _ _ HQ.out.2.1 rfl none_ _ _ rfl rfl rfl ?_; intro w5 HH5 HG5)
                refine bodyPost_ret (v := .tuple #[.agg (oCells none_ (.slice none 0 0) (.slice none 0 0)), .int .i64 90, .string st]) (refp_result _ w5 w.heap.size none_ _ _ _ _ HH5.out rfl rfl rfl) rfl ⟨?_, ?_⟩
                · rw [HQ1.out]; rfl
                · exact HQ.out.2.2.1.grown HG5.out HQ.out.2.2.1.size (fun k hk => by cases hk; omega)
              · have HQ1 := Lib.hid q1
                clear q1
                go_wp2_with (refine wpList_store_opts rfl (.tmp 2) (.tmp 42) rfl w.heap.size _ _ _ HQ.out.2.1 rfl none_ _ _ rfl rfl rfl ?_; intro w5 HH5 HG5)
                refine bodyPost_ret (v := .tuple #[.agg (oCells none_ (.slice none 0 0) (.slice none 0 0)), .int .i64 91, .string st]) (refp_result _ w5 w.heap.size none_ _ _ _ _ HH5.out rfl rfl rfl) rfl ⟨?_, ?_⟩
                · rw [HQ1.out]; rfl
                · exact HQ.out.2.2.1.grown HG5.out HQ.out.2.2.1.size (fun k hk => by cases hk; omega)
        · have hopt2 : Opts.isOpt x = false := by simpa using hopt
          have HNO := Lib.hid hopt2
          rw [hopt2] at HIS
          clear hopt hopt2
          go_wp2_with fail
          refine HIS.out.mono ?_
          rintro e w2 ⟨rfl, rfl⟩
          go_wp2_with fail
          go_meet
          case rel => exact ⟨i, f, v, ps, rfl, hi, HO, HP, Lib.hid (by rw [HD.out]; exact HF.out), Lib.hid fun h hne => by rw [← HX.out]; exact HNO.out⟩
      · obtain rfl : i = n := by omega
        have HNN := Lib.hid hn.out
        go_wp2_with fail
        go_meet
        case rel => exact ⟨i, f, v, ps, rfl, Nat.le_refl _, HO, HP, HF, Lib.hid fun h => absurd h (by have := HNN.out; omega)⟩
  case rest =>
    obtain ⟨i, f, v, ps, rfl, hi, HO, HP, HF, HE⟩ := hcut
    obtain ⟨wb, hwb⟩ : ∃ W : World, W = wc := ⟨_, rfl⟩
    rw [← hwb] at HO ⊢
    clear hwb
    go_upto_region 9 with fail
    go_cut [59] from 49 (fun v wc => v = .bool (ddash l i) ∧ wc = wb)
    case first =>
      by_cases hin : i < n
      · have hil : i < l.length := by have := hn.out; omega
        obtain ⟨g, o, rfl, -, hx0, hxs⟩ := (hl.out.keep (fun _ h => h) (Same.of_below HO.out.b fun _ h => h)).texts hil
        have HDD := Lib.hid (ddash_at hil)
        obtain ⟨x, hx⟩ : ∃ x, x = l[i] := ⟨_, rfl⟩
        rw [← hx] at hx0 hxs HDD
        clear hx
        by_cases hdd : x = ⟨#[45, 45]⟩
        · have HD1 : Hid (ddash l i = true) := Lib.hid (by rw [HDD.out]; exact decide_eq_true hdd)
          subst hdd
          go_wp2_with fail
          go_meet
          case rel => exact ⟨by rw [HD1.out], rfl⟩
        · have HD1 : Hid (ddash l i = false) := Lib.hid (by rw [HDD.out]; exact decide_eq_false hdd)
          have hddf : (x.toList == [45, 45]) = false := Opts.str_no hdd
          go_wp2_with fail
          go_meet
          case rel => exact ⟨by rw [HD1.out], rfl⟩
      · have HD1 : Hid (ddash l i = false) := Lib.hid (ddash_past (by have := hn.out; omega))
        have hdn : decide ((i : Int) < (n : Int)) = false := decide_eq_false (by omega)
        go_wp2_with fail
        go_meet
        case rel => exact ⟨by rw [HD1.out], rfl⟩
    case rest =>
    obtain ⟨rfl, hwb⟩ := hcut
    rw [hwb]
    clear hwb
    go_upto_if 59 with fail
    go_cut [6] from 59 (fun v6 wc => wc = wb ∧ ∃ j : Nat, v6 = .int .i64 j ∧ j ≤ n ∧ Hid (ps.length ≤ j) ∧ Hid (Opts.parse l = Opts.fin ⟨f, ps, l.drop j⟩))
    case first =>
      cases hD : ddash l i
      · have HR : Hid (Opts.parse l = Opts.fin ⟨f, ps, l.drop i⟩) := Lib.hid (by
          rw [HF.out]
          rcases Nat.lt_or_ge i l.length with h | h
          · have h1 := HE.out h (fun e => by rw [ddash_at h, e] at hD; simp at hD)
            rw [List.drop_eq_getElem_cons h, Opts.words_not _ _ _ _ h1]
            rfl
          · rw [List.drop_of_length_le h]
            rfl)
        clear hD
        go_wp2_with fail
        go_meet
        case rel => exact ⟨rfl, i, rfl, hi, HP, HR⟩
      · have HR : Hid (i < n ∧ Opts.parse l = Opts.fin ⟨f, ps, l.drop (i + 1)⟩) := Lib.hid (by
          rcases Nat.lt_or_ge i l.length with h | h
          · refine ⟨by rw [hn.out]; exact h, ?_⟩
            rw [HF.out]
            have h1 : l[i] = ⟨#[45, 45]⟩ := by rw [ddash_at h] at hD; exact of_decide_eq_true hD
            rw [List.drop_eq_getElem_cons h, h1, Opts.words_dashes _ _ _ _ rfl rfl]
            rfl
          · rw [ddash_past h] at hD; cases hD)
        have hin := HR.out.1
        clear hD
        go_wp2_with fail
        go_meet
        case rel => exact ⟨rfl, i + 1, by go_num, by omega, Lib.hid (by have := HP.out; omega), Lib.hid HR.out.2⟩
    case rest =>
    obtain ⟨hwb, j, rfl, hj, HP2, HF2⟩ := hcut
    rw [hwb]
    clear hwb HF HE HP hi
    obtain ⟨A1, n1, c1, rfl, HN1, hnc1, hcm1⟩ := HO.out.own.form
    obtain ⟨k0, k1, k2, k3, k4, k5⟩ := HO.out.cells
    have hf4 := HO.out.free 4
    go_upto_if 65 with fail
    go_cut [6] from 65 (fun v6 wc => ∃ (j2 : Nat) (f2 : Opts.Fl) (v2 : Value) (p2 : List Opts.Prt), v6 = .int .i64 j2 ∧ j2 ≤ n ∧ Hid (OSt w wc f2 v2 p2) ∧ Hid (Opts.parse l = .good ⟨f2, p2, l.drop j2⟩))
    case first =>
      by_cases hp0 : n1 = 0
      · subst hp0
        obtain rfl : ps = [] := List.length_eq_zero_iff.1 HN1.out.symm
        by_cases hjn : j < n
        · have hjl : j < l.length := by have := hn.out; omega
          obtain ⟨g, o, rfl, -, hx0, hxs⟩ := (hl.out.keep (fun _ h => h) (Same.of_below HO.out.b fun _ h => h)).texts hjl
          have HD : Hid (l.drop j = l[j] :: l.drop (j + 1)) := Lib.hid (List.drop_eq_getElem_cons hjl)
          obtain ⟨x, hx⟩ : ∃ x, x = l[j] := ⟨_, rfl⟩
          rw [← hx] at hx0 hxs HD
          clear hx
          have hjne : ((j : Int) == (n : Int)) = false := by rw [beq_eq_false_iff_ne]; omega
          have hjne2 : (j == n) = false := by rw [beq_eq_false_iff_ne]; omega
          have hxm : x.size ≤ maxLen := by simpa [maxLen] using hxs
          have HXM := Lib.hid hxm
          have hg5 : w.heap.size + 1 < wb.heap.size := (Array.getElem?_eq_some_iff.1 HO.out.obj).1
          clear hxm
          go_wp2_with fail
          go_meet
          case rel => exact ⟨j + 1, f, _, _, by go_num, by omega, Lib.hid (HO.out.one' false x HXM.out), Lib.hid (by rw [HF2.out, HD.out]; rfl)⟩
        · obtain rfl : j = n := by omega
          have HFL : Hid (Opts.parse l = .fault 91 ⟨#[]⟩) := Lib.hid (by rw [HF2.out, List.drop_of_length_le (by have := hn.out; omega)]; rfl)
          go_wp2_with (refine wpList_store_opts rfl (.tmp 2) (.tmp 70) rfl w.heap.size _ _ _ HO.out.res rfl none_ _ _ rfl rfl rfl ?_; intro w5 HH5 HG5)
          refine bodyPost_ret (v := .tuple #[.agg (oCells none_ (.slice none 0 0) (.slice none 0 0)), .int .i64 91, .string ⟨#[]⟩]) (refp_result _ w5 w.heap.size none_ _ _ _ _ HH5.out rfl rfl rfl) rfl ⟨?_, ?_⟩
          · rw [HFL.out]; rfl
          · exact HO.out.b.grown HG5.out HO.out.b.size (fun k hk => by cases hk; omega)
      · have hd0 : ((n1 : Int) == 0) = false := by rw [beq_eq_false_iff_ne]; omega
        have HFN : Hid (Opts.parse l = .good ⟨f, ps, l.drop j⟩) := Lib.hid (by
          rw [HF2.out]
          cases ps with
          | nil => exact absurd HN1.out (by simpa using hp0)
          | cons y r => rfl)
        go_wp2_with fail
        go_meet
        case rel => exact ⟨j, f, _, ps, rfl, hj, HO, HFN⟩
    case rest =>
    clear k0 k1 k2 k3 k4 k5 hf4 HO HN1 hnc1 hcm1 HP2 HF2 hj
    obtain ⟨j2, f2, v2, p2, rfl, hj2, HO2, HG2⟩ := hcut
    go_wp2_with fail
    go_loopg [6] (n - j2) (fun k v6 wr => ∃ (m : Nat) (u : Value), j2 ≤ m ∧ m ≤ n ∧ v6 = .int .i64 m ∧ k = n - m ∧ Hid (OSt2 w wr f2 v2 u p2 ((l.drop j2).take (m - j2))))
    case atStart => exact ⟨j2, _, Nat.le_refl _, hj2, rfl, rfl, Lib.hid (by rw [Nat.sub_self, List.take_zero]; exact HO2.out.two)⟩
    case round =>
      obtain ⟨m, u, hm1, hm2, rfl, rfl, HT⟩ := hrel
      obtain ⟨A4, n4, c4, rfl, HN4, hnc4, hcm4⟩ := HT.out.ownF.form
      obtain ⟨A1, n1, c1, rfl, HN1, hnc1, hcm1⟩ := HT.out.own.form
      have HLEN : Hid (((l.drop j2).take (m - j2)).length ≤ 4294967296) := Lib.hid (by rw [List.length_take]; omega)
      by_cases hmn : m < n
      · have hml : m < l.length := by have := hn.out; omega
        obtain ⟨g, o, rfl, -, hx0, hxs⟩ := (hl.out.keep (fun _ h => h) (Same.of_below HT.out.b fun _ h => h)).texts hml
        have HXT : Hid ((l.drop j2).take (m + 1 - j2) = (l.drop j2).take (m - j2) ++ [l[m]]) := Lib.hid (by
          rw [show m + 1 - j2 = (m - j2) + 1 by omega, List.take_succ_eq_append_getElem (by rw [List.length_drop]; omega), List.getElem_drop]
          congr 3
          omega)
        obtain ⟨x, hx⟩ : ∃ x, x = l[m] := ⟨_, rfl⟩
        rw [← hx] at hx0 hxs HXT
        clear hx
        have hxm : x.size ≤ maxLen := by simpa [maxLen] using hxs
        have HXM := Lib.hid hxm
        clear hxm
        obtain ⟨FS, hFS⟩ : ∃ FS, FS = (l.drop j2).take (m - j2) := ⟨_, rfl⟩
        rw [← hFS] at HT HN4 HLEN HXT
        clear hFS
        have k5 : wr.cell? ⟨w.heap.size + 1, 5, none⟩ = some (.slice A4 n4 c4) := cell_of_row wr _ 5 _ _ (0, 0) HT.out.obj
        have hglt := (Array.getElem?_eq_some_iff.1 HT.out.obj).1
        have hmi : (m : Int) < (n : Int) := by omega
        go_upto_region 17 with fail
        go_cut [] from 84 to 91 (fun wc => ∃ A4 n4 c4, Hid (OSt2 w wc f2 (.slice A1 n1 c1) (.slice A4 n4 c4) p2 (FS ++ [x])))
        case first =>
          go_region_law ((refine step_append_Own rfl (.tmp 85) (.tmp 90) 22 rfl Rep.str w.heap.size 9 16 stStr nob (.slice A4 n4 c4) FS (by simp [Act.eval]) (HT.out.ownF.far (((Below.refl _ _).alloc (Nat.le_refl _) _).drew)) _ (some ⟨_, 0, none⟩) 1 [x] (by simp [Act.eval]) ((SliceAt.new1 Rep.str _ _ _ _ nob ⟨rfl, HXM.out⟩ (fun _ h => h.elim)).drewN 1) nob (fun _ h => h.elim) (fun _ h => h) (fun _ _ h => h) (by have := HLEN.out; simp <;> omega) (by have := HLEN.out; simp <;> omega) (by have := HT.out.b.size; simp [World.drew] <;> omega) ?_; intro v3 w3 hown3 hg3 hat3; obtain ⟨A3, n3, c3, rfl, -, -, -⟩ := hown3.form; have HW4 := Lib.hid ((HT.out.far (((Below.refl _ _).alloc (Nat.le_refl _) _).drew)).push hg3 hown3); have hcc3 := HW4.out.2.1; have hff3 := HW4.out.1; clear hown3 hg3 hat3))
          all_goals
            go_wp2_with fail
            go_meet
            case rel => exact ⟨_, _, _, Lib.hid HW4.out.2.2⟩
        case rest =>
          obtain ⟨A5, n5, c5, HT5⟩ := hcut
          clear k5
          go_wp2_with fail
          go_roundg (n - (m + 1))
          case measure => omega
          case rel => exact ⟨m + 1, _, by omega, by omega, by go_num, rfl, Lib.hid (by rw [HXT.out]; exact HT5.out)⟩
      · obtain rfl : m = n := by omega
        have HGL : Hid ((l.drop j2).take (m - j2) = l.drop j2) := Lib.hid (List.take_of_length_le (by rw [List.length_drop]; have := hn.out; omega))
        rw [HGL.out] at HT
        obtain ⟨q2, e2, a2, i2⟩ := f2
        obtain ⟨k0, k1, k2, k3, k4, k5⟩ := oObj_cells HT.out.obj
        go_wp2_with (refine wpList_store_opts rfl (.tmp 2) (.tmp 95) rfl w.heap.size _ _ _ HT.out.res rfl ⟨q2, e2, a2, i2⟩ _ _ rfl rfl rfl ?_; intro w5 HH5 HG5)
        refine bodyPost_ret (v := .tuple #[.agg (oCells ⟨q2, e2, a2, i2⟩ (.slice A1 n1 c1) (.slice A4 n4 c4)), .int .i64 0, .string ⟨#[]⟩]) (refp_result _ w5 w.heap.size ⟨q2, e2, a2, i2⟩ _ _ _ _ HH5.out rfl rfl rfl) rfl ⟨?_, ?_⟩
        · rw [HG2.out]
          refine ⟨_, _, rfl, HT.out.own.mono HG5.out (.inr (HT.out.own.ne_block HT.out.res (by decide))) (fun _ h => h.elim), HT.out.ownF.mono HG5.out (.inr (HT.out.ownF.ne_block HT.out.res (by decide))) (fun _ h => h.elim), ?_⟩
          cases hv : (Value.slice A1 n1 c1).ownBlock with
          | none => exact .inl rfl
          | some b => exact .inr fun e => HT.out.own.ne_type HT.out.ownF (by decide) hv e.symm
        · exact HT.out.b.grown HG5.out HT.out.b.size (fun k hk => by cases hk; omega)
end Go.Proofs.YtmjagjcaepbklaaDoor
