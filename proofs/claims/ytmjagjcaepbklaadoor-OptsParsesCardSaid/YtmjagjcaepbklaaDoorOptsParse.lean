/- A command line read: the walk of opts.Parse. Conditions: the tables of UTF-8 lie as they are laid; at most 2^32 words. -/
import Derived.Test.YtmjagjcaepbklaaDoorProg
import Derived.Test.YtmjagjcaepbklaaDoorShelf
import Derived.Test.YtmjagjcaepbklaaDoorOptsPlain
import Derived.Test.YtmjagjcaepbklaaDoorMem
import Derived.Test.YtmjagjcaepbklaaDoorRowAt
import Derived.WalkKit
import Derived.RegionTactic
import Derived.ChangeAlike
import Derived.WalkSpells
import Derived.Deep.QuietTactic
import Derived.BigQuiet
import Derived.Lib.Hide
import Derived.WalkMore
import Derived.Deep.LoopGhost
import Derived.Deep.CutBlock
namespace Go.Proofs.YtmjagjcaepbklaaDoor
open Go.RowKit

def Rep.prt : Rep Opts.Prt := Rep.pair Rep.bool Rep.str fun p => p
/-- Options in memory: the cells. -/
def oCells (f : Opts.Fl) (v u : Value) : Array Value := #[.bool f.q, .bool f.e, .bool f.a, .bool f.i, v, u]
def oObj (f : Opts.Fl) (v u : Value) : Obj := .cells (oCells f v u) 25
def none_ : Opts.Fl := ⟨false, false, false, false⟩
/-- Options on their way: where the result lies, where they lie, what is there; the parts are a row of the call's own. -/
structure OSt (w wr : World) (f : Opts.Fl) (v : Value) (ps : List Opts.Prt) : Prop where
  res : wr.heap[w.heap.size]? = some (oObj none_ (.slice none 0 0) (.slice none 0 0))
  obj : wr.heap[w.heap.size + 1]? = some (oObj f v (.slice none 0 0))
  own : Own Rep.prt 38 wr w.heap.size nob v ps
  b : Below w.heap.size w wr

theorem Below.drewN' (w : World) (m : Nat) : Below w.heap.size w (w.drewN m) := ⟨rfl, rfl, rfl, Nat.le_refl _, fun _ _ => rfl⟩
theorem OSt.far {w wr w' : World} {f : Opts.Fl} {v : Value} {ps : List Opts.Prt} (h : OSt w wr f v ps) (hb : Below wr.heap.size wr w') : OSt w w' f v ps :=
  ⟨(hb.block _ (Array.getElem?_eq_some_iff.1 h.res).1).trans h.res, (hb.block _ (Array.getElem?_eq_some_iff.1 h.obj).1).trans h.obj, h.own.far hb, h.b.trans (hb.mono h.b.size)⟩
theorem OSt.cells {w wr : World} {f : Opts.Fl} {v : Value} {ps : List Opts.Prt} (h : OSt w wr f v ps) :
    wr.cell? ⟨w.heap.size + 1, 0, none⟩ = some (.bool f.q) ∧ wr.cell? ⟨w.heap.size + 1, 1, none⟩ = some (.bool f.e) ∧ wr.cell? ⟨w.heap.size + 1, 2, none⟩ = some (.bool f.a) ∧ wr.cell? ⟨w.heap.size + 1, 3, none⟩ = some (.bool f.i) ∧
    wr.cell? ⟨w.heap.size + 1, 4, none⟩ = some v ∧ wr.cell? ⟨w.heap.size + 1, 5, none⟩ = some (.slice none 0 0) :=
  ⟨cell_of_row wr _ 0 _ _ (0, 0) h.obj, cell_of_row wr _ 1 _ _ (0, 0) h.obj, cell_of_row wr _ 2 _ _ (0, 0) h.obj, cell_of_row wr _ 3 _ _ (0, 0) h.obj, cell_of_row wr _ 4 _ _ (0, 0) h.obj, cell_of_row wr _ 5 _ _ (0, 0) h.obj⟩
theorem OSt.free {w wr : World} {f : Opts.Fl} {v : Value} {ps : List Opts.Prt} (h : OSt w wr f v ps) (k : Nat) : wr.frozen? ⟨w.heap.size + 1, k, none⟩ = false := by simp [World.frozen?, h.obj, oObj]
theorem OSt.ne {w wr : World} {f : Opts.Fl} {v : Value} {ps : List Opts.Prt} (h : OSt w wr f v ps) : v.ownBlock ≠ some (w.heap.size + 1) ∧ v.ownBlock ≠ some w.heap.size :=
  ⟨h.own.ne_block h.obj (by decide), h.own.ne_block h.res (by decide)⟩
theorem OSt.set {w wr : World} {f f' : Opts.Fl} {v v' : Value} {ps ps' : List Opts.Prt} (h : OSt w wr f v ps) (k : Nat) (u : Value) (hk : (oCells f v (.slice none 0 0)).set! k u = oCells f' v' (.slice none 0 0)) (ho : Own Rep.prt 38 wr w.heap.size nob v' ps') (hne : v'.ownBlock ≠ some (w.heap.size + 1)) :
    OSt w (wr.setCell ⟨w.heap.size + 1, k, none⟩ u) f' v' ps' := by
  refine ⟨?_, ?_, ?_, ?_⟩
  · simp only [World.setCell, Array.getElem?_modify]
    rw [if_neg (by omega)]
    exact h.res
  · simp [World.setCell, Array.getElem?_modify, h.obj, oObj, ← hk]
  · exact ho.mono (setCell_grown _ _ _ _) (.inr hne) (fun _ h => h.elim)
  · exact h.b.grown (setCell_grown _ _ _ _) h.b.size (fun k hk => by cases hk; omega)
theorem OSt.set2 {w wr : World} {f f' : Opts.Fl} {v : Value} {ps : List Opts.Prt} (h : OSt w wr f v ps) (k : Nat) (u : Value) (hk : (oCells f v (.slice none 0 0)).set! k u = oCells f' v (.slice none 0 0)) : OSt w (wr.setCell ⟨w.heap.size + 1, k, none⟩ u) f' v ps := h.set k u hk h.own h.ne.1
/-- A part put behind the parts: the row behind append, laid into its field. -/
theorem OSt.push {w wr w3 : World} {f : Opts.Fl} {v : Value} {ps ps' : List Opts.Prt} (h : OSt w wr f v ps) (hg : wr.grownBy w3 v.ownBlock) {v' : Value} (ho : Own Rep.prt 38 w3 w.heap.size nob v' ps') :
    w3.frozen? ⟨w.heap.size + 1, 4, none⟩ = false ∧ w3.cell? ⟨w.heap.size + 1, 4, none⟩ = some v ∧ OSt w (w3.setCell ⟨w.heap.size + 1, 4, none⟩ v') f v' ps' := by
  have hres : w3.heap[w.heap.size]? = some (oObj none_ (.slice none 0 0) (.slice none 0 0)) := (hg.block _ (Array.getElem?_eq_some_iff.1 h.res).1 (fun e => h.ne.2 e.symm)).trans h.res
  have hobj : w3.heap[w.heap.size + 1]? = some (oObj f v (.slice none 0 0)) := (hg.block _ (Array.getElem?_eq_some_iff.1 h.obj).1 (fun e => h.ne.1 e.symm)).trans h.obj
  refine ⟨by simp [World.frozen?, hobj, oObj], cell_of_row w3 _ 4 _ _ (0, 0) hobj, ?_, ?_, ?_, ?_⟩
  · simp only [World.setCell, Array.getElem?_modify]
    rw [if_neg (by omega)]
    exact hres
  · simp [World.setCell, Array.getElem?_modify, hobj, oObj, oCells]
  · exact ho.mono (setCell_grown _ _ _ _) (.inr (ho.ne_block hobj (by decide))) (fun _ h => h.elim)
  · exact (below_own h.b h.own hg h.b.size).grown (setCell_grown _ _ _ _) (Nat.le_trans h.b.size hg.size) (fun k hk => by cases hk; omega)
theorem OSt.start (w : World) : OSt w ((w.alloc (oObj none_ (.slice none 0 0) (.slice none 0 0))).alloc (oObj none_ (.slice none 0 0) (.slice none 0 0))) none_ (.slice none 0 0) [] := by
  refine ⟨?_, ?_, Own.nil _ _ _ _, ((Below.refl _ _).alloc (Nat.le_refl _) _).alloc (by simp) _⟩
  · rw [heap_alloc_old _ _ (by simp)]
    exact heap_alloc_new _ _
  · have := heap_alloc_new (w.alloc (oObj none_ (.slice none 0 0) (.slice none 0 0))) (oObj none_ (.slice none 0 0) (.slice none 0 0))
    simpa using this
theorem stStr : SliceType Tryd.prog 22 9 1 16 := SliceType.mk' (z := .string ⟨#[]⟩) Tryd.underlying22 (by kernel_rfl) rfl (by omega)
theorem stPrt : SliceType Tryd.prog 23 38 2 24 := SliceType.mk' (z := .agg #[.bool false, .string ⟨#[]⟩]) Tryd.underlying23 (by kernel_rfl) rfl (by omega)
/-- One row made: parts of one. -/
theorem OSt.one {w wr : World} {f : Opts.Fl} {v : Value} {ps : List Opts.Prt} (h : OSt w wr f v ps) (b : Bool) (x : ByteArray) (hx : x.size ≤ maxLen) :
    OSt w ((wr.setCell ⟨w.heap.size + 1, 4, none⟩ (.slice (some ⟨wr.heap.size, 0, none⟩) 1 1)).alloc (.cells #[.bool b, .string x] 38)).drew f (.slice (some ⟨wr.heap.size, 0, none⟩) 1 1) [(b, x)] := by
  have hg5 : w.heap.size + 1 < wr.heap.size := (Array.getElem?_eq_some_iff.1 h.obj).1
  have h2 := h.far ((Below.refl _ wr).alloc (Nat.le_refl _) (.cells #[.bool b, .string x] 38))
  have hown : Own Rep.prt 38 (wr.alloc (.cells #[.bool b, .string x] 38)) w.heap.size nob (.slice (some ⟨wr.heap.size, 0, none⟩) 1 1) [(b, x)] := by
    refine ⟨[.bool b, .string x], ⟨rfl, .inr ⟨wr.heap.size, 1, _, rfl, h.b.size, heap_alloc_new _ _, Nat.le_refl _, by simp [maxLen], rfl, rfl⟩⟩, fun _ h => h.elim, by simp [Value.oneCell'], fun i hi => ?_⟩
    obtain rfl : i = 0 := by simpa using hi
    exact ⟨[.bool b], [.string x], rfl, rfl, rfl, hx⟩
  have h3 := h2.set (f' := f) (v' := .slice (some ⟨wr.heap.size, 0, none⟩) 1 1) 4 (.slice (some ⟨wr.heap.size, 0, none⟩) 1 1) rfl hown (by simp [Value.ownBlock]; omega)
  rw [World.setCell_alloc_past _ _ _ _ hg5] at h3
  exact h3.far (Below.refl _ _).drew
theorem noGoto_exit {Q : Exit → Act → World → Prop} {k : Nat} {a : Act} {w : World} : Exit.noGoto Q (.exit k) a w = Q (.exit k) a w := rfl
theorem noGoto_normal {Q : Exit → Act → World → Prop} {a : Act} {w : World} : Exit.noGoto Q .normal a w = Q .normal a w := rfl
theorem info_opts : (Tryd.prog.info? 25).map (·.size) = some 6 := by kernel_rfl
/-- Options stored whole. -/
theorem wpList_store_opts {ops : Array Oper} {rest : List Oper} {op : Oper} {a : Act} {Q : Exit → Act → World → Prop} (hgd : op.guard = none) (x y : Operand) (ho : op.op = .store 25 x y)
    {wr : World} (G : Nat) (f0 : Opts.Fl) (u0 u1 : Value) (h : wr.heap[G]? = some (oObj f0 u0 u1)) (hx : a.eval x = .pointer (some ⟨G, 0, none⟩)) (f : Opts.Fl) (v1 v2 : Value)
    (hy : a.eval y = .agg #[.bool f.q, .bool f.e, .bool f.a, .bool f.i, v1, v2]) (h1 : v1.oneCell' = true) (h2 : v2.oneCell' = true)
    (hK : ∀ w', Hid (w'.heap[G]? = some (oObj f v1 v2)) → Hid (wr.grownBy w' (some G)) → wpList Tryd.prog ops Q rest (a.put op.dst undef) w') : wpList Tryd.prog ops Q (op :: rest) a wr := by
  refine wpList_store_mid hgd 25 x y ho G 0 _ hx hy (fun j hj => ⟨?_, by simp [World.frozen?, h, oObj]⟩) info_opts (by simp [Value.oneCell'] at h1 h2 ⊢; exact ⟨h1, h2⟩) (hK _ (Lib.hid ?_) (Lib.hid (setCells_grown G _ wr _)))
  · have hj6 : j < 6 := hj
    rw [Nat.zero_add, cell_of_row wr G j _ _ (0, 0) h, Array.getElem?_eq_getElem (by simp [oCells]; omega)]
    rfl
  · simp [World.setCells, World.setCell, Array.getElem?_modify, h, oObj, oCells]
theorem opts_result (tmps : Array Value) (w' : World) (G : Nat) (f : Opts.Fl) (v1 v2 v3 v4 : Value) (h : w'.heap[G]? = some (oObj f v1 v2)) (h2 : tmps.getD 2 undef = .pointer (some ⟨G, 0, none⟩)) (h3 : tmps.getD 3 undef = v3) (h4 : tmps.getD 4 undef = v4) :
    (results Tryd.f10 tmps).run Tryd.prog w' = .ok (.tuple #[.agg (oCells f v1 v2), v3, v4]) w' := by
  have c0 := cell_of_row w' G 0 _ _ (0, 0) h
  have c1 := cell_of_row w' G 1 _ _ (0, 0) h
  have c2 := cell_of_row w' G 2 _ _ (0, 0) h
  have c3 := cell_of_row w' G 3 _ _ (0, 0) h
  have c4 := cell_of_row w' G 4 _ _ (0, 0) h
  have c5 := cell_of_row w' G 5 _ _ (0, 0) h
  simp [oCells] at c0 c1 c2 c3 c4 c5
  simp only [Array.getD_eq_getD_getElem?] at h2 h3 h4
  simp [results, Tryd.results10, go_sem, oCells, *]
theorem fault_any (n : Int) (s : ByteArray) (w : World) : Calls Tryd.prog 28 #[.int .i64 n, .string s] w fun e w' => e = .returned (.tuple #[.agg #[.bool false, .bool false, .bool false, .bool false, .slice none 0 0, .slice none 0 0], .int .i64 n, .string s]) ∧ Below w.heap.size w w' := by
  go_enter Tryd.func28, Tryd.ntmps28
  go_wp2
  exact bodyPost_ret (v := .tuple #[.agg (oCells none_ (.slice none 0 0) (.slice none 0 0)), .int .i64 n, .string s]) (by simp [results, Tryd.results28, go_sem, oCells, none_]) rfl ⟨rfl, (Below.refl _ _).alloc (Nat.le_refl _) _⟩
/-- What Parse answers. -/
def OParsed (w : World) (e : Ending) (w' : World) : Opts.Ans Opts.Mid → Prop
  | .fault n s => e = .returned (.tuple #[.agg (oCells none_ (.slice none 0 0) (.slice none 0 0)), .int .i64 n, .string s])
  | .good m => ∃ v u, e = .returned (.tuple #[.agg (oCells m.f v u), .int .i64 0, .string ⟨#[]⟩]) ∧ Own Rep.prt 38 w' w.heap.size nob v m.ps ∧ Own Rep.str 9 w' w.heap.size nob u m.l ∧ (v.ownBlock = none ∨ v.ownBlock ≠ u.ownBlock)
set_option maxRecDepth 100000 in
set_option maxHeartbeats 8000000 in
theorem parse_any (A : Option Addr) (n c : Nat) (l : List ByteArray) (w : World) (hn : Hid (n = l.length)) (hl : Hid (SliceAt Rep.str w (under w.heap.size) A c l)) (hT : Hid (Lib.Utf8Tabs 0 1 w)) (hb : n ≤ 4294967296) :
    Calls Tryd.prog 10 #[.slice A n c] w fun e w' => OParsed w e w' (Opts.parse l) ∧ Below w.heap.size w w' := by
  have HS := Lib.hid (OSt.start w)
  go_enter Tryd.func10, Tryd.ntmps10
  go_wp2_with fail
  go_step3
  go_wp2_with fail
  go_step3
  go_upto_block 0 with fail
  go_cut [0] from 7 (fun v0 wc => ∃ (A' : Option Addr) (n' c' : Nat) (l' : List ByteArray) (f : Opts.Fl) (u : Value) (ps : List Opts.Prt), v0 = .slice A' n' c' ∧ n' ≤ n ∧ Hid (n' = l'.length) ∧ Hid (SliceAt Rep.str w (under w.heap.size) A' c' l') ∧ Hid (OSt w wc f u ps) ∧ Hid (ps.length + n' ≤ n) ∧ Hid (Opts.parse l = Opts.fin ⟨f, ps, l'⟩))
  case first =>
    go_wp2_with fail
    go_loopg [0] n (fun k v wr => ∃ (A' : Option Addr) (n' c' : Nat) (l' : List ByteArray) (f : Opts.Fl) (u : Value) (ps : List Opts.Prt), v = .slice A' n' c' ∧ k = n' ∧ n' ≤ n ∧ Hid (n' = l'.length) ∧ Hid (SliceAt Rep.str w (under w.heap.size) A' c' l') ∧ Hid (OSt w wr f u ps) ∧ Hid (ps.length + n' ≤ n) ∧ Hid (Opts.parse l = Opts.finA (Opts.words ⟨f, ps, l'⟩)))
    case atStart => exact ⟨A, n, c, l, none_, _, [], rfl, rfl, Nat.le_refl _, hn, hl, HS, Lib.hid (by simp), Lib.hid rfl⟩
    case round =>
      obtain ⟨A', n', c', l', f, u, ps, rfl, hgk, hnn, HN, HL, HO, HP, HF⟩ := hrel
      have hgk := hgk.symm
      subst hgk
      have hnc := HL.out.len
      have hcm := HL.out.max
      rw [← HN.out] at hnc
      cases l' with
      | nil =>
        obtain rfl : n' = 0 := HN.out
        go_wp2_with fail
        go_meet
        case rel => exact ⟨A', 0, c', [], f, u, ps, rfl, hnn, HN, HL, HO, HP, HF⟩
      | cons x r =>
        obtain ⟨g, o, cs, rfl, hg, hcs, rfl, hxm⟩ := HL.out.at_ (i := 0) (by simp)
        have hx := (hcs.keep hg (Same.of_below HO.out.b fun _ h => h)).one
        simp only [List.getElem_cons_zero, Rep.str, Nat.zero_mul, Nat.add_zero] at hx hxm
        have h1 : n' = r.length + 1 := by rw [HN.out]; rfl
        have H1 := Lib.hid h1
        have h0 : 0 < n' := by omega
        have hd0 : decide ((0 : Int) < n') = true := decide_eq_true (by omega)
        obtain ⟨A2, n2, c2, hA2, hn2, hc2⟩ : ∃ A2 n2 c2, A2 = cutA (some ⟨g, o, none⟩) c' 1 1 ∧ n2 = n' - 1 ∧ c2 = c' - 1 := ⟨_, _, _, rfl, rfl, rfl⟩
        have hsl : ∀ W : World, (Instr.sliceAt 22 (.slice (some ⟨g, o, none⟩) n' c') (some (.int .i64 1)) none none).run Tryd.prog W = .ok (.slice A2 n2 c2) W := fun W => by rw [hA2, hn2, hc2]; exact run_slice_from W stStr _ n' c' 1 (by omega)
        have HL2 : Hid (SliceAt Rep.str w (under w.heap.size) A2 c2 r) := Lib.hid (by rw [hA2, hc2]; exact HL.out.cutFromA (i := 1) (s := 1) (by simp) rfl)
        have HN2 : Hid (n2 = r.length) := Lib.hid (by omega)
        have HP2 : Hid (ps.length + n2 + 1 ≤ n) := Lib.hid (by have := HP.out; omega)
        have hn2n : n2 < n' := by omega
        have hn2c : n2 ≤ c2 := by omega
        have hc2m : c2 ≤ 9223372036854775807 := by omega
        clear hA2 hn2 hc2
        have hxm' : x.size ≤ 9223372036854775807 := by simpa [maxLen] using hxm
        clear hcs h1 hxm
        by_cases hx1 : 1 < x.size
        · have hd1 : decide ((1 : Int) < x.size) = true := decide_eq_true (by omega)
          by_cases hx2 : (x[0]'(by omega)).toNat = 45
          · have hopt := Opts.isOpt_yes hx1 hx2
            have HOPT := Lib.hid hopt
            clear hopt
            by_cases hda : x.extract 1 x.size = ⟨#[45]⟩
            · have hw := Opts.words_dashes f ps x r HOPT.out hda
              rw [hw] at HF
              clear hw
              have hda2 : ((x.extract 1 x.size).toList == [45]) = true := Opts.str_yes hda
              go_wp2_with fail
              go_step3
              go_wp2_with fail
              rw [noGoto_exit]
              go_wp2_with fail
              go_meet
              case rel => exact ⟨A2, n2, c2, r, f, u, ps, rfl, by omega, HN2, HL2, HO, Lib.hid (by have := HP2.out; omega), HF⟩
            · have hw := Opts.words_word f ps x r HOPT.out hda
              rw [hw] at HF
              clear hw
              have hda2 : ((x.extract 1 x.size).toList == [45]) = false := Opts.str_no hda
              go_wp2_with fail
              go_step3
              go_wp2_with fail
              go_step3
              go_wp2_with fail
              clear hx hd1 hda2 hda HOPT hx2
              have hxs : (x.extract 1 x.size).size ≤ 9223372036854775807 := by rw [ByteArray.size_extract]; omega
              change Hid (Opts.parse l = Opts.finA (Opts.goOn ps r (Opts.word f (x.extract 1 x.size)))) at HF
              obtain ⟨y0, hy0⟩ : ∃ y0, y0 = x.extract 1 x.size := ⟨_, rfl⟩
              rw [← hy0] at HF hxs ⊢
              clear hy0 hx1 hxm'
              obtain ⟨A1, n1, c1, rfl, HN1, hnc1, hcm1⟩ := HO.out.own.form
              obtain ⟨wo, rfl⟩ : ∃ wo : World, wo = wr := ⟨_, rfl⟩
              go_loopg [0, 7] y0.size (fun k v0 v7 wr => ∃ (f' : Opts.Fl) (y : ByteArray), v0 = .slice A2 n2 c2 ∧ v7 = .string y ∧ k = y.size ∧ y.size ≤ 9223372036854775807 ∧ Hid (OSt w wr f' (.slice A1 n1 c1) ps) ∧ Hid (Opts.parse l = Opts.finA (Opts.goOn ps r (Opts.word f' y))))
              case atStart => exact ⟨f, y0, rfl, rfl, rfl, hxs, HO, HF⟩
              case round =>
                clear HO HF hxs
                obtain ⟨f, y, rfl, rfl, hgk, hym, HO, HF⟩ := hrel
                have hgk := hgk.symm
                subst hgk
                by_cases hy0 : 0 < y.size
                · obtain ⟨cc, hcc⟩ : ∃ cc, cc = (Lib.decodeGo y).1 := ⟨_, rfl⟩
                  obtain ⟨kk, hkk⟩ : ∃ kk, kk = (Lib.decodeGo y).2 := ⟨_, rfl⟩
                  have hdl := Opts.dec_le hy0
                  have hdp := Opts.dec_pos hy0
                  have hrs := Opts.rest_size hy0
                  rw [← hkk] at hdl hdp hrs
                  have HCC := Lib.hid hcc
                  have hre : y.extract kk y.size = Opts.rest y := by rw [hkk]; rfl
                  have hle : y.extract 0 kk = Opts.letter y := by rw [hkk]; rfl
                  have hkk1 : ((kk : Nat) : Int) ≤ y.size := by omega
                  have HD : Hid (∀ W, Below w.heap.size w W → Calls Tryd.prog 29 #[.string y] W fun e w' => e = .returned (.tuple #[.int .i32 cc, .int .i64 kk]) ∧ Below W.heap.size W w') := Lib.hid fun W hW => by rw [hcc, hkk]; exact Tryd.utf8_DecodeRuneInString y W (Utf8Tabs_below hT.out hW)
                  clear hcc hkk
                  go_wp2_with fail
                  refine (HD.out wr HO.out.b).mono ?_
                  rintro e w2 ⟨rfl, hb2⟩
                  have HO2 := Lib.hid (HO.out.far hb2)
                  clear hb2
                  have hg5 : w.heap.size + 1 < w2.heap.size := (Array.getElem?_eq_some_iff.1 HO2.out.obj).1
                  obtain ⟨hc0, hc1, hc2, hc3, hc4, hc5⟩ := HO2.out.cells
                  have hf0 := HO2.out.free 0
                  have hf1 := HO2.out.free 1
                  have hf2 := HO2.out.free 2
                  have hf3 := HO2.out.free 3
                  have hf4 := HO2.out.free 4
                  by_cases h110 : cc = 110
                  · subst h110
                    have hw := Opts.word_step f { f with q := true } hy0 (by rw [← HCC.out]; rfl)
                    rw [hw] at HF
                    clear hw
                    go_wp2_with fail
                    go_roundg ((Opts.rest y).size)
                    case measure => omega
                    case rel => exact ⟨_, Opts.rest y, rfl, rfl, rfl, by omega, Lib.hid (HO2.out.set 0 _ rfl HO2.out.own HO2.out.ne.1), HF⟩
                  · by_cases h69 : cc = 69
                    · subst h69
                      have hw := Opts.word_step f { f with e := true } hy0 (by rw [← HCC.out]; rfl)
                      rw [hw] at HF
                      clear hw
                      go_wp2_with fail
                      go_roundg ((Opts.rest y).size)
                      case measure => omega
                      case rel => exact ⟨_, Opts.rest y, rfl, rfl, rfl, by omega, Lib.hid (HO2.out.set 1 _ rfl HO2.out.own HO2.out.ne.1), HF⟩
                    · by_cases h105 : cc = 105
                      · subst h105
                        have hw := Opts.word_step f { f with a := true, i := true } hy0 (by rw [← HCC.out]; rfl)
                        rw [hw] at HF
                        clear hw
                        go_wp2_with fail
                        go_roundg ((Opts.rest y).size)
                        case measure => omega
                        case rel => exact ⟨_, Opts.rest y, rfl, rfl, rfl, by omega, Lib.hid ((HO2.out.set (f' := { f with i := true }) 3 _ rfl HO2.out.own HO2.out.ne.1).set2 2 _ rfl), HF⟩
                      · by_cases h115 : cc = 115
                        · subst h115
                          have hw := Opts.word_step f { f with a := true } hy0 (by rw [← HCC.out]; rfl)
                          rw [hw] at HF
                          clear hw
                          go_wp2_with fail
                          go_roundg ((Opts.rest y).size)
                          case measure => omega
                          case rel => exact ⟨_, Opts.rest y, rfl, rfl, rfl, by omega, Lib.hid (HO2.out.set 2 _ rfl HO2.out.own HO2.out.ne.1), HF⟩
                        · by_cases h101 : cc = 101
                          · subst h101
                            have hw := Opts.word_part f false hy0 (by rw [← HCC.out]; rfl)
                            rw [hw] at HF
                            clear hw
                            by_cases hz3 : Opts.rest y = ⟨#[]⟩
                            · have hz2 : ((Opts.rest y).toList == []) = true := Opts.str_yes hz3
                              rw [hz3] at HF
                              cases r with
                              | nil =>
                                obtain rfl : n2 = 0 := HN2.out
                                go_wp2_with fail
                                refine (fault_any 91 (Opts.letter y) w2).mono ?_
                                rintro e w3 ⟨rfl, hb3⟩
                                have HO3 := Lib.hid (HO2.out.far hb3)
                                go_wp2_with (refine wpList_store_opts rfl (.tmp 2) (.tmp 74) rfl w.heap.size _ _ _ HO3.out.res rfl none_ _ _ rfl rfl rfl ?_; intro w4 HH4 HG4)
                                rw [Exit.noGoto_ret]
                                go_wp2_with fail
                                try rw [Exit.noGoto_ret]
                                refine bodyPost_ret (v := .tuple #[.agg (oCells none_ (.slice none 0 0) (.slice none 0 0)), .int .i64 91, .string (Opts.letter y)]) (opts_result _ w4 w.heap.size none_ _ _ _ _ HH4.out rfl rfl rfl) rfl ⟨?_, ?_⟩
                                · rw [HF.out]; rfl
                                · exact HO3.out.b.grown HG4.out HO3.out.b.size (fun k hk => by cases hk; omega)
                              | cons z r =>
                                obtain ⟨g2, o2, cs2, rfl, hg2, hcs2, rfl, hzm⟩ := HL2.out.at_ (i := 0) (by simp)
                                have hzc := (hcs2.keep hg2 (Same.of_below HO2.out.b fun _ h => h)).one
                                simp only [List.getElem_cons_zero, Rep.str, Nat.zero_mul, Nat.add_zero] at hzc hzm
                                have h1 : n2 = r.length + 1 := by rw [HN2.out]; rfl
                                have H1 := Lib.hid h1
                                have h0n : 0 < n2 := by omega
                                have hdn : ((n2 : Int) == 0) = false := by rw [beq_eq_false_iff_ne]; omega
                                obtain ⟨A5, n5, c5, hA5, hn5, hc5'⟩ : ∃ A5 n5 c5, A5 = cutA (some ⟨g2, o2, none⟩) c2 1 1 ∧ n5 = n2 - 1 ∧ c5 = c2 - 1 := ⟨_, _, _, rfl, rfl, rfl⟩
                                have hsl3 : ∀ W : World, (Instr.sliceAt 22 (.slice (some ⟨g2, o2, none⟩) n2 c2) (some (.int .i64 1)) none none).run Tryd.prog W = .ok (.slice A5 n5 c5) W := fun W => by rw [hA5, hn5, hc5']; exact run_slice_from W stStr _ n2 c2 1 (by omega)
                                have HL5 : Hid (SliceAt Rep.str w (under w.heap.size) A5 c5 r) := Lib.hid (by rw [hA5, hc5']; exact HL2.out.cutFromA (i := 1) (s := 1) (by simp) rfl)
                                have HN5 : Hid (n5 = r.length) := Lib.hid (by omega)
                                have HP5 : Hid (ps.length + 1 + n5 + 1 ≤ n) := Lib.hid (by have := HP2.out; omega)
                                have hn5n : n5 < n' := by omega
                                have hc5m : c5 ≤ 9223372036854775807 := by omega
                                have hn5c : n5 ≤ c5 := by omega
                                have HF2 : Hid (Opts.parse l = Opts.finA (Opts.words ⟨f, ps ++ [(false, z)], r⟩)) := Lib.hid (by rw [HF.out]; rfl)
                                clear hA5 hn5 hc5' hcs2 h1 HF
                                go_wp2_with fail
                                go_quiet (fail)
                                generalize hW : w2.drewN _ = W
                                have HO5 : Hid (OSt w W f (.slice A1 n1 c1) ps) := Lib.hid (hW ▸ HO2.out.far (Below.drewN' _ _))
                                clear hW hc0 hc1 hc2 hc3 hc4 hc5 hf0 hf1 hf2 hf3 hf4 hg5
                                have hg5 : w.heap.size + 1 < W.heap.size := (Array.getElem?_eq_some_iff.1 HO5.out.obj).1
                                have hc4 := HO5.out.cells.2.2.2.2.1
                                have hf4 := HO5.out.free 4
                                go_wp2_with (at_builtin; refine wpList_append_Own _ rfl (.tmp 83) (.tmp 88) 23 rfl Rep.prt w.heap.size 38 24 stPrt nob (.slice A1 n1 c1) ps rfl (HO5.out.own.alloc _) _ _ _ [(false, z)] rfl (SliceAt.new1 Rep.prt _ _ _ _ nob ⟨[_], [_], rfl, rfl, rfl, hzm⟩ (fun _ h => h.elim)) nob (fun _ h => h.elim) (fun _ h => h) (fun _ _ h => h) (by have := HP5.out; simp <;> omega) (by have := HP5.out; simp <;> omega) (by have := HO5.out.b.size; simp <;> omega) ?_; intro v3 w3 hown3 hg3 hat3; obtain ⟨A3, n3, c3, rfl, -, -, -⟩ := hown3.form; have HO3 := Lib.hid ((HO5.out.far ((Below.refl _ W).alloc (Nat.le_refl _) _)).push hg3 hown3); have hcc3 := HO3.out.2.1; have hff3 := HO3.out.1; clear hown3 hg3 hat3)
                                rw [noGoto_normal]
                                go_wp2_with fail
                                go_roundg n5
                                case measure => exact hn5n
                                case rel => exact ⟨A5, n5, c5, r, f, _, _, rfl, rfl, by omega, HN5, HL5, Lib.hid HO3.out.2.2, Lib.hid (by have := HP5.out; simp; omega), HF2⟩
                            · have hz2 : ((Opts.rest y).toList == []) = false := Opts.str_no hz3
                              have HF2 : Hid (Opts.parse l = Opts.finA (Opts.words ⟨f, ps ++ [(false, Opts.rest y)], r⟩)) := Lib.hid (by rw [HF.out]; simp only [Opts.goOn, if_neg hz3])
                              clear HF hz3
                              have hts : (Opts.rest y).size ≤ maxLen := by simp only [maxLen]; omega
                              go_wp2_with (at_builtin; refine wpList_append_Own _ rfl (.tmp 83) (.tmp 88) 23 rfl Rep.prt w.heap.size 38 24 stPrt nob (.slice A1 n1 c1) ps rfl (HO2.out.own.alloc _) _ _ _ [(false, Opts.rest y)] rfl (SliceAt.new1 Rep.prt _ _ _ _ nob ⟨[_], [_], rfl, rfl, rfl, hts⟩ (fun _ h => h.elim)) nob (fun _ h => h.elim) (fun _ h => h) (fun _ _ h => h) (by have := HP2.out; simp <;> omega) (by have := HP2.out; simp <;> omega) (by have := HO2.out.b.size; simp <;> omega) ?_; intro v3 w3 hown3 hg3 hat3; obtain ⟨A3, n3, c3, rfl, -, -, -⟩ := hown3.form; have HO3 := Lib.hid ((HO2.out.far ((Below.refl _ w2).alloc (Nat.le_refl _) _)).push hg3 hown3); have hcc3 := HO3.out.2.1; have hff3 := HO3.out.1; clear hown3 hg3 hat3)
                              rw [noGoto_normal]
                              go_wp2_with fail
                              go_roundg n2
                              case measure => exact hn2n
                              case rel => exact ⟨A2, n2, c2, r, f, _, _, rfl, rfl, by omega, HN2, HL2, Lib.hid HO3.out.2.2, Lib.hid (by have := HP2.out; simp; omega), HF2⟩
                          · by_cases h102 : cc = 102
                            · subst h102
                              have hw := Opts.word_part f true hy0 (by rw [← HCC.out]; rfl)
                              rw [hw] at HF
                              clear hw
                              by_cases hz3 : Opts.rest y = ⟨#[]⟩
                              · have hz2 : ((Opts.rest y).toList == []) = true := Opts.str_yes hz3
                                rw [hz3] at HF
                                cases r with
                                | nil =>
                                  obtain rfl : n2 = 0 := HN2.out
                                  go_wp2_with fail
                                  refine (fault_any 91 (Opts.letter y) w2).mono ?_
                                  rintro e w3 ⟨rfl, hb3⟩
                                  have HO3 := Lib.hid (HO2.out.far hb3)
                                  go_wp2_with (refine wpList_store_opts rfl (.tmp 2) (.tmp 74) rfl w.heap.size _ _ _ HO3.out.res rfl none_ _ _ rfl rfl rfl ?_; intro w4 HH4 HG4)
                                  rw [Exit.noGoto_ret]
                                  go_wp2_with fail
                                  try rw [Exit.noGoto_ret]
                                  refine bodyPost_ret (v := .tuple #[.agg (oCells none_ (.slice none 0 0) (.slice none 0 0)), .int .i64 91, .string (Opts.letter y)]) (opts_result _ w4 w.heap.size none_ _ _ _ _ HH4.out rfl rfl rfl) rfl ⟨?_, ?_⟩
                                  · rw [HF.out]; rfl
                                  · exact HO3.out.b.grown HG4.out HO3.out.b.size (fun k hk => by cases hk; omega)
                                | cons z r =>
                                  obtain ⟨g2, o2, cs2, rfl, hg2, hcs2, rfl, hzm⟩ := HL2.out.at_ (i := 0) (by simp)
                                  have hzc := (hcs2.keep hg2 (Same.of_below HO2.out.b fun _ h => h)).one
                                  simp only [List.getElem_cons_zero, Rep.str, Nat.zero_mul, Nat.add_zero] at hzc hzm
                                  have h1 : n2 = r.length + 1 := by rw [HN2.out]; rfl
                                  have H1 := Lib.hid h1
                                  have h0n : 0 < n2 := by omega
                                  have hdn : ((n2 : Int) == 0) = false := by rw [beq_eq_false_iff_ne]; omega
                                  obtain ⟨A5, n5, c5, hA5, hn5, hc5'⟩ : ∃ A5 n5 c5, A5 = cutA (some ⟨g2, o2, none⟩) c2 1 1 ∧ n5 = n2 - 1 ∧ c5 = c2 - 1 := ⟨_, _, _, rfl, rfl, rfl⟩
                                  have hsl3 : ∀ W : World, (Instr.sliceAt 22 (.slice (some ⟨g2, o2, none⟩) n2 c2) (some (.int .i64 1)) none none).run Tryd.prog W = .ok (.slice A5 n5 c5) W := fun W => by rw [hA5, hn5, hc5']; exact run_slice_from W stStr _ n2 c2 1 (by omega)
                                  have HL5 : Hid (SliceAt Rep.str w (under w.heap.size) A5 c5 r) := Lib.hid (by rw [hA5, hc5']; exact HL2.out.cutFromA (i := 1) (s := 1) (by simp) rfl)
                                  have HN5 : Hid (n5 = r.length) := Lib.hid (by omega)
                                  have HP5 : Hid (ps.length + 1 + n5 + 1 ≤ n) := Lib.hid (by have := HP2.out; omega)
                                  have hn5n : n5 < n' := by omega
                                  have hc5m : c5 ≤ 9223372036854775807 := by omega
                                  have hn5c : n5 ≤ c5 := by omega
                                  have HF2 : Hid (Opts.parse l = Opts.finA (Opts.words ⟨f, ps ++ [(true, z)], r⟩)) := Lib.hid (by rw [HF.out]; rfl)
                                  clear hA5 hn5 hc5' hcs2 h1 HF
                                  go_wp2_with fail
                                  go_quiet (fail)
                                  generalize hW : w2.drewN _ = W
                                  have HO5 : Hid (OSt w W f (.slice A1 n1 c1) ps) := Lib.hid (hW ▸ HO2.out.far (Below.drewN' _ _))
                                  clear hW hc0 hc1 hc2 hc3 hc4 hc5 hf0 hf1 hf2 hf3 hf4 hg5
                                  have hg5 : w.heap.size + 1 < W.heap.size := (Array.getElem?_eq_some_iff.1 HO5.out.obj).1
                                  have hc4 := HO5.out.cells.2.2.2.2.1
                                  have hf4 := HO5.out.free 4
                                  go_wp2_with (at_builtin; refine wpList_append_Own _ rfl (.tmp 83) (.tmp 88) 23 rfl Rep.prt w.heap.size 38 24 stPrt nob (.slice A1 n1 c1) ps rfl (HO5.out.own.alloc _) _ _ _ [(true, z)] rfl (SliceAt.new1 Rep.prt _ _ _ _ nob ⟨[_], [_], rfl, rfl, rfl, hzm⟩ (fun _ h => h.elim)) nob (fun _ h => h.elim) (fun _ h => h) (fun _ _ h => h) (by have := HP5.out; simp <;> omega) (by have := HP5.out; simp <;> omega) (by have := HO5.out.b.size; simp <;> omega) ?_; intro v3 w3 hown3 hg3 hat3; obtain ⟨A3, n3, c3, rfl, -, -, -⟩ := hown3.form; have HO3 := Lib.hid ((HO5.out.far ((Below.refl _ W).alloc (Nat.le_refl _) _)).push hg3 hown3); have hcc3 := HO3.out.2.1; have hff3 := HO3.out.1; clear hown3 hg3 hat3)
                                  rw [noGoto_normal]
                                  go_wp2_with fail
                                  go_roundg n5
                                  case measure => exact hn5n
                                  case rel => exact ⟨A5, n5, c5, r, f, _, _, rfl, rfl, by omega, HN5, HL5, Lib.hid HO3.out.2.2, Lib.hid (by have := HP5.out; simp; omega), HF2⟩
                              · have hz2 : ((Opts.rest y).toList == []) = false := Opts.str_no hz3
                                have HF2 : Hid (Opts.parse l = Opts.finA (Opts.words ⟨f, ps ++ [(true, Opts.rest y)], r⟩)) := Lib.hid (by rw [HF.out]; simp only [Opts.goOn, if_neg hz3])
                                clear HF hz3
                                have hts : (Opts.rest y).size ≤ maxLen := by simp only [maxLen]; omega
                                go_wp2_with (at_builtin; refine wpList_append_Own _ rfl (.tmp 83) (.tmp 88) 23 rfl Rep.prt w.heap.size 38 24 stPrt nob (.slice A1 n1 c1) ps rfl (HO2.out.own.alloc _) _ _ _ [(true, Opts.rest y)] rfl (SliceAt.new1 Rep.prt _ _ _ _ nob ⟨[_], [_], rfl, rfl, rfl, hts⟩ (fun _ h => h.elim)) nob (fun _ h => h.elim) (fun _ h => h) (fun _ _ h => h) (by have := HP2.out; simp <;> omega) (by have := HP2.out; simp <;> omega) (by have := HO2.out.b.size; simp <;> omega) ?_; intro v3 w3 hown3 hg3 hat3; obtain ⟨A3, n3, c3, rfl, -, -, -⟩ := hown3.form; have HO3 := Lib.hid ((HO2.out.far ((Below.refl _ w2).alloc (Nat.le_refl _) _)).push hg3 hown3); have hcc3 := HO3.out.2.1; have hff3 := HO3.out.1; clear hown3 hg3 hat3)
                                rw [noGoto_normal]
                                go_wp2_with fail
                                go_roundg n2
                                case measure => exact hn2n
                                case rel => exact ⟨A2, n2, c2, r, f, _, _, rfl, rfl, by omega, HN2, HL2, Lib.hid HO3.out.2.2, Lib.hid (by have := HP2.out; simp; omega), HF2⟩
                            · have hb1 : ((cc : Int) == 110) = false := by rw [beq_eq_false_iff_ne]; omega
                              have hb2 : ((cc : Int) == 69) = false := by rw [beq_eq_false_iff_ne]; omega
                              have hb3 : ((cc : Int) == 105) = false := by rw [beq_eq_false_iff_ne]; omega
                              have hb4 : ((cc : Int) == 115) = false := by rw [beq_eq_false_iff_ne]; omega
                              have hb5 : ((cc : Int) == 101) = false := by rw [beq_eq_false_iff_ne]; omega
                              have hb6 : ((cc : Int) == 102) = false := by rw [beq_eq_false_iff_ne]; omega
                              have hw := Opts.word_bad f hy0 (by rw [← HCC.out]; simp [Opts.step, h110, h69, h105, h115]) (by rw [← HCC.out]; exact h101) (by rw [← HCC.out]; exact h102)
                              rw [hw] at HF
                              clear hw h110 h69 h105 h115 h101 h102
                              go_wp2_with fail
                              refine (fault_any 90 (Opts.letter y) w2).mono ?_
                              rintro e w3 ⟨rfl, hb3⟩
                              have HO3 := Lib.hid (HO2.out.far hb3)
                              go_wp2_with (refine wpList_store_opts rfl (.tmp 2) (.tmp 94) rfl w.heap.size _ _ _ HO3.out.res rfl none_ _ _ rfl rfl rfl ?_; intro w4 HH4 HG4)
                              rw [Exit.noGoto_ret]
                              go_wp2_with fail
                              try rw [Exit.noGoto_ret]
                              refine bodyPost_ret (v := .tuple #[.agg (oCells none_ (.slice none 0 0) (.slice none 0 0)), .int .i64 90, .string (Opts.letter y)]) (opts_result _ w4 w.heap.size none_ _ _ _ _ HH4.out rfl rfl rfl) rfl ⟨?_, ?_⟩
                              · rw [HF.out]; rfl
                              · exact HO3.out.b.grown HG4.out HO3.out.b.size (fun k hk => by cases hk; omega)
                · have hz : y.size = 0 := by omega
                  rw [Opts.word_zero f hz] at HF
                  go_wp2_with fail
                  go_roundg n2
                  case measure => exact hn2n
                  case rel => exact ⟨A2, n2, c2, r, f, _, ps, rfl, rfl, by omega, HN2, HL2, HO, Lib.hid (by have := HP2.out; omega), HF⟩
          · have hopt := Opts.isOpt_no hx1 hx2
            have hw := Opts.words_not f ps x r hopt
            rw [hw] at HF
            clear hopt hw
            go_wp2_with fail
            go_meet
            case rel => exact ⟨_, n', c', x :: r, f, u, ps, rfl, hnn, HN, HL, HO, HP, HF⟩
        · have hopt := Opts.isOpt_short hx1
          have hw := Opts.words_not f ps x r hopt
          rw [hw] at HF
          have hd1 : decide ((1 : Int) < x.size) = false := decide_eq_false (by omega)
          clear hopt hw
          go_wp2_with fail
          go_meet
          case rel => exact ⟨_, n', c', x :: r, f, u, ps, rfl, hnn, HN, HL, HO, HP, HF⟩
  case rest =>
    obtain ⟨A', n', c', l', f, u, ps, rfl, hnn, HN, HL, HO, HP, HF⟩ := hcut
    obtain ⟨A1, n1, c1, rfl, HN1, hnc1, hcm1⟩ := HO.out.own.form
    obtain ⟨hc0, hc1, hc2, hc3, hc4, hc5⟩ := HO.out.cells
    have hf4 := HO.out.free 4
    have hf5 := HO.out.free 5
    have HNE := Lib.hid HO.out.ne
    have hnc := HL.out.len
    have hcm := HL.out.max
    rw [← HN.out] at hnc
    go_upto_if 100 with fail
    go_cut [0] from 7 (fun v0 wd => ∃ (A2 : Option Addr) (n2 c2 : Nat) (l2 : List ByteArray) (f2 : Opts.Fl) (u2 : Value) (p2 : List Opts.Prt), v0 = .slice A2 n2 c2 ∧ n2 ≤ n ∧ Hid (n2 = l2.length) ∧ Hid (SliceAt Rep.str w (under w.heap.size) A2 c2 l2) ∧ Hid (OSt w wd f2 u2 p2) ∧ Hid (Opts.parse l = .good ⟨f2, p2, l2⟩))
    case first =>
      by_cases hp0 : n1 = 0
      · subst hp0
        obtain rfl : ps = [] := List.length_eq_zero_iff.1 HN1.out.symm
        cases l' with
        | nil =>
          obtain rfl : n' = 0 := HN.out
          go_wp2_with fail
          refine (fault_any 91 ⟨#[]⟩ wc).mono ?_
          rintro e w2 ⟨rfl, hb2⟩
          have HO2 := Lib.hid (HO.out.far hb2)
          go_wp2_with (refine wpList_store_opts rfl (.tmp 2) (.tmp 106) rfl w.heap.size _ _ _ HO2.out.res rfl none_ _ _ rfl rfl rfl ?_; intro w3 HH3 HG3)
          rw [Exit.noGoto_ret]
          refine bodyPost_ret (v := .tuple #[.agg (oCells none_ (.slice none 0 0) (.slice none 0 0)), .int .i64 91, .string ⟨#[]⟩]) (opts_result _ w3 w.heap.size none_ _ _ _ _ HH3.out rfl rfl rfl) rfl ⟨?_, ?_⟩
          · rw [HF.out]; rfl
          · exact HO2.out.b.grown HG3.out HO2.out.b.size (fun k hk => by cases hk; omega)
        | cons x r =>
          obtain ⟨g, o, cs, rfl, hg, hcs, rfl, hxm⟩ := HL.out.at_ (i := 0) (by simp)
          have hx := (hcs.keep hg (Same.of_below HO.out.b fun _ h => h)).one
          simp only [List.getElem_cons_zero, Rep.str, Nat.zero_mul, Nat.add_zero] at hx
          have h1 : n' = r.length + 1 := by rw [HN.out]; rfl
          have H1 := Lib.hid h1
          have h0 : 0 < n' := by omega
          have hd0 : ((n' : Int) == 0) = false := by rw [beq_eq_false_iff_ne]; omega
          have hsl : ∀ W : World, (Instr.sliceAt 22 (.slice (some ⟨g, o, none⟩) n' c') (some (.int .i64 1)) none none).run Tryd.prog W = .ok (.slice (cutA (some ⟨g, o, none⟩) c' 1 1) (n' - 1) (c' - 1)) W := fun W => run_slice_from W stStr _ n' c' 1 (by omega)
          have hg5 : w.heap.size + 1 < wc.heap.size := (Array.getElem?_eq_some_iff.1 HO.out.obj).1
          clear hcs h1
          go_wp2_with fail
          go_region
          all_goals (go_wp2_with fail)
          go_meet
          case rel => exact ⟨_, _, _, r, f, _, _, rfl, by omega, Lib.hid (by rw [H1.out]; rfl), Lib.hid (HL.out.cutFromA (i := 1) (s := 1) (by simp) rfl), Lib.hid (HO.out.one false x hxm), Lib.hid (by rw [HF.out]; rfl)⟩
      · have hd0 : ((n1 : Int) == 0) = false := by rw [beq_eq_false_iff_ne]; omega
        go_wp2_with fail
        go_meet
        case rel =>
          refine ⟨_, _, _, l', f, _, ps, rfl, hnn, HN, HL, HO, Lib.hid ?_⟩
          rw [HF.out]
          cases ps with
          | nil => exact absurd HN1.out (by simpa using hp0)
          | cons y r => rfl
    case rest =>
      clear hc0 hc1 hc2 hc3 hc4 hc5 hf4 hf5 HO HNE HN1 HL HN HP HF hnc hcm
      obtain ⟨A2, n2, c2, l2, f2, u2, p2, rfl, hnn2, HN2, HL2, HO2, HF2⟩ := hcut
      obtain ⟨hc0, hc1, hc2, hc3, hc4, hc5⟩ := HO2.out.cells
      have hf5 := HO2.out.free 5
      have hsz := HO2.out.b.size
      have hg5 : w.heap.size + 1 < wc.heap.size := (Array.getElem?_eq_some_iff.1 HO2.out.obj).1
      obtain ⟨A1, n1, c1, rfl, HN1, hnc1, hcm1⟩ := HO2.out.own.form
      go_wp2_with (first | (at_builtin; refine wpList_append_Own _ rfl (.tmp 118) (.tmp 119) 22 rfl Rep.str w.heap.size 9 16 stStr nob (.slice none 0 0) [] rfl (Own.nil _ _ _ _) _ _ _ l2 (by rw [← HN2.out]; rfl) (HL2.out.keep (fun _ h => h) (Same.of_below HO2.out.b fun _ h => h)) nob (fun _ h => h.elim) (fun _ h => h) (fun _ _ h => h) (by have := HN2.out; simp <;> omega) (by have := HN2.out; simp <;> omega) (by omega) ?_; intro v3 w3 hown3 hg3 hat3; obtain ⟨A3, n3, c3, rfl, -, -, -⟩ := hown3.form; have HO3 := Lib.hid (HO2.out.far ((Below.refl _ wc).grown hg3 (Nat.le_refl _) (fun k hk => by cases hk))); obtain ⟨e0, e1, e2, e3, e4, e5⟩ := HO3.out.cells; have ef5 := HO3.out.free 5; have HRES := Lib.hid (show (w3.setCell ⟨w.heap.size + 1, 5, none⟩ (.slice A3 n3 c3)).heap[w.heap.size]? = some (oObj none_ (.slice none 0 0) (.slice none 0 0)) from (by simp [World.setCell, Array.getElem?_modify, HO3.out.res])); have HOWN3 := Lib.hid hown3; have HAT3 := Lib.hid hat3; clear hown3 hg3 hat3 hc0 hc1 hc2 hc3 hc4 hc5 hf5) | (refine wpList_store_opts rfl (.tmp 2) (.tmp 122) rfl w.heap.size _ _ _ HRES.out rfl f2 _ _ rfl rfl rfl ?_; intro w4 HH4 HG4))
      rw [Exit.noGoto_ret]
      refine bodyPost_ret (v := .tuple #[.agg (oCells f2 (.slice A1 n1 c1) (.slice A3 n3 c3)), .int .i64 0, .string ⟨#[]⟩]) (opts_result _ w4 w.heap.size f2 _ _ _ _ HH4.out rfl rfl rfl) rfl ⟨?_, ?_⟩
      · rw [HF2.out]
        refine ⟨_, _, rfl, ?_, ?_, ?_⟩
        · exact (HO3.out.own.mono (setCell_grown _ _ _ _) (.inr HO3.out.ne.1) (fun _ h => h.elim)).mono HG4.out (.inr HO3.out.ne.2) (fun _ h => h.elim)
        · exact (HOWN3.out.mono (setCell_grown _ _ _ _) (.inr (HOWN3.out.ne_block HO3.out.obj (by decide))) (fun _ h => h.elim)).mono HG4.out (.inr (HOWN3.out.ne_block HO3.out.res (by decide))) (fun _ h => h.elim)
        · rcases HAT3.out with e | e
          · cases hv : (Value.slice A1 n1 c1).ownBlock with
            | none => exact .inl rfl
            | some k => exact .inr (by rw [e]; simp [Value.ownBlock])
          · cases hv : (Value.slice A1 n1 c1).ownBlock with
            | none => exact .inl rfl
            | some k =>
              obtain ⟨xs, ho, -⟩ := HO2.out.own
              have := (ho.lt k hv).2
              exact .inr (by rw [e]; simp; omega)
      · exact (HO3.out.b.grown (setCell_grown _ _ _ _) HO3.out.b.size (fun k hk => by cases hk; omega)).grown HG4.out (Nat.le_trans HO3.out.b.size (setCell_grown _ _ _ _).size) (fun k hk => by cases hk; omega)
end Go.Proofs.YtmjagjcaepbklaaDoor
