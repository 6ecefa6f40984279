/- The walk of the law OptsFlags. Conditions: no text, no row of more than 2^47 (the reach); the tables of UTF-8. -/
import Derived.Test.YtmjagjcaepbklaaDoorProg
import Derived.Test.YtmjagjcaepbklaaDoorOptsWorks
import Derived.Test.YtmjagjcaepbklaaDoorOptsFlagsPlain
import Derived.Test.YtmjagjcaepbklaaDoorOptsBack
import Derived.Deep.RegionHeld3
namespace Go.Proofs.YtmjagjcaepbklaaDoor
open Go.RowKit

abbrev Flg := Int × ByteArray × Bool
def Rep.flag : Rep Flg := Rep.pair (Rep.int .i64) (Rep.pair Rep.str Rep.bool fun p => p) fun p => p
theorem SliceAt.flags {w : World} {S : Blocks} {A : Option Addr} {c : Nat} {l : List Flg} (h : SliceAt Rep.flag w S A c l) {i : Nat} (hi : i < l.length) :
    ∃ g o, A = some ⟨g, o, none⟩ ∧ S g ∧ w.cell? ⟨g, o + i * 3, none⟩ = some (.int .i64 l[i].1) ∧ w.cell? ⟨g, o + i * 3 + 1, none⟩ = some (.string l[i].2.1) ∧ w.cell? ⟨g, o + i * 3 + 2, none⟩ = some (.bool l[i].2.2) ∧ l[i].2.1.size ≤ maxLen := by
  obtain ⟨g, o, cs, e, hb, hc, c1, c2, rfl, ⟨rfl, -⟩, c3, c4, rfl, ⟨rfl, hs⟩, rfl⟩ := h.at_ hi
  exact ⟨g, o, e, hb, hc 0 _ rfl, hc 1 _ rfl, hc 2 _ rfl, hs⟩
theorem and7 (x : Int) : ∃ k : Nat, k < 8 ∧ bits BinOp.and IntKind.i64 x 7 = (k : Int) := by
  refine ⟨(BitVec.ofInt 64 x &&& BitVec.ofInt 64 7).toNat, ?_, ?_⟩
  · rw [BitVec.toNat_and]
    have : (BitVec.ofInt 64 7).toNat = 7 := by decide
    rw [this]
    have := Nat.and_le_right (n := (BitVec.ofInt 64 x).toNat) (m := 7)
    omega
  · have h : (BitVec.ofInt 64 x &&& BitVec.ofInt 64 7).toNat ≤ 7 := by
      rw [BitVec.toNat_and]
      have : (BitVec.ofInt 64 7).toNat = 7 := by decide
      rw [this]
      exact Nat.and_le_right
    have e : bits BinOp.and IntKind.i64 x 7 = IntKind.i64.wrap ((BitVec.ofInt 64 x &&& BitVec.ofInt 64 7).toNat : Int) := rfl
    rw [e]
    generalize hk : (BitVec.ofInt 64 x &&& BitVec.ofInt 64 7).toNat = k at h
    exact IntWalk.i64_in (k : Int) (by omega)
theorem Own.parted {α β : Type} {r : Rep α} {s : Rep β} {e e' : TypeId} {w : World} {base base' : Nat} {v v' : Value} {l : List α} {l' : List β} (h : Own r e w base nob v l) (h' : Own s e' w base' nob v' l') (hne : e ≠ e') : v.ownBlock = none ∨ v.ownBlock ≠ v'.ownBlock := by
  cases hv : v.ownBlock with
  | none => exact .inl rfl
  | some b => exact .inr fun e => h.ne_type h' hne hv e.symm
theorem empty_of {x : ByteArray} (h : x.size = 0) : x = ⟨#[]⟩ := Opts.BA_nil h
theorem isEmpty_no {x : ByteArray} (h : x.size ≠ 0) : x.toList.isEmpty = false := by
  rw [ByteArray.toList_eq]
  cases hx : x.data.toList with
  | nil => exact absurd (by rw [Opts.BA_of x, hx]; rfl) h
  | cons a l => rfl
theorem empty_yes {x : ByteArray} (h : x.toList.isEmpty = true) : x = ⟨#[]⟩ := by
  apply empty_of
  rw [ByteArray.toList_eq] at h
  have h2 : x.data.toList = [] := by simpa using h
  show x.data.size = 0
  rw [← Array.length_toList, h2]
  rfl
theorem empty_no {x : ByteArray} (h : x.toList.isEmpty = false) : x.size ≠ 0 := by
  intro h0
  obtain rfl := empty_of h0
  rw [ByteArray.toList_eq] at h
  cases h
/-- The options that are wanted, on their way; the words, on theirs. -/
structure WSt (w wr : World) (g : Nat) (f : Opts.Fl) (v : Value) (ps : List Opts.Prt) (u : Value) (a : List ByteArray) : Prop where
  lt : w.heap.size ≤ g
  obj : wr.heap[g]? = some (oObj f v (.slice none 0 0))
  own : Own Rep.prt 38 wr w.heap.size nob v ps
  arg : Own Rep.str 9 wr w.heap.size nob u a
  b : Below w.heap.size w wr
section
variable {w wr : World} {g : Nat} {f f' : Opts.Fl} {v v' u u' : Value} {ps ps' : List Opts.Prt} {a a' : List ByteArray}
theorem WSt.glt (h : WSt w wr g f v ps u a) : g < wr.heap.size := (Array.getElem?_eq_some_iff.1 h.obj).1
theorem WSt.far {w' : World} (h : WSt w wr g f v ps u a) (hb : Below wr.heap.size wr w') : WSt w w' g f v ps u a :=
  ⟨h.lt, (hb.block _ h.glt).trans h.obj, h.own.far hb, h.arg.far hb, h.b.trans (hb.mono h.b.size)⟩
theorem WSt.cells (h : WSt w wr g f v ps u a) :
    wr.cell? ⟨g, 0, none⟩ = some (.bool f.q) ∧ wr.cell? ⟨g, 1, none⟩ = some (.bool f.e) ∧ wr.cell? ⟨g, 2, none⟩ = some (.bool f.a) ∧ wr.cell? ⟨g, 3, none⟩ = some (.bool f.i) ∧
    wr.cell? ⟨g, 4, none⟩ = some v ∧ wr.cell? ⟨g, 5, none⟩ = some (.slice none 0 0) :=
  ⟨cell_of_row wr _ 0 _ _ (0, 0) h.obj, cell_of_row wr _ 1 _ _ (0, 0) h.obj, cell_of_row wr _ 2 _ _ (0, 0) h.obj, cell_of_row wr _ 3 _ _ (0, 0) h.obj, cell_of_row wr _ 4 _ _ (0, 0) h.obj, cell_of_row wr _ 5 _ _ (0, 0) h.obj⟩
theorem WSt.free (h : WSt w wr g f v ps u a) (k : Nat) : wr.frozen? ⟨g, k, none⟩ = false := by simp [World.frozen?, h.obj, oObj]
theorem WSt.ne (h : WSt w wr g f v ps u a) : v.ownBlock ≠ some g ∧ u.ownBlock ≠ some g := ⟨h.own.ne_block h.obj (by decide), h.arg.ne_block h.obj (by decide)⟩
theorem WSt.set (h : WSt w wr g f v ps u a) (k : Nat) (z : Value) (hk : (oCells f v (.slice none 0 0)).set! k z = oCells f' v' (.slice none 0 0)) (ho : Own Rep.prt 38 wr w.heap.size nob v' ps') : WSt w (wr.setCell ⟨g, k, none⟩ z) g f' v' ps' u a := by
  refine ⟨h.lt, ?_, ?_, ?_, ?_⟩
  · simp [World.setCell, Array.getElem?_modify, h.obj, oObj, ← hk]
  · exact ho.mono (setCell_grown _ _ _ _) (.inr (ho.ne_block h.obj (by decide))) (fun _ h => h.elim)
  · exact h.arg.mono (setCell_grown _ _ _ _) (.inr h.ne.2) (fun _ h => h.elim)
  · exact h.b.grown (setCell_grown _ _ _ _) h.b.size (fun k hk => by cases hk; exact h.lt)
theorem WSt.set2 (h : WSt w wr g f v ps u a) (k : Nat) (z : Value) (hk : (oCells f v (.slice none 0 0)).set! k z = oCells f' v (.slice none 0 0)) : WSt w (wr.setCell ⟨g, k, none⟩ z) g f' v ps u a := h.set k z hk h.own
/-- A part put behind the parts. -/
theorem WSt.push {w3 : World} (h : WSt w wr g f v ps u a) (hg : wr.grownBy w3 v.ownBlock) (ho : Own Rep.prt 38 w3 w.heap.size nob v' ps') :
    w3.frozen? ⟨g, 4, none⟩ = false ∧ w3.cell? ⟨g, 4, none⟩ = some v ∧ WSt w (w3.setCell ⟨g, 4, none⟩ v') g f v' ps' u a := by
  have hobj : w3.heap[g]? = some (oObj f v (.slice none 0 0)) := (hg.block _ h.glt (fun e => h.ne.1 e.symm)).trans h.obj
  have harg : Own Rep.str 9 w3 w.heap.size nob u a := h.arg.mono hg (h.arg.parted h.own (by decide)) (fun _ h => h.elim)
  refine ⟨by simp [World.frozen?, hobj, oObj], cell_of_row w3 _ 4 _ _ (0, 0) hobj, h.lt, ?_, ?_, ?_, ?_⟩
  · simp [World.setCell, Array.getElem?_modify, hobj, oObj, oCells]
  · exact ho.mono (setCell_grown _ _ _ _) (.inr (ho.ne_block hobj (by decide))) (fun _ h => h.elim)
  · exact harg.mono (setCell_grown _ _ _ _) (.inr (harg.ne_block hobj (by decide))) (fun _ h => h.elim)
  · exact (below_own h.b h.own hg h.b.size).grown (setCell_grown _ _ _ _) (Nat.le_trans h.b.size hg.size) (fun k hk => by cases hk; exact h.lt)
/-- A word put behind the words. -/
theorem WSt.word {w3 : World} (h : WSt w wr g f v ps u a) (hg : wr.grownBy w3 u.ownBlock) (ho : Own Rep.str 9 w3 w.heap.size nob u' a') : WSt w w3 g f v ps u' a' := by
  refine ⟨h.lt, (hg.block _ h.glt (fun e => h.ne.2 e.symm)).trans h.obj, h.own.mono hg (h.own.parted h.arg (by decide)) (fun _ h => h.elim), ho, below_own h.b h.arg hg h.b.size⟩
theorem WSt.one (h : WSt w wr g f v ps u a) (b : Bool) (x : ByteArray) (hx : x.size ≤ maxLen) :
    WSt w ((wr.setCell ⟨g, 4, none⟩ (.slice (some ⟨wr.heap.size, 0, none⟩) 1 1)).alloc (.cells #[.bool b, .string x] 38)) g f (.slice (some ⟨wr.heap.size, 0, none⟩) 1 1) [(b, x)] u a := by
  have h2 := h.far ((Below.refl _ wr).alloc (Nat.le_refl _) (.cells #[.bool b, .string x] 38))
  have hown : Own Rep.prt 38 (wr.alloc (.cells #[.bool b, .string x] 38)) w.heap.size nob (.slice (some ⟨wr.heap.size, 0, none⟩) 1 1) [(b, x)] := by
    refine ⟨[.bool b, .string x], ⟨rfl, .inr ⟨wr.heap.size, 1, _, rfl, h.b.size, heap_alloc_new _ _, Nat.le_refl _, by simp [maxLen], rfl, rfl⟩⟩, fun _ h => h.elim, by simp [Value.oneCell'], fun i hi => ?_⟩
    obtain rfl : i = 0 := by simpa using hi
    exact ⟨[.bool b], [.string x], rfl, rfl, rfl, hx⟩
  have h3 := h2.set (f' := f) (v' := .slice (some ⟨wr.heap.size, 0, none⟩) 1 1) 4 (.slice (some ⟨wr.heap.size, 0, none⟩) 1 1) rfl hown
  rw [World.setCell_alloc_past _ _ _ _ h.glt] at h3
  exact h3
theorem WSt.start {w w1 : World} (hb : Below w.heap.size w w1) : WSt w (w1.alloc (oObj none_ (.slice none 0 0) (.slice none 0 0))) w1.heap.size none_ (.slice none 0 0) [] (.slice none 0 0) [] :=
  ⟨hb.size, heap_alloc_new _ _, Own.nil _ _ _ _, Own.nil _ _ _ _, hb.alloc hb.size _⟩
end
/-- A round's state. -/
def FRel (w : World) (g n : Nat) (k : Nat) (v9 v10 v11 : Value) (wr : World) : Prop :=
  ∃ (i : Nat) (x : ByteArray) (f : Opts.Fl) (v4 : Value) (ps : List Opts.Prt) (a : List ByteArray), i ≤ n ∧ v11 = .int .i64 i ∧ v10 = .string x ∧ k = n - i ∧ x.size ≤ i + 1 ∧ Hid (WSt w wr g f v4 ps v9 a) ∧ Hid (ps.length ≤ i) ∧ Hid (a.length ≤ 2 * i) ∧ Hid (Opts.FInv x f ps a)
set_option maxRecDepth 100000 in
set_option maxHeartbeats 8000000 in
theorem optsFlags_any (d : Bool) (l : List Flg) (fs : List ByteArray) (A F : Option Addr) (n c fn fc : Nat) (w : World) (hn : Hid (n = l.length)) (hl : Hid (SliceAt Rep.flag w (under w.heap.size) A c l))
    (hfn : Hid (fn = fs.length)) (hfs : Hid (SliceAt Rep.str w (under w.heap.size) F fc fs)) (hT : Hid (Lib.Utf8Tabs 0 1 w)) (hsf : Hid (∀ x ∈ fs, x.size ≤ 140737488351232)) (hsl : Hid (∀ x ∈ l, x.2.1.size ≤ 140737488351232)) :
    Calls Tryd.prog 4 #[.slice A n c, .bool d, .slice F fn fc] w fun e' w' => e' = .returned (.bool true) ∧ Below w.heap.size w w' := by
  have hfc := hfs.out.len
  have hfm := hfs.out.max
  have hnc := hl.out.len
  have hcm := hl.out.max
  rw [← hfn.out] at hfc
  rw [← hn.out] at hnc
  go_enter Tryd.func4, Tryd.ntmps4
  go_wp2_with fail
  refine (worksO_any w hT).mono ?_
  rintro e1 w1 ⟨rfl, hb1⟩
  have HB1 := Lib.hid hb1
  clear hb1
  by_cases hn1 : n ≤ 65536
  case neg =>
    have hd : decide ((65536 : Int) < n) = true := decide_eq_true (by omega)
    go_wp2_with fail
    go_ret
    exact ⟨rfl, HB1.out⟩
  have hd : decide ((65536 : Int) < n) = false := decide_eq_false (by omega)
  go_wp2_with fail
  refine (long_any F fn fc fs w1 _ hfn (Lib.hid (hfs.out.keep (fun _ h => h) (Same.of_below HB1.out fun _ h => h))) hsf).mono ?_
  rintro e1 w1' ⟨⟨b, rfl, hbn⟩, rfl⟩
  cases b
  case true =>
    go_wp2_with fail
    go_ret
    exact ⟨rfl, HB1.out⟩
  have hfb := hbn rfl
  clear hbn
  by_cases hf0 : fn = 0
  case pos =>
    subst hf0
    go_wp2_with fail
    go_ret
    exact ⟨rfl, HB1.out⟩
  have hdf : ((fn : Int) == 0) = false := by rw [beq_eq_false_iff_ne]; omega
  have HWS := Lib.hid (WSt.start HB1.out)
  obtain ⟨g, hg⟩ : ∃ g, g = w1.heap.size := ⟨_, rfl⟩
  go_wp2_with fail
  rw [← hg] at HWS ⊢
  have HG := Lib.hid hg
  clear hd hdf hg
  go_loopg [9, 10, 11] n (FRel w g n)
  case atStart => exact ⟨0, ⟨#[]⟩, _, _, _, _, Nat.zero_le _, rfl, rfl, rfl, Nat.zero_le _, HWS, Lib.hid (Nat.zero_le _), Lib.hid (Nat.zero_le _), Lib.hid Opts.FInv.start⟩
  case round =>
    obtain ⟨i, x, f, v4, ps, a, hi, rfl, rfl, rfl, hx, HW, HP, HA, HF⟩ := hrel
    clear HWS
    obtain ⟨A9, n9, c9, rfl, -, hn9, hc9⟩ := HW.out.arg.form
    obtain ⟨e, he⟩ : ∃ e, x.toList.isEmpty = e := ⟨_, rfl⟩
    by_cases hlt : i < n
    · have hil : i < l.length := by have := hn.out; omega
      obtain ⟨gl, ol, rfl, hgl, hk0, hk1, hk2, hks⟩ := hl.out.flags hil
      have hsl2 := hsl.out l[i] (List.getElem_mem _)
      generalize hle : l[i] = fl at hk0 hk1 hk2 hks hsl2
      obtain ⟨kind, t, st⟩ := fl
      simp only at hk0 hk1 hk2 hks hsl2
      obtain ⟨k, hk8, hk⟩ := and7 kind
      have hgl' : gl < w.heap.size := hgl
      have HK : Hid (∀ W, Below w.heap.size w W → W.cell? ⟨gl, ol + i * 3, none⟩ = some (.int .i64 kind) ∧ W.cell? ⟨gl, ol + i * 3 + 1, none⟩ = some (.string t) ∧ W.cell? ⟨gl, ol + i * 3 + 2, none⟩ = some (.bool st)) := Lib.hid fun W hW => ⟨(hW.cell (p := ⟨gl, _, none⟩) hgl).trans hk0, (hW.cell (p := ⟨gl, _, none⟩) hgl).trans hk1, (hW.cell (p := ⟨gl, _, none⟩) hgl).trans hk2⟩
      clear hk0 hk1 hk2 hle hgl
      obtain ⟨m0, m1, m2⟩ := HK.out wr HW.out.b
      have hgne : gl ≠ g := by have := HW.out.lt; omega
      go_upto_if 47 with fail
      go_cut [10] from 34 to 131 (fun v10 wc => v10 = .string (Opts.dash x) ∧ Hid (WSt w wc g f v4 ps (.slice A9 n9 c9) a))
      case first =>
        cases e
        case true =>
          obtain rfl := empty_yes he
          clear he
          go_wp2_with fail
          go_meet
          case rel => exact ⟨rfl, HW⟩
        case false =>
          have hx0 := empty_no he
          have hx2 : Opts.dash x = x := by unfold Opts.dash; rw [if_neg hx0]
          have HX2 := Lib.hid hx2
          clear hx2
          go_wp2_with fail
          go_meet
          case rel => exact ⟨by rw [HX2.out], HW⟩
      case rest =>
        clear he
        obtain ⟨rfl, HW2⟩ := hcut
        obtain ⟨y, hy⟩ : ∃ y, y = Opts.dash x := ⟨_, rfl⟩
        have hys : y.size ≤ i + 1 := by
          rw [hy]; unfold Opts.dash; split
          · rw [Opts.BA_size]; simp
          · exact hx
        have HY := Lib.hid hy
        rw [← hy]
        clear hy m0 m1 m2 hx HW
        obtain ⟨hc0, hc1, hc2, hc3, hc4, hc5⟩ := HW2.out.cells
        have hf0 := HW2.out.free 0
        have hf1 := HW2.out.free 1
        have hf2 := HW2.out.free 2
        have hf3 := HW2.out.free 3
        have hf4 := HW2.out.free 4
        obtain ⟨m0, m1, m2⟩ := HK.out wc HW2.out.b
        have hglt := HW2.out.glt
        have hkk : k = 0 ∨ k = 1 ∨ k = 2 ∨ k = 3 ∨ 4 ≤ k := by omega
        rcases hkk with rfl | rfl | rfl | rfl | hk4
        · have HW3 := Lib.hid (HW2.out.set2 (f' := { f with q := true }) 0 (.bool true) rfl)
          have hsz : (y ++ ⟨#[110]⟩ : ByteArray).size ≤ maxLen := by rw [ByteArray.size_append]; simp only [maxLen]; have : (⟨#[110]⟩ : ByteArray).size = 1 := rfl; omega
          have hsz2 : (y ++ ⟨#[110]⟩ : ByteArray).size ≤ i + 2 := by rw [ByteArray.size_append]; have : (⟨#[110]⟩ : ByteArray).size = 1 := rfl; omega
          cases st
          · go_wp2_with (at_builtin; refine wpList_append_Own _ rfl (.tmp 128) (.tmp 130) 22 rfl Rep.str w.heap.size 9 16 stStr nob (.slice A9 n9 c9) a rfl (HW3.out.arg.alloc _) (under (wc.heap.size + 1)) _ _ [y ++ ⟨#[110]⟩] rfl (str1 _ _ _ _ hsz (by simp [World.setCell]) _ (by simp [World.setCell])) nob (fun _ h => h.elim) (fun _ h => h) (fun _ _ h => h) (by have := HA.out; simp <;> omega) (by have := HA.out; simp <;> omega) (by have := HW2.out.b.size; simp [World.setCell] <;> omega) ?_; intro v3 w3 hown3 hg3 hat3; have HW4 := Lib.hid ((HW3.out.far ((Below.refl _ _).alloc (Nat.le_refl _) _)).word hg3 hown3); clear hown3 hg3 hat3)
            go_roundg (n - (i + 1))
            case measure => omega
            case rel => exact ⟨i + 1, ⟨#[]⟩, { f with q := true }, v4, ps, a ++ [y ++ ⟨#[110]⟩], by omega, by go_num, rfl, rfl, Nat.zero_le _, HW4, Lib.hid (by have := HP.out; omega), Lib.hid (by have := HA.out; simp; omega), Lib.hid (by rw [HY.out]; exact HF.out.loose 110 rfl rfl)⟩
          · go_wp2_with fail
            go_roundg (n - (i + 1))
            case measure => omega
            case rel => exact ⟨i + 1, y ++ ⟨#[110]⟩, { f with q := true }, v4, ps, a, by omega, by go_num, rfl, rfl, hsz2, HW3, Lib.hid (by have := HP.out; omega), Lib.hid (by have := HA.out; omega), Lib.hid (by rw [HY.out]; exact HF.out.stuck 110 rfl rfl)⟩
        · have HW3 := Lib.hid (HW2.out.set2 (f' := { f with e := true }) 1 (.bool true) rfl)
          have hsz : (y ++ ⟨#[69]⟩ : ByteArray).size ≤ maxLen := by rw [ByteArray.size_append]; simp only [maxLen]; have : (⟨#[69]⟩ : ByteArray).size = 1 := rfl; omega
          have hsz2 : (y ++ ⟨#[69]⟩ : ByteArray).size ≤ i + 2 := by rw [ByteArray.size_append]; have : (⟨#[69]⟩ : ByteArray).size = 1 := rfl; omega
          cases st
          · go_wp2_with (at_builtin; refine wpList_append_Own _ rfl (.tmp 128) (.tmp 130) 22 rfl Rep.str w.heap.size 9 16 stStr nob (.slice A9 n9 c9) a rfl (HW3.out.arg.alloc _) (under (wc.heap.size + 1)) _ _ [y ++ ⟨#[69]⟩] rfl (str1 _ _ _ _ hsz (by simp [World.setCell]) _ (by simp [World.setCell])) nob (fun _ h => h.elim) (fun _ h => h) (fun _ _ h => h) (by have := HA.out; simp <;> omega) (by have := HA.out; simp <;> omega) (by have := HW2.out.b.size; simp [World.setCell] <;> omega) ?_; intro v3 w3 hown3 hg3 hat3; have HW4 := Lib.hid ((HW3.out.far ((Below.refl _ _).alloc (Nat.le_refl _) _)).word hg3 hown3); clear hown3 hg3 hat3)
            go_roundg (n - (i + 1))
            case measure => omega
            case rel => exact ⟨i + 1, ⟨#[]⟩, { f with e := true }, v4, ps, a ++ [y ++ ⟨#[69]⟩], by omega, by go_num, rfl, rfl, Nat.zero_le _, HW4, Lib.hid (by have := HP.out; omega), Lib.hid (by have := HA.out; simp; omega), Lib.hid (by rw [HY.out]; exact HF.out.loose 69 rfl rfl)⟩
          · go_wp2_with fail
            go_roundg (n - (i + 1))
            case measure => omega
            case rel => exact ⟨i + 1, y ++ ⟨#[69]⟩, { f with e := true }, v4, ps, a, by omega, by go_num, rfl, rfl, hsz2, HW3, Lib.hid (by have := HP.out; omega), Lib.hid (by have := HA.out; omega), Lib.hid (by rw [HY.out]; exact HF.out.stuck 69 rfl rfl)⟩
        · have HW3 := Lib.hid (HW2.out.set2 (f' := { f with a := true }) 2 (.bool true) rfl)
          have hsz : (y ++ ⟨#[115]⟩ : ByteArray).size ≤ maxLen := by rw [ByteArray.size_append]; simp only [maxLen]; have : (⟨#[115]⟩ : ByteArray).size = 1 := rfl; omega
          have hsz2 : (y ++ ⟨#[115]⟩ : ByteArray).size ≤ i + 2 := by rw [ByteArray.size_append]; have : (⟨#[115]⟩ : ByteArray).size = 1 := rfl; omega
          cases st
          · go_wp2_with (at_builtin; refine wpList_append_Own _ rfl (.tmp 128) (.tmp 130) 22 rfl Rep.str w.heap.size 9 16 stStr nob (.slice A9 n9 c9) a rfl (HW3.out.arg.alloc _) (under (wc.heap.size + 1)) _ _ [y ++ ⟨#[115]⟩] rfl (str1 _ _ _ _ hsz (by simp [World.setCell]) _ (by simp [World.setCell])) nob (fun _ h => h.elim) (fun _ h => h) (fun _ _ h => h) (by have := HA.out; simp <;> omega) (by have := HA.out; simp <;> omega) (by have := HW2.out.b.size; simp [World.setCell] <;> omega) ?_; intro v3 w3 hown3 hg3 hat3; have HW4 := Lib.hid ((HW3.out.far ((Below.refl _ _).alloc (Nat.le_refl _) _)).word hg3 hown3); clear hown3 hg3 hat3)
            go_roundg (n - (i + 1))
            case measure => omega
            case rel => exact ⟨i + 1, ⟨#[]⟩, { f with a := true }, v4, ps, a ++ [y ++ ⟨#[115]⟩], by omega, by go_num, rfl, rfl, Nat.zero_le _, HW4, Lib.hid (by have := HP.out; omega), Lib.hid (by have := HA.out; simp; omega), Lib.hid (by rw [HY.out]; exact HF.out.loose 115 rfl rfl)⟩
          · go_wp2_with fail
            go_roundg (n - (i + 1))
            case measure => omega
            case rel => exact ⟨i + 1, y ++ ⟨#[115]⟩, { f with a := true }, v4, ps, a, by omega, by go_num, rfl, rfl, hsz2, HW3, Lib.hid (by have := HP.out; omega), Lib.hid (by have := HA.out; omega), Lib.hid (by rw [HY.out]; exact HF.out.stuck 115 rfl rfl)⟩
        · have HW3 := Lib.hid ((HW2.out.set2 (f' := { f with i := true }) 3 (.bool true) rfl).set2 (f' := { f with a := true, i := true }) 2 (.bool true) rfl)
          have hsz : (y ++ ⟨#[105]⟩ : ByteArray).size ≤ maxLen := by rw [ByteArray.size_append]; simp only [maxLen]; have : (⟨#[105]⟩ : ByteArray).size = 1 := rfl; omega
          have hsz2 : (y ++ ⟨#[105]⟩ : ByteArray).size ≤ i + 2 := by rw [ByteArray.size_append]; have : (⟨#[105]⟩ : ByteArray).size = 1 := rfl; omega
          cases st
          · go_wp2_with (at_builtin; refine wpList_append_Own _ rfl (.tmp 128) (.tmp 130) 22 rfl Rep.str w.heap.size 9 16 stStr nob (.slice A9 n9 c9) a rfl (HW3.out.arg.alloc _) (under (wc.heap.size + 1)) _ _ [y ++ ⟨#[105]⟩] rfl (str1 _ _ _ _ hsz (by simp [World.setCell]) _ (by simp [World.setCell])) nob (fun _ h => h.elim) (fun _ h => h) (fun _ _ h => h) (by have := HA.out; simp <;> omega) (by have := HA.out; simp <;> omega) (by have := HW2.out.b.size; simp [World.setCell] <;> omega) ?_; intro v3 w3 hown3 hg3 hat3; have HW4 := Lib.hid ((HW3.out.far ((Below.refl _ _).alloc (Nat.le_refl _) _)).word hg3 hown3); clear hown3 hg3 hat3)
            go_roundg (n - (i + 1))
            case measure => omega
            case rel => exact ⟨i + 1, ⟨#[]⟩, { f with a := true, i := true }, v4, ps, a ++ [y ++ ⟨#[105]⟩], by omega, by go_num, rfl, rfl, Nat.zero_le _, HW4, Lib.hid (by have := HP.out; omega), Lib.hid (by have := HA.out; simp; omega), Lib.hid (by rw [HY.out]; exact HF.out.loose 105 rfl rfl)⟩
          · go_wp2_with fail
            go_roundg (n - (i + 1))
            case measure => omega
            case rel => exact ⟨i + 1, y ++ ⟨#[105]⟩, { f with a := true, i := true }, v4, ps, a, by omega, by go_num, rfl, rfl, hsz2, HW3, Lib.hid (by have := HP.out; omega), Lib.hid (by have := HA.out; omega), Lib.hid (by rw [HY.out]; exact HF.out.stuck 105 rfl rfl)⟩
        · have e0 : ((k : Int) == 0) = false := by rw [beq_eq_false_iff_ne]; omega
          have e1 : ((k : Int) == 1) = false := by rw [beq_eq_false_iff_ne]; omega
          have e2 : ((k : Int) == 2) = false := by rw [beq_eq_false_iff_ne]; omega
          have e3 : ((k : Int) == 3) = false := by rw [beq_eq_false_iff_ne]; omega
          obtain ⟨b, hb⟩ : ∃ b, ((k : Int) % 2 == 1) = b := ⟨_, rfl⟩
          clear hc0 hc1 hc2 hc3 hc4 hc5 hf0 hf1 hf2 hf3 hf4 m0 m1 m2 hglt
          go_upto_if 52 with fail
          go_cut [14] from 34 to 131 (fun v14 wd => v14 = .string ⟨#[Opts.by_ b]⟩ ∧ Hid (WSt w wd g f v4 ps (.slice A9 n9 c9) a))
          case first =>
            cases b
            · go_wp2_with fail
              go_meet
              case rel => exact ⟨rfl, HW2⟩
            · go_wp2_with fail
              go_meet
              case rel => exact ⟨rfl, HW2⟩
          case rest =>
            clear HW2
            obtain ⟨rfl, HW3⟩ := hcut
            clear e0 e1 e2 e3 hb hk
            have hc4 := HW3.out.cells.2.2.2.2.1
            obtain ⟨m0, m1, m2⟩ := HK.out _ HW3.out.b
            have hglt := HW3.out.glt
            have hin : (i : Int) < (n : Int) := by omega
            go_upto_region 18 with fail
            go_cut [] from 34 to 131 (fun we => ∃ A4 n4 c4, Hid (WSt w we g f (.slice A4 n4 c4) (ps ++ [(b, t)]) (.slice A9 n9 c9) a))
            case first =>
              go_region_law ((refine step_append_Own rfl (.tmp 54) (.tmp 62) 23 rfl Rep.prt w.heap.size 38 24 stPrt nob v4 ps (by simp [Act.eval]) (HW3.out.own.far (((Below.refl _ _).alloc (Nat.le_refl _) _).drew)) _ (some ⟨_, 0, none⟩) 1 [(b, t)] (by simp [Act.eval]) ((SliceAt.new1 Rep.prt _ _ _ _ nob ⟨[_], [_], rfl, rfl, rfl, hks⟩ (fun _ h => h.elim)).drewN 1) nob (fun _ h => h.elim) (fun _ h => h) (fun _ _ h => h) (by have := HP.out; simp <;> omega) (by have := HP.out; simp <;> omega) (by have := HW3.out.b.size; simp [World.drew] <;> omega) ?_; intro v3 w3 hown3 hg3 hat3; obtain ⟨A3, n3, c3, rfl, -, -, -⟩ := hown3.form; have HW4 := Lib.hid ((HW3.out.far (((Below.refl _ _).alloc (Nat.le_refl _) _).drew)).push hg3 hown3); have hcc3 := HW4.out.2.1; have hff3 := HW4.out.1; clear hown3 hg3 hat3))
              all_goals
                go_wp2_with fail
                go_meet
                case rel => exact ⟨_, _, _, Lib.hid HW4.out.2.2⟩
            case rest =>
              clear hc4 m0 m1 m2 hglt
              obtain ⟨A4, n4, c4, HW5⟩ := hcut
              obtain ⟨m0, m1, m2⟩ := HK.out _ HW5.out.b
              have hsz : (y ++ ⟨#[Opts.by_ b]⟩ : ByteArray).size ≤ maxLen := by rw [ByteArray.size_append]; simp only [maxLen]; have : (⟨#[Opts.by_ b]⟩ : ByteArray).size = 1 := rfl; omega
              by_cases hst : st = true ∧ t ≠ ⟨#[]⟩
              · obtain ⟨rfl, ht⟩ := hst
                have ht1 : t.toList.isEmpty = false := by
                  cases he : t.toList.isEmpty with
                  | false => rfl
                  | true => exact absurd (empty_yes he) ht
                have HT1 := Lib.hid ht
                have hsz3 : (y ++ ⟨#[Opts.by_ b]⟩ ++ t : ByteArray).size ≤ maxLen := by rw [ByteArray.size_append, ByteArray.size_append]; simp only [maxLen]; have : (⟨#[Opts.by_ b]⟩ : ByteArray).size = 1 := rfl; omega
                clear ht
                go_wp2_with (at_builtin; refine wpList_append_Own _ rfl (.tmp 78) (.tmp 88) 22 rfl Rep.str w.heap.size 9 16 stStr nob (.slice A9 n9 c9) a rfl (HW5.out.arg.alloc _) _ _ _ [y ++ ⟨#[Opts.by_ b]⟩ ++ t] rfl (SliceAt.new1 Rep.str _ _ _ _ nob ⟨rfl, hsz3⟩ (fun _ h => h.elim)) nob (fun _ h => h.elim) (fun _ h => h) (fun _ _ h => h) (by have := HA.out; simp <;> omega) (by have := HA.out; simp <;> omega) (by have := HW5.out.b.size; simp <;> omega) ?_; intro v3 w3 hown3 hg3 hat3; have HW6 := Lib.hid ((HW5.out.far ((Below.refl _ _).alloc (Nat.le_refl _) _)).word hg3 hown3); clear hown3 hg3 hat3)
                go_roundg (n - (i + 1))
                case measure => omega
                case rel => exact ⟨i + 1, ⟨#[]⟩, f, _, ps ++ [(b, t)], a ++ [y ++ ⟨#[Opts.by_ b]⟩ ++ t], by omega, by go_num, rfl, rfl, Nat.zero_le _, HW6, Lib.hid (by have := HP.out; simp; omega), Lib.hid (by have := HA.out; simp; omega), Lib.hid (by rw [HY.out]; exact HF.out.part1 b t HT1.out)⟩
              · have hor : st = false ∨ t = ⟨#[]⟩ := by
                  cases st
                  · exact .inl rfl
                  · exact .inr (by simpa using hst)
                clear hst
                rcases hor with rfl | rfl
                · go_wp2_with (at_builtin; refine wpList_append_Own _ rfl (.tmp 90) (.tmp 99) 22 rfl Rep.str w.heap.size 9 16 stStr nob (.slice A9 n9 c9) a rfl (HW5.out.arg.alloc _) (under (wc.heap.size + 1)) _ _ [y ++ ⟨#[Opts.by_ b]⟩, t] rfl (str2 _ _ _ _ _ hsz hks (by first | rfl | simp) _ (Nat.lt_succ_self _)) nob (fun _ h => h.elim) (fun _ h => h) (fun _ _ h => h) (by have := HA.out; simp only [List.length_cons, List.length_nil]; omega) (by have := HA.out; simp only [List.length_cons, List.length_nil]; omega) (by have := HW5.out.b.size; first | omega | (simp <;> omega)) ?_; intro v3 w3 hown3 hg3 hat3; have HW6 := Lib.hid ((HW5.out.far ((Below.refl _ _).alloc (Nat.le_refl _) _)).word hg3 hown3); clear hown3 hg3 hat3)
                  go_roundg (n - (i + 1))
                  case measure => omega
                  case rel => exact ⟨i + 1, ⟨#[]⟩, f, _, ps ++ [(b, t)], a ++ [y ++ ⟨#[Opts.by_ b]⟩, t], by omega, by go_num, rfl, rfl, Nat.zero_le _, HW6, Lib.hid (by have := HP.out; simp; omega), Lib.hid (by have := HA.out; simp; omega), Lib.hid (by rw [HY.out]; exact HF.out.part2 b t)⟩
                · cases st
                  all_goals
                    go_wp2_with (at_builtin; refine wpList_append_Own _ rfl (.tmp 90) (.tmp 99) 22 rfl Rep.str w.heap.size 9 16 stStr nob (.slice A9 n9 c9) a rfl (HW5.out.arg.alloc _) (under (wc.heap.size + 1)) _ _ [y ++ ⟨#[Opts.by_ b]⟩, ⟨#[]⟩] rfl (str2 _ _ _ _ _ hsz hks (by first | rfl | simp) _ (Nat.lt_succ_self _)) nob (fun _ h => h.elim) (fun _ h => h) (fun _ _ h => h) (by have := HA.out; simp only [List.length_cons, List.length_nil]; omega) (by have := HA.out; simp only [List.length_cons, List.length_nil]; omega) (by have := HW5.out.b.size; first | omega | (simp <;> omega)) ?_; intro v3 w3 hown3 hg3 hat3; have HW6 := Lib.hid ((HW5.out.far ((Below.refl _ _).alloc (Nat.le_refl _) _)).word hg3 hown3); clear hown3 hg3 hat3)
                    go_roundg (n - (i + 1))
                    case measure => omega
                    case rel => exact ⟨i + 1, ⟨#[]⟩, f, _, ps ++ [(b, ⟨#[]⟩)], a ++ [y ++ ⟨#[Opts.by_ b]⟩, ⟨#[]⟩], by omega, by go_num, rfl, rfl, Nat.zero_le _, HW6, Lib.hid (by have := HP.out; simp; omega), Lib.hid (by have := HA.out; simp; omega), Lib.hid (by rw [HY.out]; exact HF.out.part2 b ⟨#[]⟩)⟩
    · obtain rfl : i = n := by omega
      go_upto_if 133 with fail
      go_cut [9] from 19 (fun v9 wc => ∃ a : List ByteArray, Hid (WSt w wc g f v4 ps v9 a) ∧ Hid (a.length ≤ 2 * i + 1) ∧ Hid (Opts.FInv (Opts.BA []) f ps a))
      case first =>
        cases e
        case true =>
          obtain rfl := empty_yes he
          clear he
          go_wp2_with fail
          go_meet
          case rel => exact ⟨a, HW, Lib.hid (by have := HA.out; omega), HF⟩
        case false =>
          have hx0 := empty_no he
          have hxm : x.size ≤ maxLen := by simp only [maxLen]; omega
          go_wp2_with (at_builtin; refine wpList_append_Own _ rfl (.tmp 134) (.tmp 136) 22 rfl Rep.str w.heap.size 9 16 stStr nob (.slice A9 n9 c9) a rfl (HW.out.arg.alloc _) _ _ _ [x] rfl (SliceAt.new1 Rep.str _ _ _ _ nob ⟨rfl, hxm⟩ (fun _ h => h.elim)) nob (fun _ h => h.elim) (fun _ h => h) (fun _ _ h => h) (by have := HA.out; simp <;> omega) (by have := HA.out; simp <;> omega) (by have := HW.out.b.size; simp <;> omega) ?_; intro v3 w3 hown3 hg3 hat3; have HW4 := Lib.hid ((HW.out.far ((Below.refl _ _).alloc (Nat.le_refl _) _)).word hg3 hown3); clear hown3 hg3 hat3)
          go_meet
          case rel => exact ⟨a ++ [x], HW4, Lib.hid (by have := HA.out; simp; omega), Lib.hid (HF.out.endw hx0)⟩
      case rest =>
        clear HW HA HF hx he hn9 hc9
        obtain ⟨a, HW, HA, HF⟩ := hcut
        obtain ⟨A9, n9, c9, rfl, -, hn9, hc9⟩ := HW.out.arg.form
        cases fs with
        | nil => exact absurd hfn.out hf0
        | cons f0 fr =>
          obtain ⟨gf, of, cs, rfl, hgf, hcs, rfl, hfm0⟩ := hfs.out.at_ (i := 0) (by simp)
          have hfc0 := (hcs.keep hgf (Same.of_below HW.out.b fun _ h => h)).one
          simp only [List.getElem_cons_zero, Rep.str, Nat.zero_mul, Nat.add_zero] at hfc0 hfm0
          have HCS := Lib.hid hcs
          have HGF := Lib.hid hgf
          have hfmm : f0.size ≤ 9223372036854775807 := by simpa [maxLen] using hfm0
          have h0f : 0 < fn := by omega
          clear hcs
          go_upto_if 139 with fail
          go_cut [9] from 19 (fun v9 wd => ∃ a : List ByteArray, Hid (WSt w wd g f v4 ps v9 a) ∧ Hid (a.length ≤ 2 * i + 2) ∧ Hid (Opts.parse (a ++ f0 :: fr) = Opts.fin ⟨f, ps, f0 :: fr⟩))
          case first =>
            cases d
            · by_cases h1 : 1 < f0.size
              · have hd1 : decide ((1 : Int) < f0.size) = true := decide_eq_true (by omega)
                by_cases h2 : (f0[0]'(by omega)).toNat = 45
                · go_wp2_with fail
                  go_ret
                  exact ⟨rfl, HW.out.b⟩
                · have hno := Lib.hid (HF.out.files f0 fr (Opts.isOpt_no h1 h2))
                  go_wp2_with fail
                  go_meet
                  case rel => exact ⟨a, HW, Lib.hid (by have := HA.out; omega), hno⟩
              · have hd1 : decide ((1 : Int) < f0.size) = false := decide_eq_false (by omega)
                have hno := Lib.hid (HF.out.files f0 fr (Opts.isOpt_short h1))
                go_wp2_with fail
                go_meet
                case rel => exact ⟨a, HW, Lib.hid (by have := HA.out; omega), hno⟩
            · have h2m : (⟨#[45, 45]⟩ : ByteArray).size ≤ maxLen := by decide
              go_wp2_with (at_builtin; refine wpList_append_Own _ rfl (.tmp 140) (.tmp 141) 22 rfl Rep.str w.heap.size 9 16 stStr nob (.slice A9 n9 c9) a rfl (HW.out.arg.alloc _) _ _ _ [⟨#[45, 45]⟩] rfl (SliceAt.new1 Rep.str _ _ _ _ nob ⟨rfl, h2m⟩ (fun _ h => h.elim)) nob (fun _ h => h.elim) (fun _ h => h) (fun _ _ h => h) (by have := HA.out; simp <;> omega) (by have := HA.out; simp <;> omega) (by have := HW.out.b.size; simp <;> omega) ?_; intro v3 w3 hown3 hg3 hat3; have HW4 := Lib.hid ((HW.out.far ((Below.refl _ _).alloc (Nat.le_refl _) _)).word hg3 hown3); clear hown3 hg3 hat3)
              go_meet
              case rel => exact ⟨a ++ [⟨#[45, 45]⟩], HW4, Lib.hid (by have := HA.out; simp; omega), Lib.hid (HF.out.dashes _)⟩
          case rest =>
            clear HW HA HF hfc0 hn9 hc9
            obtain ⟨a, HW, HA, HF⟩ := hcut
            obtain ⟨A9, n9, c9, rfl, -, hn9, hc9⟩ := HW.out.arg.form
            have hbl := hfn.out
            rw [List.length_cons] at hbl
            have HBL := Lib.hid hbl
            clear hbl
            go_upto_region 47 with (at_builtin; refine wpList_append_Own _ rfl (.tmp 156) (.tmp 157) 22 rfl Rep.str w.heap.size 9 16 stStr nob (.slice A9 n9 c9) a rfl HW.out.arg _ _ _ (f0 :: fr) (by rw [← hfn.out]; rfl) (hfs.out.keep (fun _ h => h) (Same.of_below HW.out.b fun _ h => h)) nob (fun _ h => h.elim) (fun _ h => h) (fun _ _ h => h) (by have := HA.out; have := HBL.out; simp <;> omega) (by have := HA.out; have := HBL.out; simp <;> omega) HW.out.b.size ?_; intro v5 w5 hown5 hg5 hat5; obtain ⟨A5, n5, c5, rfl, hn5, hnc5, hcm5⟩ := hown5.form; have HW5 := Lib.hid (HW.out.word hg5 hown5); clear hown5 hg5 hat5)
            clear HW
            obtain ⟨A4, n4, c4, rfl, HN4, hn4, hc4⟩ := HW5.out.own.form
            have hfc0 := (HCS.out.keep HGF.out (Same.of_below HW5.out.b fun _ h => h)).one
            simp only [Rep.str, Nat.zero_mul, Nat.add_zero] at hfc0
            have hk4 := HW5.out.cells.2.2.2.2.1
            have hf4 := HW5.out.free 4
            have hglt := HW5.out.glt
            go_upto_if 162 with fail
            go_cut [15] from 19 (fun v15 wd => ∃ (A4 : Option Addr) (n4 c4 : Nat) (ps2 : List Opts.Prt) (F2 : Option Addr) (n2 c2 : Nat) (fs2 : List ByteArray), v15 = .slice F2 n2 c2 ∧ n2 ≤ c2 ∧ c2 ≤ 9223372036854775807 ∧ Hid (n2 = fs2.length) ∧ Hid (WSt w wd g f (.slice A4 n4 c4) ps2 (.slice A5 n5 c5) (a ++ f0 :: fr)) ∧ Hid (SliceAt Rep.str w (under w.heap.size) F2 c2 fs2) ∧ Hid (Opts.fin ⟨f, ps, f0 :: fr⟩ = .good ⟨f, ps2, fs2⟩))
            case first =>
              cases ps with
              | nil =>
                obtain rfl : n4 = 0 := HN4.out
                have hsl : ∀ W : World, (Instr.sliceAt 22 (.slice (some ⟨gf, of, none⟩) fn fc) (some (.int .i64 1)) none none).run Tryd.prog W = .ok (.slice (cutA (some ⟨gf, of, none⟩) fc 1 1) (fn - 1) (fc - 1)) W := fun W => run_slice_from W stStr _ fn fc 1 (by omega)
                go_wp2_with fail
                go_meet
                case rel => exact ⟨_, _, _, _, _, _, _, fr, rfl, by omega, by omega, Lib.hid (by have := HBL.out; omega), Lib.hid (HW5.out.one false f0 hfm0), Lib.hid (hfs.out.cutFromA (i := 1) (s := 1) (by simp) rfl), Lib.hid rfl⟩
              | cons p pr =>
                have hn4' : ((n4 : Int) == 0) = false := by rw [beq_eq_false_iff_ne]; have := HN4.out; rw [List.length_cons] at this; omega
                go_wp2_with fail
                go_meet
                case rel => exact ⟨_, _, _, _, _, _, _, f0 :: fr, rfl, hfc, hfm, hfn, HW5, hfs, Lib.hid rfl⟩
            case rest =>
              clear hfc0 hk4 hf4 hglt HN4 HW5 hn4 hc4 A4 n4 c4
              obtain ⟨A4, n4, c4, ps2, F2, n2, c2, fs2, rfl, hnc2, hcm2, HN2, HW5, HF2, HFIN⟩ := hcut
              have hk5 := HW5.out.cells.2.2.2.2.2
              have hf5 := HW5.out.free 5
              have hglt := HW5.out.glt
              obtain ⟨W6, hW6⟩ : ∃ W6, W6 = wc.setCell ⟨g, 5, none⟩ (.slice F2 n2 c2) := ⟨_, rfl⟩
              have hO6 : W6.heap[g]? = some (oObj f (.slice A4 n4 c4) (.slice F2 n2 c2)) := by rw [hW6]; simp [World.setCell, Array.getElem?_modify, HW5.out.obj, oObj, oCells]
              have hgr : wc.grownBy W6 (some g) := by rw [hW6]; exact setCell_grown _ _ _ _
              have hb6 : Below w.heap.size w W6 := HW5.out.b.grown hgr HW5.out.b.size (fun k hk => by cases hk; exact HW5.out.lt)
              have hp6 : Own Rep.prt 38 W6 w.heap.size nob (.slice A4 n4 c4) ps2 := HW5.out.own.mono hgr (.inr HW5.out.ne.1) (fun _ h => h.elim)
              have ha6 : Own Rep.str 9 W6 w.heap.size nob (.slice A5 n5 c5) (a ++ f0 :: fr) := HW5.out.arg.mono hgr (.inr HW5.out.ne.2) (fun _ h => h.elim)
              have hlt6 : g < W6.heap.size := (Array.getElem?_eq_some_iff.1 hO6).1
              obtain ⟨A7, n7, c7, e7, hn7, hnc7, hcm7, hs7⟩ := ha6.atB (Below.refl _ _)
              simp only [Value.slice.injEq] at e7
              obtain ⟨rfl, rfl, rfl⟩ := e7
              obtain ⟨P7, m7, d7, e8, hm7, hmc7, hdm7, hq7⟩ := hp6.atB (Below.refl _ _)
              simp only [Value.slice.injEq] at e8
              obtain ⟨rfl, rfl, rfl⟩ := e8
              have hn7b : n5 ≤ 4294967296 := by rw [hn7, List.length_append]; have := HA.out; have := HBL.out; simp; omega
              have HQ := Lib.hid (parse_any A5 n5 c5 (a ++ f0 :: fr) W6 (Lib.hid hn7) (Lib.hid hs7) (Lib.hid (Utf8Tabs_below hT.out hb6)) hn7b)
              rw [HF.out, HFIN.out, hW6] at HQ
              have HW6 := Lib.hid hW6
              have HO6 := Lib.hid hO6
              have HB6 := Lib.hid hb6
              have HQ7 := Lib.hid hq7
              have HM7 := Lib.hid hm7
              clear hW6 hO6 hgr hb6 hp6 ha6 hn7 hs7 hq7 hm7
              go_wp2_with fail
              refine HQ.out.mono ?_
              clear HQ
              rintro e8 w8 ⟨⟨v8, u8, he8, ho8, hu8, -⟩, hb8⟩
              rw [← HW6.out] at ho8 hu8 hb8
              simp only [oCells] at he8
              subst he8
              obtain ⟨A1, n1, c1, rfl, hn1', hnc1, hcm1, hs1⟩ := ho8.atB (Below.refl _ _)
              obtain ⟨B1, m1, d1, rfl, hm1', hmd1, hdm1, ht1⟩ := hu8.atB (Below.refl _ _)
              have hblk := (hb8.block g hlt6).trans HO6.out
              have k0 : w8.cell? ⟨g, 0, none⟩ = some (.bool f.q) := cell_of_row w8 _ 0 _ _ (0, 0) hblk
              have k1 : w8.cell? ⟨g, 1, none⟩ = some (.bool f.e) := cell_of_row w8 _ 1 _ _ (0, 0) hblk
              have k2 : w8.cell? ⟨g, 2, none⟩ = some (.bool f.a) := cell_of_row w8 _ 2 _ _ (0, 0) hblk
              have k3 : w8.cell? ⟨g, 3, none⟩ = some (.bool f.i) := cell_of_row w8 _ 3 _ _ (0, 0) hblk
              have k4 : w8.cell? ⟨g, 4, none⟩ = some (.slice A4 n4 c4) := cell_of_row w8 _ 4 _ _ (0, 0) hblk
              have k5 : w8.cell? ⟨g, 5, none⟩ = some (.slice F2 n2 c2) := cell_of_row w8 _ 5 _ _ (0, 0) hblk
              have hlt8 : g < w8.heap.size := by have := hb8.size; omega
              have hal := fun (o : Obj) => (Below.refl w8.heap.size w8).alloc (Nat.le_refl _) o
              have hB8 : Below w.heap.size w w8 := HB6.out.trans (hb8.mono HB6.out.size)
              have i2 : SliceAt Rep.prt w8 (under w8.heap.size) A4 c4 ps2 := HQ7.out.keep (fun b h => Nat.lt_of_lt_of_le h hb8.size) (Same.of_below hb8 fun _ h => h)
              have i3 : SliceAt Rep.str w8 (under w8.heap.size) F2 c2 fs2 := HF2.out.keep (fun b h => Nat.lt_of_lt_of_le h hB8.size) (Same.of_below hB8 fun _ h => h)
              have HEQ2 : Hid (∀ o : Obj, Calls Tryd.prog 11 #[.agg #[.bool f.q, .bool f.e, .bool f.a, .bool f.i, .slice A1 n1 c1, .slice B1 m1 d1], .agg #[.bool f.q, .bool f.e, .bool f.a, .bool f.i, .slice A4 n4 c4, .slice F2 n2 c2]] (w8.alloc o) fun e w' => e = .returned (.bool true) ∧ Below (w8.alloc o).heap.size (w8.alloc o) w') := Lib.hid fun o =>
                eqO f ps2 fs2 A1 A4 B1 F2 n1 n4 m1 n2 c1 c4 d1 c2 (w8.alloc o) (under w8.heap.size) (under w8.heap.size) (under w8.heap.size) (under w8.heap.size) hn1' HM7.out hm1' HN2.out
                  (hs1.keep (fun _ h => h) (Same.of_below (hal o) fun _ h => h)) (i2.keep (fun _ h => h) (Same.of_below (hal o) fun _ h => h)) (ht1.keep (fun _ h => h) (Same.of_below (hal o) fun _ h => h)) (i3.keep (fun _ h => h) (Same.of_below (hal o) fun _ h => h))
                  (fun b h => Nat.lt_of_lt_of_le h (hal o).size) (fun b h => Nat.lt_of_lt_of_le h (hal o).size) (fun b h => Nat.lt_of_lt_of_le h (hal o).size) (fun b h => Nat.lt_of_lt_of_le h (hal o).size)
              have HAL := Lib.hid hal
              have HB8 := Lib.hid hB8
              clear ho8 hu8 hn1' hm1' hs1 ht1 i2 i3 hal hblk hb8 hB8
              go_wp2_with fail
              refine (HEQ2.out _).mono ?_
              rintro e9 w9 ⟨rfl, hb9⟩
              have HB9 := Lib.hid (HB8.out.trans (((HAL.out _).trans (hb9.mono (by simp))).mono HB8.out.size))
              clear hb9
              go_wp2_with fail
              go_ret
              exact ⟨rfl, HB9.out⟩
end Go.Proofs.YtmjagjcaepbklaaDoor
