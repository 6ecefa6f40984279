/- The walk of the law OptsParses. Conditions: the tables of UTF-8 and of powers of ten lie as they are laid. -/
import Derived.Test.YtmjagjcaepbklaaDoorRefParse28
import Derived.Test.YtmjagjcaepbklaaDoorAddOptions
import Derived.Test.YtmjagjcaepbklaaDoorOptsPrints
namespace Go.Proofs.YtmjagjcaepbklaaDoor
open Go.RowKit

/-- One answer, whatever the world. -/
structure OAns where
  f : Opts.Fl
  ps : List Opts.Prt
  fs : List ByteArray
  er : Int
  s : ByteArray
def ansO : Opts.Ans Opts.Mid → OAns
  | .fault n s => ⟨none_, [], [], n, s⟩
  | .good m => ⟨m.f, m.ps, m.l, 0, ⟨#[]⟩⟩
/-- What a reading leaves. -/
def Read28 (a : OAns) (w : World) (e : Ending) (w' : World) : Prop :=
  ∃ A1 n1 c1 A2 n2 c2, e = .returned (.tuple #[.agg #[.bool a.f.q, .bool a.f.e, .bool a.f.a, .bool a.f.i, .slice A1 n1 c1, .slice A2 n2 c2], .int .i64 a.er, .string a.s]) ∧ n1 ≤ c1 ∧ c1 ≤ 9223372036854775807 ∧ n2 ≤ c2 ∧ c2 ≤ 9223372036854775807 ∧
    Hid (Own Rep.prt 38 w' w.heap.size nob (.slice A1 n1 c1) a.ps) ∧ Hid (Own Rep.str 9 w' w.heap.size nob (.slice A2 n2 c2) a.fs) ∧ Hid (Below w.heap.size w w')
theorem read_of {w : World} {e : Ending} {w' : World} (x : Opts.Ans Opts.Mid) (h : OParsed w e w' x) (hb : Below w.heap.size w w') : Read28 (ansO x) w e w' := by
  cases x with
  | fault n s => exact ⟨none, 0, 0, none, 0, 0, h, Nat.le_refl _, by omega, Nat.le_refl _, by omega, Lib.hid (Own.nil _ _ _ _), Lib.hid (Own.nil _ _ _ _), Lib.hid hb⟩
  | good m =>
    obtain ⟨v, u, he, ho, hu, -⟩ := h
    obtain ⟨A1, n1, c1, rfl, -, h1, h2⟩ := ho.form
    obtain ⟨A2, n2, c2, rfl, -, h3, h4⟩ := hu.form
    exact ⟨A1, n1, c1, A2, n2, c2, he, h1, h2, h3, h4, Lib.hid ho, Lib.hid hu, Lib.hid hb⟩
theorem ansO_fits (l : List ByteArray) : (ansO (Opts.parse l)).ps.length ≤ l.length ∧ (ansO (Opts.parse l)).fs.length ≤ l.length := by
  have := Opts.parse_fits l
  cases h : Opts.parse l with
  | fault n s => simp [ansO]
  | good m =>
    rw [h] at this
    have h2 : m.ps.length + m.l.length ≤ l.length := this
    simp only [ansO]
    omega
/-- Options as they stand in a block, and their rows. -/
structure OptAt (W : World) (B b : Nat) (a : OAns) (x y : Ent) : Prop where
  obj : W.heap[b]? = some (oObj a.f (Ent.v x) (Ent.v y))
  p : Own Rep.prt 38 W B nob (Ent.v x) a.ps
  q : Own Rep.str 9 W B nob (Ent.v y) a.fs
section
variable {W W' : World} {B b : Nat} {a : OAns} {x y : Ent}
theorem OptAt.far (h : OptAt W B b a x y) (hb : Below W.heap.size W W') : OptAt W' B b a x y :=
  ⟨(hb.block _ (Array.getElem?_eq_some_iff.1 h.obj).1).trans h.obj, h.p.far hb, h.q.far hb⟩
theorem OptAt.only {F : Blocks} (h : OptAt W B b a x y) (ho : Only F W W') (h1 : ¬ F b) (h2 : ∀ k, (Ent.v x).ownBlock = some k → ¬ F k) (h3 : ∀ k, (Ent.v y).ownBlock = some k → ¬ F k) : OptAt W' B b a x y :=
  ⟨(ho.block _ (Array.getElem?_eq_some_iff.1 h.obj).1 h1).trans h.obj, h.p.only ho h2, h.q.only ho h3⟩
theorem OptAt.made {w' : World} {A1 A2 : Option Addr} {n1 c1 n2 c2 : Nat} (h1 : Own Rep.prt 38 w' B nob (.slice A1 n1 c1) a.ps) (h2 : Own Rep.str 9 w' B nob (.slice A2 n2 c2) a.fs) :
    OptAt (w'.alloc (.cells #[.bool a.f.q, .bool a.f.e, .bool a.f.a, .bool a.f.i, .slice A1 n1 c1, .slice A2 n2 c2] 25)) B w'.heap.size a (A1, n1, c1) (A2, n2, c2) :=
  ⟨heap_alloc_new _ _, h1.alloc _, h2.alloc _⟩
end
theorem OptAt.cells {W : World} {B b : Nat} {a : OAns} {A1 A2 : Option Addr} {n1 c1 n2 c2 : Nat} (h : OptAt W B b a (A1, n1, c1) (A2, n2, c2)) : W.cell? ⟨b, 0, none⟩ = some (.bool a.f.q) ∧ W.cell? ⟨b, 1, none⟩ = some (.bool a.f.e) ∧ W.cell? ⟨b, 2, none⟩ = some (.bool a.f.a) ∧ W.cell? ⟨b, 3, none⟩ = some (.bool a.f.i) ∧ W.cell? ⟨b, 4, none⟩ = some (.slice A1 n1 c1) ∧ W.cell? ⟨b, 5, none⟩ = some (.slice A2 n2 c2) :=
  oObj_cells (q := a.f.q) (e := a.f.e) (a := a.f.a) (i := a.f.i) h.obj
/-- .. stored into another's block. -/
theorem OptAt.stored {W w' : World} {B B2 b : Nat} {a a2 : OAns} {x y : Ent} {A1 A2 : Option Addr} {n1 c1 n2 c2 : Nat} (h : OptAt W B b a x y) (h1 : Own Rep.prt 38 W B2 nob (.slice A1 n1 c1) a2.ps) (h2 : Own Rep.str 9 W B2 nob (.slice A2 n2 c2) a2.fs) (hg : W.grownBy w' (some b)) (ho : w'.heap[b]? = some (oObj a2.f (.slice A1 n1 c1) (.slice A2 n2 c2))) :
    OptAt w' B2 b a2 (A1, n1, c1) (A2, n2, c2) :=
  ⟨ho, h1.mono hg (.inr (h1.ne_block h.obj (by decide))) (fun _ h => h.elim), h2.mono hg (.inr (h2.ne_block h.obj (by decide))) (fun _ h => h.elim)⟩
theorem OptAt.turned {W w' : World} {B b b2 : Nat} {a : OAns} {x y : Ent} {f2 : Opts.Fl} {v2 u2 : Value} (h : OptAt W B b a x y) (hg : W.grownBy w' (some b2)) (hne : b ≠ b2) (h2 : W.heap[b2]? = some (oObj f2 v2 u2)) : OptAt w' B b a x y :=
  ⟨(hg.block _ (Array.getElem?_eq_some_iff.1 h.obj).1 (by simpa using hne)).trans h.obj, h.p.mono hg (.inr (h.p.ne_block h2 (by decide))) (fun _ h => h.elim), h.q.mono hg (.inr (h.q.ne_block h2 (by decide))) (fun _ h => h.elim)⟩
/-- EqOptions of two that read alike. -/
theorem eqOA {W : World} {B1 b1 B2 b2 : Nat} {a : OAns} {A1 A2 A3 A4 : Option Addr} {n1 c1 n2 c2 n3 c3 n4 c4 : Nat} (h : OptAt W B1 b1 a (A1, n1, c1) (A2, n2, c2)) (k : OptAt W B2 b2 a (A3, n3, c3) (A4, n4, c4)) :
    Calls Tryd.prog 11 #[.agg #[.bool a.f.q, .bool a.f.e, .bool a.f.a, .bool a.f.i, .slice A1 n1 c1, .slice A2 n2 c2], .agg #[.bool a.f.q, .bool a.f.e, .bool a.f.a, .bool a.f.i, .slice A3 n3 c3, .slice A4 n4 c4]] W fun e w' => e = .returned (.bool true) ∧ Below W.heap.size W w' :=
  eqO a.f a.ps a.fs A1 A3 A2 A4 n1 n3 n2 n4 c1 c3 c2 c4 W _ _ _ _ h.p.at1.1 k.p.at1.1 h.q.at1.1 k.q.at1.1 h.p.at1.2.2.2 k.p.at1.2.2.2 h.q.at1.2.2.2 k.q.at1.2.2.2 (fun _ h => h) (fun _ h => h) (fun _ h => h) (fun _ h => h)
/-- The words handed in, and their twins. -/
structure PaIn (w W : World) (l L : List ByteArray) (A : Option Addr) (n c g : Nat) : Prop where
  sl : SliceAt Rep.str W (under w.heap.size) A c l
  own : Own Rep.str 9 W w.heap.size nob (.slice (some ⟨g, 0, none⟩) (n + 64) (n + 64)) L
  tab : Lib.Utf8Tabs 0 1 W
  po : Pow W
  b0 : Below w.heap.size w W
section
variable {w W W' : World} {l L : List ByteArray} {A : Option Addr} {n c g : Nat}
theorem PaIn.far (h : PaIn w W l L A n c g) (hb : Below W.heap.size W W') : PaIn w W' l L A n c g :=
  ⟨h.sl.keep (fun _ h => h) (Same.of_below hb fun _ hx => Nat.lt_of_lt_of_le hx h.b0.size), h.own.far hb, Utf8Tabs_below h.tab hb, h.po.below hb, h.b0.trans (hb.mono h.b0.size)⟩
theorem PaIn.far2 (h : PaIn w W l L A n c g) {b2 : Nat} {f2 : Opts.Fl} {v2 u2 : Value} (hg : W.grownBy W' (some b2)) (hb2 : w.heap.size ≤ b2) (_ : W.heap[b2]? = some (oObj f2 v2 u2)) : Below w.heap.size w W' :=
  h.b0.grown hg h.b0.size fun b hb => by cases hb; exact hb2
theorem PaIn.sl' (h : PaIn w W l L A n c g) : SliceAt Rep.str W (under W.heap.size) A c l := h.sl.up fun _ hb => Nat.lt_of_lt_of_le hb h.b0.size
theorem PaIn.inn (h : PaIn w W l L A n c g) (hL : L.length = n + 64) : SliceAt Rep.str W (under W.heap.size) (some ⟨g, 0, none⟩) (n + 64) (L.take n) := (h.own.first (k := n) hL (by omega)).at1.2.2.2
end
theorem PaIn.inl {w W : World} {l L M : List ByteArray} {A : Option Addr} {n c g : Nat} (h : PaIn w W l L A n c g) (hL : L.length = n + 64) (hM : L.take n = M) : SliceAt Rep.str W (under W.heap.size) (some ⟨g, 0, none⟩) (n + 64) M := by
  have := h.inn hL
  rwa [hM] at this
theorem progRead (A : Option Addr) (n c : Nat) (l : List ByteArray) (W : World) (hn : Hid (n = l.length)) (hl : Hid (SliceAt Rep.str W (under W.heap.size) A c l)) (hT : Hid (Lib.Utf8Tabs 0 1 W)) (hb : n ≤ 4294967296) :
    Calls Tryd.prog 10 #[.slice A n c] W fun e w' => Read28 (ansO (Opts.parse l)) W e w' :=
  (parse_any A n c l W hn hl hT hb).mono fun _ _ ⟨h1, h2⟩ => read_of _ h1 h2
theorem refRead (A : Option Addr) (n c : Nat) (l : List ByteArray) (W : World) (hn : Hid (n = l.length)) (hl : Hid (SliceAt Rep.str W (under W.heap.size) A c l)) (hb : n ≤ 4294967296) :
    Calls Tryd.prog 14 #[.slice A n c] W fun e w' => Read28 (ansO (Opts.parse l)) W e w' :=
  (refParse_any A n c l W hn hl hb).mono fun _ _ ⟨h1, h2⟩ => read_of _ h1 h2
section
variable {W W' : World} {base gb : Nat} {vs : Nat → Value} {es : Nat → List Ent}
theorem BagG.notBlk (h : BagG W base gb vs es) {b : Nat} {cs : Array Value} {T : TypeId} {fr : Nat × Nat} (hb : W.heap[b]? = some (.cells cs T fr)) (h1 : 63 ≠ T) (h2 : ∀ j, j < 19 → kS j ≠ T) : ¬ GF gb vs b := by
  rintro (rfl | ⟨j, hj, e⟩)
  · have := h.blk
    rw [hb] at this
    injection this with this
    injection this with _ e
    exact h1 e.symm
  · exact (h.own j hj).ne_block hb (h2 j hj) e
theorem kS_opts : ∀ j, j < 19 → kS j ≠ 25 := by decide +kernel
theorem OptAt.bag {B b : Nat} {a : OAns} {x y : Ent} (h : OptAt W B b a x y) (hg : BagG W base gb vs es) (ho : Only (GF gb vs) W W') : OptAt W' B b a x y :=
  h.only ho (hg.notBlk h.obj (by decide) kS_opts) (fun _ hk => hg.notF h.p (by decide) (kE_kS 12 (by omega) (by omega) (by omega) (by omega)) hk) (fun _ hk => hg.notF h.q (by decide) (kE_kS 3 (by omega) (by omega) (by omega) (by omega)) hk)
end
set_option maxRecDepth 100000 in
set_option maxHeartbeats 16000000 in
theorem optsParses_any (A : Option Addr) (n c : Nat) (l : List ByteArray) (w : World) (hn : Hid (n = l.length)) (hl : Hid (SliceAt Rep.str w (under w.heap.size) A c l)) (hT : Hid (Lib.Utf8Tabs 0 1 w)) (hP : Hid (Pow w)) (hsm : Hid (∀ x ∈ l, x.size ≤ 140737488351232)) :
    Calls Tryd.prog 5 #[.slice A n c] w fun e' w' => e' = .returned (.bool true) ∧ Below w.heap.size w w' := by
  have hnc : n ≤ c := by rw [hn.out]; exact hl.out.len
  have hcm := hl.out.max
  go_enter Tryd.func5, Tryd.ntmps5
  go_wp2_with fail
  refine (worksO_any w hT).mono ?_
  rintro e1 w1 ⟨rfl, hb1⟩
  have HB1 := Lib.hid hb1
  have hl1 : SliceAt Rep.str w1 (under w1.heap.size) A c l := hl.out.keep (fun _ h => Nat.lt_of_lt_of_le h hb1.size) (Same.of_below hb1 fun _ h => h)
  have HL1 := Lib.hid hl1
  clear hb1 hl1
  go_wp2_with fail
  refine (long_any A n c l w1 _ hn HL1 hsm).mono ?_
  rintro e1 w1' ⟨⟨b, rfl, hbn⟩, rfl⟩
  cases b
  case true =>
    go_wp2_with fail
    go_ret
    exact ⟨rfl, HB1.out⟩
  have hnb := hbn rfl
  clear hbn
  obtain ⟨a, ha⟩ : ∃ a, a = ansO (Opts.parse l) := ⟨_, rfl⟩
  have HA := Lib.hid ha
  have hfit := ansO_fits l
  rw [← ha, ← hn.out] at hfit
  have HFIT := Lib.hid hfit
  clear ha hfit
  go_wp2_with fail
  refine (wideTexts_any A n c l w1 _ hn.out HL1.out (fun _ h => h) (by omega) (Lib.hid (hP.out.below HB1.out))).mono ?_
  rintro e w2 ⟨g, rfl, hown2, hb2⟩
  have HLL : Hid ((l ++ marksT n).length = n + 64) := Lib.hid (by rw [List.length_append, marksT_len, hn.out])
  have HTK : Hid ((l ++ marksT n).take n = l) := Lib.hid (by rw [hn.out, List.take_left])
  have HI2 : Hid (PaIn w w2 l (l ++ marksT n) A n c g) := Lib.hid (by
    have hw := HB1.out.trans (hb2.mono HB1.out.size)
    exact ⟨hl.out.keep (fun _ h => h) (Same.of_below hw fun _ h => h), hown2.base_le HB1.out.size, Utf8Tabs_below hT.out hw, hP.out.below hw, hw⟩)
  have hg2 : g < w2.heap.size := (hown2.block_lt rfl).2
  clear hown2 hb2
  go_wp2_with fail
  refine (progRead (some ⟨g, 0, none⟩) n (n + 64) l w2 hn (Lib.hid (HI2.out.inl HLL.out HTK.out)) (Lib.hid HI2.out.tab) (by omega)).mono ?_
  rw [← HA.out]
  rintro e w3 ⟨A1, n1, c1, A2, n2, c2, rfl, k11, k12, k13, k14, HP3, HQ3, HB3⟩
  obtain ⟨w4, hw4⟩ : ∃ W, W = w3.alloc (.cells #[.bool a.f.q, .bool a.f.e, .bool a.f.a, .bool a.f.i, .slice A1 n1 c1, .slice A2 n2 c2] 25) := ⟨_, rfl⟩
  have hb4 : Below w3.heap.size w3 w4 := by rw [hw4]; exact (Below.refl _ _).alloc (Nat.le_refl _) _
  have HO4 : Hid (OptAt w4 w2.heap.size w3.heap.size a (A1, n1, c1) (A2, n2, c2)) := Lib.hid (by rw [hw4]; exact OptAt.made HP3.out HQ3.out)
  have HI4 := Lib.hid ((HI2.out.far HB3.out).far hb4)
  have HK1 : Hid (∀ q, ((Value.slice A1 n1 c1).ownBlock = some q ∨ (Value.slice A2 n2 c2).ownBlock = some q) → q < w3.heap.size) := Lib.hid fun q hq => by
    rcases hq with hq | hq
    · exact (HP3.out.block_lt hq).2
    · exact (HQ3.out.block_lt hq).2
  have hz34 : w3.heap.size < w4.heap.size := by rw [hw4]; simp
  have hz23 := HB3.out.size
  have HRD : Hid (∀ W, W = w4 → Calls Tryd.prog 10 #[.slice (some ⟨g, 0, none⟩) n (n + 64)] W fun e w' => Read28 a w4 e w') := Lib.hid fun W h => by
    subst h
    rw [HA.out]
    exact progRead (some ⟨g, 0, none⟩) n (n + 64) l W hn (Lib.hid (HI4.out.inl HLL.out HTK.out)) (Lib.hid HI4.out.tab) (by omega)
  have HW4 := Lib.hid hw4
  clear hw4 hb4 HP3 HQ3 HB3
  go_wp2_with fail
  refine (HRD.out _ HW4.out.symm).mono ?_
  clear HRD
  rintro e w5 ⟨A3, n3, c3, A4, n4, c4, rfl, k21, k22, k23, k24, HP5, HQ5, HB5⟩
  obtain ⟨w6, hw6⟩ : ∃ W, W = w5.alloc (.cells #[.bool a.f.q, .bool a.f.e, .bool a.f.a, .bool a.f.i, .slice A3 n3 c3, .slice A4 n4 c4] 25) := ⟨_, rfl⟩
  have hb6 : Below w5.heap.size w5 w6 := by rw [hw6]; exact (Below.refl _ _).alloc (Nat.le_refl _) _
  have HP6 : Hid (OptAt w6 w4.heap.size w5.heap.size a (A3, n3, c3) (A4, n4, c4)) := Lib.hid (by rw [hw6]; exact OptAt.made HP5.out HQ5.out)
  have HO6 := Lib.hid ((HO4.out.far HB5.out).far hb6)
  have HI6 := Lib.hid ((HI4.out.far HB5.out).far hb6)
  have HK2 : Hid (∀ q, ((Value.slice A3 n3 c3).ownBlock = some q ∨ (Value.slice A4 n4 c4).ownBlock = some q) → q < w5.heap.size) := Lib.hid fun q hq => by
    rcases hq with hq | hq
    · exact (HP5.out.block_lt hq).2
    · exact (HQ5.out.block_lt hq).2
  have hz56 : w5.heap.size < w6.heap.size := by rw [hw6]; simp
  have hz45 := HB5.out.size
  have HRD : Hid (∀ W, W = w6 → Calls Tryd.prog 14 #[.slice A n c] W fun e w' => Read28 a w6 e w') := Lib.hid fun W h => by
    subst h
    rw [HA.out]
    exact refRead A n c l W hn (Lib.hid HI6.out.sl') (by omega)
  have HW6 := Lib.hid hw6
  clear hw6 hb6 HP5 HQ5 HB5 HO4 HI4
  go_wp2_with fail
  refine (HRD.out _ HW6.out.symm).mono ?_
  clear HRD
  rintro e w7 ⟨A5, n5, c5, A6, n6, c6, rfl, k31, k32, k33, k34, HP7, HQ7, HB7⟩
  obtain ⟨w8, hw8⟩ : ∃ W, W = w7.alloc (.cells #[.bool a.f.q, .bool a.f.e, .bool a.f.a, .bool a.f.i, .slice A5 n5 c5, .slice A6 n6 c6] 25) := ⟨_, rfl⟩
  have hb8 : Below w7.heap.size w7 w8 := by rw [hw8]; exact (Below.refl _ _).alloc (Nat.le_refl _) _
  have HW8a : Hid (OptAt w8 w6.heap.size w7.heap.size a (A5, n5, c5) (A6, n6, c6)) := Lib.hid (by rw [hw8]; exact OptAt.made HP7.out HQ7.out)
  have HO8 := Lib.hid ((HO6.out.far HB7.out).far hb8)
  have HP8 := Lib.hid ((HP6.out.far HB7.out).far hb8)
  have HI8 := Lib.hid ((HI6.out.far HB7.out).far hb8)
  have hz78 : w7.heap.size < w8.heap.size := by rw [hw8]; simp
  have hz67 := HB7.out.size
  have HEQ1 : Hid (∀ W, W = w8 → Calls Tryd.prog 15 #[.slice (some ⟨g, 0, none⟩) n (n + 64), .slice A n c] W fun e w' => e = .returned (.bool true) ∧ Below w8.heap.size w8 w') := Lib.hid fun W h => by
    subst h
    exact eqT (some ⟨g, 0, none⟩) A n (n + 64) n c l l W true hn.out hn.out (decide_eq_true rfl) _ _ (HI8.out.inl HLL.out HTK.out) HI8.out.sl'
  have HW8 := Lib.hid hw8
  clear hw8 hb8 HP7 HQ7 HB7 HO6 HP6 HI6
  go_wp2_with fail
  refine (HEQ1.out _ HW8.out.symm).mono ?_
  clear HEQ1
  rintro e w9 ⟨rfl, hb9⟩
  have HO9 := Lib.hid (HO8.out.far hb9)
  have HP9 := Lib.hid (HP8.out.far hb9)
  have HWA9 := Lib.hid (HW8a.out.far hb9)
  have HI9 := Lib.hid (HI8.out.far hb9)
  have hz89 := hb9.size
  clear hb9 HO8 HP8 HW8a HI8
  go_wp2_with fail
  refine (spareTexts_any g n _ l w9 hn.out HI9.out.own (by omega) (Lib.hid HI9.out.po)).mono ?_
  rintro e w10 ⟨rfl, hb10⟩
  have HO10 := Lib.hid (HO9.out.far hb10)
  have HP10 := Lib.hid (HP9.out.far hb10)
  have HWA10 := Lib.hid (HWA9.out.far hb10)
  have HI10 := Lib.hid (HI9.out.far hb10)
  have hz9a := hb10.size
  clear hb10 HO9 HP9 HWA9 HI9
  have hee : (a.er != a.er) = false := by simp
  obtain ⟨x0, x1, x2, x3, x4, x5⟩ := HO10.out.cells
  obtain ⟨z0, z1, z2, z3, z4, z5⟩ := HWA10.out.cells
  go_wp2_with fail
  refine (eqOA HO10.out HWA10.out).mono ?_
  clear x0 x1 x2 x3 x4 x5 z0 z1 z2 z3 z4 z5
  rintro e w11 ⟨rfl, hb11⟩
  have HO11 := Lib.hid (HO10.out.far hb11)
  have HP11 := Lib.hid (HP10.out.far hb11)
  have HWA11 := Lib.hid (HWA10.out.far hb11)
  have HI11 := Lib.hid (HI10.out.far hb11)
  have hzab := hb11.size
  clear hb11 HO10 HP10 HWA10 HI10
  obtain ⟨x0, x1, x2, x3, x4, x5⟩ := HP11.out.cells
  obtain ⟨z0, z1, z2, z3, z4, z5⟩ := HWA11.out.cells
  go_wp2_with fail
  refine (eqOA HP11.out HWA11.out).mono ?_
  clear x0 x1 x2 x3 x4 x5 z0 z1 z2 z3 z4 z5
  rintro e w12 ⟨rfl, hb12⟩
  have HO12 := Lib.hid (HO11.out.far hb12)
  have HP12 := Lib.hid (HP11.out.far hb12)
  have HWA12 := Lib.hid (HWA11.out.far hb12)
  have HI12 := Lib.hid (HI11.out.far hb12)
  have hzbc := hb12.size
  clear hb12 HO11 HP11 HWA11 HI11
  go_wp2_with fail
  go_loopg [15, 16] n (fun k v15 v16 wr => ∃ j : Nat, j ≤ n ∧ v15 = .int .i64 j ∧ k = n - j ∧ Hid (Only (fun b => b = g) w12 wr) ∧ Hid (∃ L : List ByteArray, L.length = n + 64 ∧ Own Rep.str 9 wr w.heap.size nob (.slice (some ⟨g, 0, none⟩) (n + 64) (n + 64)) L))
  case atStart => exact ⟨0, Nat.zero_le _, rfl, rfl, Lib.hid (Only.refl _ _), Lib.hid ⟨_, HLL.out, HI12.out.own⟩⟩
  case round =>
    obtain ⟨j, hj, rfl, rfl, HON, HLX⟩ := hrel
    by_cases hjn : 2 * j + 1 < n
    · obtain ⟨L, HL, hown⟩ : ∃ L : List ByteArray, Hid (L.length = n + 64) ∧ Own Rep.str 9 wr w.heap.size nob (.slice (some ⟨g, 0, none⟩) (n + 64) (n + 64)) L := by
        obtain ⟨L, h1, h2⟩ := HLX.out
        exact ⟨L, Lib.hid h1, h2⟩
      obtain ⟨k2, HKK⟩ : ∃ k2, Hid (k2 + 1 + j = n) := ⟨n - 1 - j, Lib.hid (by omega)⟩
      have hkk : (n : Int) - 1 - (j : Int) = (k2 : Int) := by have := HKK.out; omega
      have hk2n : k2 < n := by have := HKK.out; omega
      have hdec : decide (2 * (j : Int) + 1 < (n : Int)) = true := decide_eq_true (by omega)
      have hjk : j < k2 := by have := HKK.out; omega
      obtain ⟨g', c', u1, he, -, -, hcu1, hfz1, hu1, -⟩ := hown.cellAt rfl (k := j) (by have := HL.out; omega)
      simp only [Value.slice.injEq, Option.some.injEq, Addr.mk.injEq] at he
      obtain ⟨⟨rfl, -⟩, -, -⟩ := he
      obtain ⟨g', c', u2, he, -, -, hcu2, hfz2, hu2, -⟩ := hown.cellAt rfl (k := k2) (by have := HL.out; omega)
      simp only [Value.slice.injEq, Option.some.injEq, Addr.mk.injEq] at he
      obtain ⟨⟨rfl, -⟩, -, -⟩ := he
      obtain ⟨s1, rfl⟩ : ∃ s1, u1 = .string s1 := by have h := hu1; simp only [Rep.str, List.cons.injEq, and_true] at h; exact ⟨_, h.1⟩
      obtain ⟨s2, rfl⟩ : ∃ s2, u2 = .string s2 := by have h := hu2; simp only [Rep.str, List.cons.injEq, and_true] at h; exact ⟨_, h.1⟩
      have HU1 := Lib.hid hu1
      have HU2 := Lib.hid hu2
      have HOWN := Lib.hid hown
      clear hown hu1 hu2
      go_wp2_with fail
      go_roundg (n - (j + 1))
      case measure => omega
      case rel =>
        have h1 := HOWN.out.setCell1 rfl (k := j) (by have := HL.out; omega) HU2.out
        have h2 := h1.setCell1 rfl (k := k2) (by rw [List.length_set]; have := HL.out; omega) HU1.out
        exact ⟨j + 1, by omega, by go_num, rfl, Lib.hid ((HON.out.grown (setCell_grown _ _ _ _) fun b hb => .inl (by simpa using hb)).grown (setCell_grown _ _ _ _) fun b hb => .inl (by simpa using hb)), Lib.hid ⟨_, by rw [List.length_set, List.length_set]; exact HL.out, h2⟩⟩
    · have hdec : decide (2 * (j : Int) + 1 < (n : Int)) = false := decide_eq_false (by omega)
      obtain ⟨w13, hw13⟩ : ∃ W : World, W = wr := ⟨_, rfl⟩
      rw [← hw13] at HON HLX ⊢
      clear hw13
      obtain ⟨L, hL, hown⟩ := HLX.out
      have hgw : w.heap.size ≤ g := (hown.block_lt rfl).1
      have HLN := Lib.hid hL
      have hI13 : PaIn w w13 l L A n c g := by
        have hbw : Below w.heap.size w w13 := HI12.out.b0.trans (HON.out.below HI12.out.b0.size fun b hb => by rw [hb]; exact hgw)
        exact ⟨hl.out.keep (fun _ h => h) (Same.of_below hbw fun _ h => h), hown, Utf8Tabs_below hT.out hbw, hP.out.below hbw, hbw⟩
      have HI13 := Lib.hid hI13
      have hge : ∀ b, w2.heap.size ≤ b → ¬ b = g := fun b hb e => by omega
      have HO13 := Lib.hid (HO12.out.only HON.out (hge _ hz23) (fun k hk => hge k (HO12.out.p.block_lt hk).1) (fun k hk => hge k (HO12.out.q.block_lt hk).1))
      have HP13 := Lib.hid (HP12.out.only HON.out (hge _ (by omega)) (fun k hk => hge k (by have := (HP12.out.p.block_lt hk).1; omega)) (fun k hk => hge k (by have := (HP12.out.q.block_lt hk).1; omega)))
      have HWA13 := Lib.hid (HWA12.out.only HON.out (hge _ (by omega)) (fun k hk => hge k (by have := (HWA12.out.p.block_lt hk).1; omega)) (fun k hk => hge k (by have := (HWA12.out.q.block_lt hk).1; omega)))
      have hzcd := HON.out.size
      obtain ⟨M, hM⟩ : ∃ M, M = L.take n := ⟨_, rfl⟩
      have HM := Lib.hid hM.symm
      have HMN : Hid (n = M.length) := Lib.hid (by rw [hM, List.length_take, hL]; omega)
      obtain ⟨a2, ha2⟩ : ∃ a2, a2 = ansO (Opts.parse M) := ⟨_, rfl⟩
      have HA2 := Lib.hid ha2
      have hfit2 := ansO_fits M
      rw [← ha2, ← HMN.out] at hfit2
      have HFIT2 := Lib.hid hfit2
      clear hown hL hI13 hge hM ha2 hfit2 HLX HON HO12 HP12 HWA12 HI12
      obtain ⟨x0, x1, x2, x3, x4, x5⟩ := HO13.out.cells
      obtain ⟨z0, z1, z2, z3, z4, z5⟩ := HWA13.out.cells
      go_wp2_with fail
      refine (eqOA HO13.out HWA13.out).mono ?_
      clear x0 x1 x2 x3 x4 x5 z0 z1 z2 z3 z4 z5
      rintro e w14 ⟨rfl, hb14⟩
      have HO14 := Lib.hid (HO13.out.far hb14)
      have HP14 := Lib.hid (HP13.out.far hb14)
      have HWA14 := Lib.hid (HWA13.out.far hb14)
      have HI14 := Lib.hid (HI13.out.far hb14)
      have hzde := hb14.size
      clear hb14 HO13 HP13 HWA13 HI13
      go_wp2_with fail
      refine (copyTexts_any (some ⟨g, 0, none⟩) n (n + 64) M w14 _ HMN.out (Lib.hid (HI14.out.inl HLN.out HM.out)) (by omega)).mono ?_
      rintro e w15 ⟨v7, rfl, HM15, hb15⟩
      obtain ⟨A7, n7, c7, rfl, hn7, k71, k72⟩ := HM15.out.form
      have HO15 := Lib.hid (HO14.out.far hb15)
      have HP15 := Lib.hid (HP14.out.far hb15)
      have HWA15 := Lib.hid (HWA14.out.far hb15)
      have HI15 := Lib.hid (HI14.out.far hb15)
      have hzef := hb15.size
      have hn7b : n7 ≤ 67108864 := by have := hn7.out; have := HMN.out; omega
      clear hb15 HO14 HP14 HWA14 HI14
      go_wp2_with fail
      refine (progRead (some ⟨g, 0, none⟩) n (n + 64) M w15 HMN (Lib.hid (HI15.out.inl HLN.out HM.out)) (Lib.hid HI15.out.tab) (by omega)).mono ?_
      rw [← HA2.out]
      rintro e w16 ⟨B1, m1, d1, B2, m2, d2, rfl, k11', k12', k13', k14', HP16, HQ16, HB16⟩
      obtain ⟨w17, hw17⟩ : ∃ W, W = w16.alloc (.cells #[.bool a2.f.q, .bool a2.f.e, .bool a2.f.a, .bool a2.f.i, .slice B1 m1 d1, .slice B2 m2 d2] 25) := ⟨_, rfl⟩
      have hb17 : Below w16.heap.size w16 w17 := by rw [hw17]; exact (Below.refl _ _).alloc (Nat.le_refl _) _
      have HR17 : Hid (OptAt w17 w15.heap.size w16.heap.size a2 (B1, m1, d1) (B2, m2, d2)) := Lib.hid (by rw [hw17]; exact OptAt.made HP16.out HQ16.out)
      have HO17 := Lib.hid ((HO15.out.far HB16.out).far hb17)
      have HP17 := Lib.hid ((HP15.out.far HB16.out).far hb17)
      have HWA17 := Lib.hid ((HWA15.out.far HB16.out).far hb17)
      have HI17 := Lib.hid ((HI15.out.far HB16.out).far hb17)
      have HM17 := Lib.hid ((HM15.out.far HB16.out).far hb17)
      have hzfg := HB16.out.size
      have hzgh : w16.heap.size < w17.heap.size := by rw [hw17]; simp
      have HRD : Hid (∀ W, W = w17 → Calls Tryd.prog 14 #[.slice A7 n7 c7] W fun e w' => Read28 a2 w17 e w') := Lib.hid fun W h => by
        subst h
        rw [HA2.out]
        exact refRead A7 n7 c7 M W hn7 (Lib.hid HM17.out.at1.2.2.2) (by omega)
      have HW17 := Lib.hid hw17
      clear hw17 hb17 HP16 HQ16 HB16 HO15 HP15 HWA15 HI15 HM15
      go_wp2_with fail
      refine (HRD.out _ HW17.out.symm).mono ?_
      clear HRD
      rintro e w18 ⟨B3, m3, d3, B4, m4, d4, rfl, k21', k22', k23', k24', HP18, HQ18, HB18⟩
      have HO18 := Lib.hid (HO17.out.far HB18.out)
      have HPP18 := Lib.hid (HP17.out.far HB18.out)
      have HWA18 := Lib.hid (HWA17.out.far HB18.out)
      have HR18 := Lib.hid (HR17.out.far HB18.out)
      have HI18 := Lib.hid (HI17.out.far HB18.out)
      have hzhi := HB18.out.size
      clear HB18 HO17 HP17 HWA17 HR17 HI17 HM17
      have hee2 : (a2.er == a2.er) = true := by simp
      go_wp2_with (refine wpList_store_opts rfl (.tmp 11) (.tmp 140) rfl w7.heap.size _ _ _ HWA18.out.obj rfl a2.f _ _ rfl rfl rfl ?_; intro w19 HH HG; have HS19 := Lib.hid (OptAt.stored HWA18.out HP18.out HQ18.out HG.out HH.out); have HO19 := Lib.hid (HO18.out.turned HG.out (by omega) HWA18.out.obj); have HPP19 := Lib.hid (HPP18.out.turned HG.out (by omega) HWA18.out.obj); have HR19 := Lib.hid (HR18.out.turned HG.out (by omega) HWA18.out.obj); have HI19 := Lib.hid (HI18.out.far2 HG.out (by have := HI18.out.b0.size; omega) HWA18.out.obj); have hzij := HG.out.size; obtain ⟨x0, x1, x2, x3, x4, x5⟩ := HR19.out.cells; obtain ⟨z0, z1, z2, z3, z4, z5⟩ := HS19.out.cells)
      refine (eqOA HR19.out HS19.out).mono ?_
      clear x0 x1 x2 x3 x4 x5 z0 z1 z2 z3 z4 z5
      rintro e w20 ⟨rfl, hb20⟩
      have HO20 := Lib.hid (HO19.out.far hb20)
      have HP20 := Lib.hid (HPP19.out.far hb20)
      have HR20 := Lib.hid (HR19.out.far hb20)
      have HB20 := Lib.hid (HI19.out.trans (hb20.mono HI19.out.size))
      have hzjk := hb20.size
      have HK3 : Hid (∀ q, ((Value.slice A3 n3 c3).ownBlock = some q ∨ (Value.slice A4 n4 c4).ownBlock = some q) → q < w15.heap.size) := Lib.hid fun q hq => by have := HK2.out q hq; omega
      have hB0 : w.heap.size ≤ w2.heap.size := HI2.out.b0.size
      clear hb20 HO19 HPP19 HR19 HS19 HI19 HO18 HPP18 HWA18 HR18 HI18 HP18 HQ18
      have x0 := fun ob => (HO20.out.far ((Below.refl _ w20).alloc (Nat.le_refl _) ob)).cells.1
      have x1 := fun ob => (HO20.out.far ((Below.refl _ w20).alloc (Nat.le_refl _) ob)).cells.2.1
      have x2 := fun ob => (HO20.out.far ((Below.refl _ w20).alloc (Nat.le_refl _) ob)).cells.2.2.1
      have x3 := fun ob => (HO20.out.far ((Below.refl _ w20).alloc (Nat.le_refl _) ob)).cells.2.2.2.1
      have x4 := fun ob => (HO20.out.far ((Below.refl _ w20).alloc (Nat.le_refl _) ob)).cells.2.2.2.2.1
      have x5 := fun ob => (HO20.out.far ((Below.refl _ w20).alloc (Nat.le_refl _) ob)).cells.2.2.2.2.2
      go_wp2_with fail
      have hal := (Below.refl w20.heap.size w20).alloc (Nat.le_refl _) (bagG fun _ => .slice none 0 0)
      have HG0 := Lib.hid (BagG.start w20 w.heap.size HB20.out.size)
      have HO21 := Lib.hid (HO20.out.far hal)
      have HP21 := Lib.hid (HP20.out.far hal)
      have HR21 := Lib.hid (HR20.out.far hal)
      have HB21 := Lib.hid (HB20.out.trans (hal.mono HB20.out.size))
      have e1 : n1 ≤ 67108864 := by have h1 : n1 = a.ps.length := HO21.out.p.at1.1; have := HFIT.out.1; omega
      have e2 : n2 ≤ 67108864 := by have h1 : n2 = a.fs.length := HO21.out.q.at1.1; have := HFIT.out.2; omega
      have e3 : n3 ≤ 67108864 := by have h1 : n3 = a.ps.length := HP21.out.p.at1.1; have := HFIT.out.1; omega
      have e4 : n4 ≤ 67108864 := by have h1 : n4 = a.fs.length := HP21.out.q.at1.1; have := HFIT.out.2; omega
      have e5 : m1 ≤ 67108864 := by have h1 : m1 = a2.ps.length := HR21.out.p.at1.1; have := HFIT2.out.1; omega
      have e6 : m2 ≤ 67108864 := by have h1 : m2 = a2.fs.length := HR21.out.q.at1.1; have := HFIT2.out.2; omega
      clear hal HO20 HP20 HR20 x0 x1 x2 x3 x4 x5
      refine (addOptions_G w.heap.size _ _ _ _ _ _ _ _ A1 A2 n1 c1 n2 c2 HG0 (Lib.hid (Fits.of HG0.out (k := 12) (by omega) (by omega) (by omega) (by omega) HO21.out.p (by omega) rfl (by omega) (fun _ _ _ hy => (List.not_mem_nil hy).elim))) (Lib.hid (Fits.of HG0.out (k := 3) (by omega) (by omega) (by omega) (by omega) HO21.out.q (by omega) rfl (by omega) (fun _ _ _ hy => (List.not_mem_nil hy).elim)))).mono ?_
      rintro r w22 ⟨rfl, v22, u22, hG1, hon⟩
      have HG1 := Lib.hid hG1
      have HP22 := Lib.hid (HP21.out.bag HG0.out hon)
      have HR22 := Lib.hid (HR21.out.bag HG0.out hon)
      have HB22 := Lib.hid (HB21.out.trans (HG0.out.below hon))
      clear hG1 hon HO21 HP21 HR21
      obtain ⟨x0, x1, x2, x3, x4, x5⟩ := HP22.out.cells
      go_wp2_with fail
      clear x0 x1 x2 x3 x4 x5
      refine (addOptions_G w.heap.size _ _ _ _ _ _ _ _ A3 A4 n3 c3 n4 c4 HG1 (Lib.hid (Fits.of HG1.out (k := 12) (by omega) (by omega) (by omega) (by omega) HP22.out.p (by omega) rfl (by omega) (fun q hq y hy hy2 => by
        have : y = (A1, n1, c1) := by simpa [addE] using hy
        subst this
        have h1 := HK1.out q (.inl hy2)
        have h2 := (HP22.out.p.block_lt hq).1
        omega))) (Lib.hid (Fits.of HG1.out (k := 3) (by omega) (by omega) (by omega) (by omega) HP22.out.q (by omega) rfl (by omega) (fun q hq y hy hy2 => by
        have : y = (A2, n2, c2) := by simpa [addE] using hy
        subst this
        have h1 := HK1.out q (.inr hy2)
        have h2 := (HP22.out.q.block_lt hq).1
        omega)))).mono ?_
      rintro r w23 ⟨rfl, v23, u23, hG2, hon⟩
      have HG2 := Lib.hid hG2
      have HR23 := Lib.hid (HR22.out.bag HG1.out hon)
      have HB23 := Lib.hid (HB22.out.trans (HG1.out.below hon))
      clear hG2 hon HP22 HR22
      obtain ⟨x0, x1, x2, x3, x4, x5⟩ := HR23.out.cells
      go_wp2_with fail
      clear x0 x1 x2 x3 x4 x5
      refine (addOptions_G w.heap.size _ _ _ _ _ _ _ _ B1 B2 m1 d1 m2 d2 HG2 (Lib.hid (Fits.of HG2.out (k := 12) (by omega) (by omega) (by omega) (by omega) HR23.out.p (by omega) rfl (by omega) (fun q hq y hy hy2 => by
        have h2 := (HR23.out.p.block_lt hq).1
        have : y = (A1, n1, c1) ∨ y = (A3, n3, c3) := by simpa [addE] using hy
        rcases this with rfl | rfl
        · have h1 := HK1.out q (.inl hy2)
          omega
        · have h1 := HK3.out q (.inl hy2)
          omega))) (Lib.hid (Fits.of HG2.out (k := 3) (by omega) (by omega) (by omega) (by omega) HR23.out.q (by omega) rfl (by omega) (fun q hq y hy hy2 => by
        have h2 := (HR23.out.q.block_lt hq).1
        have : y = (A2, n2, c2) ∨ y = (A4, n4, c4) := by simpa [addE] using hy
        rcases this with rfl | rfl
        · have h1 := HK1.out q (.inr hy2)
          omega
        · have h1 := HK3.out q (.inr hy2)
          omega)))).mono ?_
      rintro r w24 ⟨rfl, v24, u24, hG3, hon⟩
      have HG3 := Lib.hid hG3
      have HB24 := Lib.hid (HB23.out.trans (HG2.out.below hon))
      clear hG3 hon HR23
      go_wp2_with fail
      refine (apart_Gb HG3.out (Q := Pow) (fun W hW => hP.out.below (HB24.out.trans hW)) (fun k hk hne => ?_)).mono ?_
      · by_cases h3 : k = 3
        · subst h3; exact looked_texts
        · by_cases h12 : k = 12
          · subst h12; exact looked_parts
          · exact absurd (by simp [addE, h3, h12]) hne
      rintro r w25 ⟨rfl, hb25⟩
      have HB25 := Lib.hid (HB24.out.trans hb25)
      clear hb25
      go_wp2_with fail
      go_ret
      exact ⟨rfl, HB25.out⟩
end Go.Proofs.YtmjagjcaepbklaaDoor
