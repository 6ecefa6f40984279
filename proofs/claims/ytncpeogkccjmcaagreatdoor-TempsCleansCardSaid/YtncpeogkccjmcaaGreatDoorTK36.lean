/- Texts that lead to the claim, one behind the other: Rows of bytes of the call's own side by side, each in a block of its own. No program in sight. No conditions. | A bag of rows: bytes put into it, and the look at shared memory. Conditions: rows of the run's own, each in a block of its own; room. | A bag of rows of any kinds: what it is, how it stays, and the look at shared memory, whatever kinds it holds (printed by gen/bagg.py). Conditions: rows of the run's own, each in a block of its own; room. | A row of the kind Texts put into a bag: the walk of (galleyref00.Bag).AddTexts (printed by gen/bagg.py). Conditions: the row is the run's own, in a block of its own. -/
import Derived.Test.YtncpeogkccjmcaaGreatDoorTK33
import Derived.OpenShut
import Derived.Test.YtncpeogkccjmcaaGreatDoorProg
import Derived.Test.YtncpeogkccjmcaaGreatDoorTK34
import Derived.Test.YtncpeogkccjmcaaGreatDoorTK35
namespace Go.Proofs.YtncpeogkccjmcaaGreatDoor
open Go.RowKit

/-- Rows of bytes, each in a block of its own. -/
structure Rws (T : TypeId) (w wr : World) (es : List (Ent × List UInt8)) : Prop where
  b : Below w.heap.size w wr
  own : ∀ x ∈ es, Own Rep.byte T wr w.heap.size nob (Ent.v x.1) x.2
  dist : es.Pairwise fun x y => ∀ q, (Ent.v x.1).ownBlock = some q → (Ent.v y.1).ownBlock ≠ some q
section
variable {T : TypeId} {w wr w' : World} {es : List (Ent × List UInt8)}
theorem Rws.nil (T : TypeId) (h : Below w.heap.size w wr) : Rws T w wr [] := ⟨h, fun _ h => absurd h (by simp), List.Pairwise.nil⟩
theorem Rws.far (h : Rws T w wr es) (hb : Below wr.heap.size wr w') : Rws T w w' es := ⟨h.b.trans (hb.mono h.b.size), fun x hx => (h.own x hx).far hb, h.dist⟩
theorem Rws.add (h : Rws T w wr es) (hb : Below wr.heap.size wr w') {A : Option Addr} {n c : Nat} {l : List UInt8} (ho : Own Rep.byte T w' wr.heap.size nob (.slice A n c) l) : Rws T w w' (es ++ [((A, n, c), l)]) := by
  have h2 := h.far hb
  refine ⟨h2.b, fun x hx => ?_, List.pairwise_append.2 ⟨h.dist, List.pairwise_singleton _ _, fun x hx y hy q hq hq' => ?_⟩⟩
  · rcases List.mem_append.1 hx with hx | hx
    · exact h2.own x hx
    · simp only [List.mem_singleton] at hx
      subst hx
      obtain ⟨xs, hx, hrest⟩ := ho
      refine ⟨xs, ⟨hx.1, ?_⟩, hrest⟩
      rcases hx.2 with e | ⟨g, cap, cur, e1, e2, e3⟩
      · exact .inl e
      · exact .inr ⟨g, cap, cur, e1, Nat.le_trans h.b.size e2, e3⟩
  · simp only [List.mem_singleton] at hy
    subst hy
    have h3 := ((h.own x hx).block_lt hq).2
    have h4 := (ho.block_lt hq').1
    omega
theorem Rws.get (h : Rws T w wr es) {k : Nat} {A : Option Addr} {n c : Nat} {l : List UInt8} (hk : es[k]? = some ((A, n, c), l)) : Own Rep.byte T wr w.heap.size nob (.slice A n c) l := h.own _ (List.mem_of_getElem? hk)
/-- .. as it is read. -/
theorem Rws.read (h : Rws T w wr es) {k : Nat} {A : Option Addr} {n c : Nat} {l : List UInt8} (hk : es[k]? = some ((A, n, c), l)) : n = l.length ∧ n ≤ c ∧ c ≤ 9223372036854775807 ∧ SliceAt Rep.byte wr (under wr.heap.size) A c l := by
  obtain ⟨A', n', c', e, hn, h1, h2, hs⟩ := (h.get hk).read
  simp only [Value.slice.injEq] at e
  obtain ⟨rfl, rfl, rfl⟩ := e
  exact ⟨hn.out, h1, h2, hs.up (btw_under (Nat.le_refl _))⟩
/-- A byte of a row written over. -/
theorem Rws.put (h : Rws T w wr es) {k : Nat} {g n c : Nat} {l : List UInt8} (hk : es[k]? = some ((some ⟨g, 0, none⟩, n, c), l)) {i : Nat} (hi : i < l.length) (x : UInt8) : Rws T w (wr.setCell ⟨g, i, none⟩ (.int .u8 x.toNat)) (es.set k ((some ⟨g, 0, none⟩, n, c), l.set i x)) := by
  have hg := setCell_grown g wr i (.int .u8 x.toNat)
  have ho := h.get hk
  have hkl : k < es.length := (List.getElem?_eq_some_iff.1 hk).1
  refine ⟨h.b.grown hg h.b.size fun b hb => by simp only [Option.some.injEq] at hb; subst hb; exact (ho.block_lt rfl).1, fun y hy => ?_, ?_⟩
  · obtain ⟨j, hj⟩ := List.mem_iff_getElem?.1 hy
    by_cases hjk : j = k
    · subst hjk
      rw [List.getElem?_set_self (by omega)] at hj
      simp only [Option.some.injEq] at hj
      subst hj
      exact ho.setCell1 rfl hi rfl
    · rw [List.getElem?_set_ne (fun e => hjk e.symm)] at hj
      refine (h.own y (List.mem_of_getElem? hj)).mono hg ?_ fun _ h => h.elim
      cases hv : (Ent.v y.1).ownBlock with
      | none => exact .inl rfl
      | some b =>
        refine .inr fun e => ?_
        simp only [Option.some.injEq] at e
        subst e
        obtain ⟨hjl, hjy⟩ := List.getElem?_eq_some_iff.1 hj
        obtain ⟨_, hky⟩ := List.getElem?_eq_some_iff.1 hk
        rcases Nat.lt_or_ge j k with hlt | hge
        · exact List.pairwise_iff_getElem.1 h.dist j k hjl hkl hlt b (by rw [hjy]; exact hv) (by rw [hky]; rfl)
        · exact List.pairwise_iff_getElem.1 h.dist k j hkl hjl (by omega) b (by rw [hky]; rfl) (by rw [hjy]; exact hv)
  · refine List.pairwise_iff_getElem.2 fun p q hp hq hpq => ?_
    simp only [List.length_set] at hp hq
    have e1 : ∀ j (hj : j < es.length), Ent.v ((es.set k ((some ⟨g, 0, none⟩, n, c), l.set i x))[j]'(by simpa using hj)).1 = Ent.v es[j].1 := fun j hj => by
      by_cases hjk : j = k
      · subst hjk
        rw [List.getElem_set_self]
        obtain ⟨_, hky⟩ := List.getElem?_eq_some_iff.1 hk
        rw [hky]
      · rw [List.getElem_set_ne (fun e => hjk e.symm)]
    rw [e1 p hp, e1 q hq]
    exact List.pairwise_iff_getElem.1 h.dist p q hp hq hpq
/-- A byte of a row: its cell. -/
theorem Rws.cell (h : Rws T w wr es) {k : Nat} {A : Option Addr} {n c : Nat} {l : List UInt8} (hk : es[k]? = some ((A, n, c), l)) {i : Nat} (hi : i < l.length) : ∃ g, A = some ⟨g, 0, none⟩ ∧ wr.cell? ⟨g, i, none⟩ = some (.int .u8 l[i].toNat) ∧ wr.frozen? ⟨g, i, none⟩ = false := by
  obtain ⟨g, c', u, e, -, -, hc, hf, hu, -⟩ := (h.get hk).cellAt rfl hi
  simp only [Value.slice.injEq] at e
  obtain ⟨rfl, -, -⟩ := e
  simp only [Rep.byte, List.cons.injEq, and_true] at hu
  exact ⟨g, rfl, by rw [hc, hu], hf⟩
theorem Rws.only {F : Blocks} (h : Rws T w wr es) (ho : Only F wr w') (hF : ∀ b, F b → w.heap.size ≤ b) (hne : ∀ x ∈ es, ∀ b, (Ent.v x.1).ownBlock = some b → ¬ F b) : Rws T w w' es :=
  ⟨h.b.trans (ho.below h.b.size hF), fun x hx => (h.own x hx).only ho (hne x hx), h.dist⟩
/-- Some of the rows, for the look at shared memory. -/
theorem Rws.chosen {fs : List (Ent × List UInt8)} (h : Rws T w wr es) (hs : fs.Sublist es) : (∀ x ∈ fs.map Prod.fst, ∃ l : List UInt8, Own Rep.byte T wr w.heap.size nob (Ent.v x) l) ∧ (fs.map Prod.fst).Pairwise fun a b => ∀ q, (Ent.v a).ownBlock = some q → (Ent.v b).ownBlock ≠ some q :=
  ⟨fun x hx => by
    obtain ⟨y, hy, rfl⟩ := List.mem_map.1 hx
    exact ⟨_, h.own y (hs.subset hy)⟩, List.pairwise_map.2 (h.dist.sublist hs)⟩
theorem u8_bits (op : BinOp) (a b : Int) : ∃ y : UInt8, bits op .u8 a b = y.toNat := by
  have h := wf_bits op .u8 a b
  simp [Lit.wf, IntKind.min, IntKind.max, IntKind.signed, IntKind.bits] at h
  refine ⟨UInt8.ofNat (bits op .u8 a b).toNat, ?_⟩
  simp
  omega
end
end Go.Proofs.YtncpeogkccjmcaaGreatDoor
namespace Go.Proofs.YtncpeogkccjmcaaGreatDoor
open Go.RowKit

/-- A bag that holds rows of bytes alone. -/
abbrev bagB (v : Value) : Obj := .cells #[v, .slice none 0 0, .slice none 0 0, .slice none 0 0, .slice none 0 0, .slice none 0 0, .slice none 0 0, .slice none 0 0, .slice none 0 0, .slice none 0 0, .slice none 0 0, .slice none 0 0, .slice none 0 0, .slice none 0 0, .slice none 0 0, .slice none 0 0, .slice none 0 0, .slice none 0 0, .slice none 0 0] 65
/-- .. as it stands: which rows. -/
structure BagB (w : World) (base gb : Nat) (v : Value) (rows : List (List Value)) : Prop where
  blk : w.heap[gb]? = some (bagB v)
  own : Own Rep.val 67 w base nob v rows
  hb : base ≤ gb
theorem BagB.ne {w : World} {base gb : Nat} {v : Value} {rows : List (List Value)} (h : BagB w base gb v rows) : v.ownBlock ≠ some gb := h.own.ne_block h.blk (by decide)
theorem BagB.far {w w' : World} {base gb : Nat} {v : Value} {rows : List (List Value)} (h : BagB w base gb v rows) (hb : Below w.heap.size w w') : BagB w' base gb v rows :=
  ⟨(hb.block _ (Array.getElem?_eq_some_iff.1 h.blk).1).trans h.blk, h.own.far hb, h.hb⟩
theorem BagB.start (w : World) (base : Nat) (hb : base ≤ w.heap.size) : BagB (w.alloc (bagB (.slice none 0 0))) base w.heap.size (.slice none 0 0) [] := ⟨heap_alloc_new _ _, Own.nil _ _ _ _, hb⟩
set_option maxRecDepth 100000 in
set_option maxHeartbeats 4000000 in
/-- The look at shared memory, at each kind of rows. -/
theorem apart_all (gb : Nat) (J : Nat → World → Prop) (w : World) (hJ : J 0 w)
    (hBytes : Hid (∀ W, J 0 W → Calls Tryz.prog 63 #[.pointer (some ⟨gb, 0, none⟩)] W fun e w' => e = .returned (.bool true) ∧ J 1 w'))
    (hInts : Hid (∀ W, J 1 W → Calls Tryz.prog 64 #[.pointer (some ⟨gb, 0, none⟩)] W fun e w' => e = .returned (.bool true) ∧ J 2 w'))
    (hBools : Hid (∀ W, J 2 W → Calls Tryz.prog 65 #[.pointer (some ⟨gb, 0, none⟩)] W fun e w' => e = .returned (.bool true) ∧ J 3 w'))
    (hTexts : Hid (∀ W, J 3 W → Calls Tryz.prog 66 #[.pointer (some ⟨gb, 0, none⟩)] W fun e w' => e = .returned (.bool true) ∧ J 4 w'))
    (hMarks : Hid (∀ W, J 4 W → Calls Tryz.prog 67 #[.pointer (some ⟨gb, 0, none⟩)] W fun e w' => e = .returned (.bool true) ∧ J 5 w'))
    (hSpans : Hid (∀ W, J 5 W → Calls Tryz.prog 68 #[.pointer (some ⟨gb, 0, none⟩)] W fun e w' => e = .returned (.bool true) ∧ J 6 w'))
    (hRuns : Hid (∀ W, J 6 W → Calls Tryz.prog 69 #[.pointer (some ⟨gb, 0, none⟩)] W fun e w' => e = .returned (.bool true) ∧ J 7 w'))
    (hClasses : Hid (∀ W, J 7 W → Calls Tryz.prog 70 #[.pointer (some ⟨gb, 0, none⟩)] W fun e w' => e = .returned (.bool true) ∧ J 8 w'))
    (hNodes : Hid (∀ W, J 8 W → Calls Tryz.prog 71 #[.pointer (some ⟨gb, 0, none⟩)] W fun e w' => e = .returned (.bool true) ∧ J 9 w'))
    (hInstrs : Hid (∀ W, J 9 W → Calls Tryz.prog 72 #[.pointer (some ⟨gb, 0, none⟩)] W fun e w' => e = .returned (.bool true) ∧ J 10 w'))
    (hFaults : Hid (∀ W, J 10 W → Calls Tryz.prog 73 #[.pointer (some ⟨gb, 0, none⟩)] W fun e w' => e = .returned (.bool true) ∧ J 11 w'))
    (hNotes : Hid (∀ W, J 11 W → Calls Tryz.prog 74 #[.pointer (some ⟨gb, 0, none⟩)] W fun e w' => e = .returned (.bool true) ∧ J 12 w'))
    (hParts : Hid (∀ W, J 12 W → Calls Tryz.prog 75 #[.pointer (some ⟨gb, 0, none⟩)] W fun e w' => e = .returned (.bool true) ∧ J 13 w'))
    (hRows : Hid (∀ W, J 13 W → Calls Tryz.prog 76 #[.pointer (some ⟨gb, 0, none⟩)] W fun e w' => e = .returned (.bool true) ∧ J 14 w'))
    (hIntss : Hid (∀ W, J 14 W → Calls Tryz.prog 77 #[.pointer (some ⟨gb, 0, none⟩)] W fun e w' => e = .returned (.bool true) ∧ J 15 w'))
    (hSpanss : Hid (∀ W, J 15 W → Calls Tryz.prog 78 #[.pointer (some ⟨gb, 0, none⟩)] W fun e w' => e = .returned (.bool true) ∧ J 16 w'))
    (hPieces : Hid (∀ W, J 16 W → Calls Tryz.prog 79 #[.pointer (some ⟨gb, 0, none⟩)] W fun e w' => e = .returned (.bool true) ∧ J 17 w'))
    (hFiles : Hid (∀ W, J 17 W → Calls Tryz.prog 80 #[.pointer (some ⟨gb, 0, none⟩)] W fun e w' => e = .returned (.bool true) ∧ J 18 w'))
    (hCmds : Hid (∀ W, J 18 W → Calls Tryz.prog 81 #[.pointer (some ⟨gb, 0, none⟩)] W fun e w' => e = .returned (.bool true) ∧ J 19 w'))
    : Calls Tryz.prog 17 #[.pointer (some ⟨gb, 0, none⟩)] w fun e w' => e = .returned (.bool true) ∧ J 19 w' := by
  have HO0 := Lib.hid hJ
  clear hJ
  go_enter Tryz.func17, Tryz.ntmps17
  go_wp2_with fail
  refine (hBytes.out _ HO0.out).mono ?_
  rintro e w1 ⟨rfl, ho⟩
  have HO1 := Lib.hid ho
  clear ho
  go_wp2_with fail
  refine (hInts.out _ HO1.out).mono ?_
  rintro e w2 ⟨rfl, ho⟩
  have HO2 := Lib.hid ho
  clear ho
  go_wp2_with fail
  refine (hBools.out _ HO2.out).mono ?_
  rintro e w3 ⟨rfl, ho⟩
  have HO3 := Lib.hid ho
  clear ho
  go_wp2_with fail
  refine (hTexts.out _ HO3.out).mono ?_
  rintro e w4 ⟨rfl, ho⟩
  have HO4 := Lib.hid ho
  clear ho
  go_wp2_with fail
  refine (hMarks.out _ HO4.out).mono ?_
  rintro e w5 ⟨rfl, ho⟩
  have HO5 := Lib.hid ho
  clear ho
  go_wp2_with fail
  refine (hSpans.out _ HO5.out).mono ?_
  rintro e w6 ⟨rfl, ho⟩
  have HO6 := Lib.hid ho
  clear ho
  go_wp2_with fail
  refine (hRuns.out _ HO6.out).mono ?_
  rintro e w7 ⟨rfl, ho⟩
  have HO7 := Lib.hid ho
  clear ho
  go_wp2_with fail
  refine (hClasses.out _ HO7.out).mono ?_
  rintro e w8 ⟨rfl, ho⟩
  have HO8 := Lib.hid ho
  clear ho
  go_wp2_with fail
  refine (hNodes.out _ HO8.out).mono ?_
  rintro e w9 ⟨rfl, ho⟩
  have HO9 := Lib.hid ho
  clear ho
  go_wp2_with fail
  refine (hInstrs.out _ HO9.out).mono ?_
  rintro e w10 ⟨rfl, ho⟩
  have HO10 := Lib.hid ho
  clear ho
  go_wp2_with fail
  refine (hFaults.out _ HO10.out).mono ?_
  rintro e w11 ⟨rfl, ho⟩
  have HO11 := Lib.hid ho
  clear ho
  go_wp2_with fail
  refine (hNotes.out _ HO11.out).mono ?_
  rintro e w12 ⟨rfl, ho⟩
  have HO12 := Lib.hid ho
  clear ho
  go_wp2_with fail
  refine (hParts.out _ HO12.out).mono ?_
  rintro e w13 ⟨rfl, ho⟩
  have HO13 := Lib.hid ho
  clear ho
  go_wp2_with fail
  refine (hRows.out _ HO13.out).mono ?_
  rintro e w14 ⟨rfl, ho⟩
  have HO14 := Lib.hid ho
  clear ho
  go_wp2_with fail
  refine (hIntss.out _ HO14.out).mono ?_
  rintro e w15 ⟨rfl, ho⟩
  have HO15 := Lib.hid ho
  clear ho
  go_wp2_with fail
  refine (hSpanss.out _ HO15.out).mono ?_
  rintro e w16 ⟨rfl, ho⟩
  have HO16 := Lib.hid ho
  clear ho
  go_wp2_with fail
  refine (hPieces.out _ HO16.out).mono ?_
  rintro e w17 ⟨rfl, ho⟩
  have HO17 := Lib.hid ho
  clear ho
  go_wp2_with fail
  refine (hFiles.out _ HO17.out).mono ?_
  rintro e w18 ⟨rfl, ho⟩
  have HO18 := Lib.hid ho
  clear ho
  go_wp2_with fail
  refine (hCmds.out _ HO18.out).mono ?_
  rintro e w19 ⟨rfl, ho⟩
  have HO19 := Lib.hid ho
  clear ho
  go_wp2_with fail
  go_ret
  exact ⟨rfl, HO19.out⟩
/-- Rows of bytes, each in a block of its own: they share no memory. -/
theorem apart_bytesO (base gb : Nat) (v : Value) (es : List Ent) (w : World) (h : BagB w base gb v (es.map fun x => [Ent.v x])) (h0 : 0 < es.length) (hN : es.length ≤ 65536) (hown : ∀ x ∈ es, ∃ l : List UInt8, Own Rep.byte 5 w base nob (Ent.v x) l) (hk : ∀ x ∈ es, x.2.1 ≤ 1099511627776)
    (hd : es.Pairwise fun a b => ∀ q, (Ent.v a).ownBlock = some q → (Ent.v b).ownBlock ≠ some q) :
    Calls Tryz.prog 17 #[.pointer (some ⟨gb, 0, none⟩)] w fun e w' => e = .returned (.bool true) ∧ Only (fun b => ∃ x ∈ es, (Ent.v x).ownBlock = some b) w w' := by
  have hR := rows0_of hown hd
  have hr : ∀ b, RowB es.length (fun m => .slice (entA es m) (entN es m) (entC es m)) b → ∃ x ∈ es, (Ent.v x).ownBlock = some b := fun b ⟨m, hm, hb⟩ => ⟨es[m], List.getElem_mem hm, by simp only [ent_v es hm] at hb; exact hb⟩
  have hgb : ¬ RowB es.length (fun m => .slice (entA es m) (entN es m) (entC es m)) gb := fun hb => by
    obtain ⟨x, hx, hb⟩ := hr gb hb
    obtain ⟨l, hl⟩ := hown x hx
    exact hl.ne_block h.blk (by decide) hb
  obtain ⟨A, n, c, rfl, hn, hnc, hcm⟩ := h.own.form
  have en : n = es.length := by rw [hn.out]; simp
  subst en
  obtain ⟨x, hx⟩ : ∃ x, es[0]? = some x := ⟨_, List.getElem?_eq_getElem h0⟩
  obtain ⟨gB, c', he, -, -, -⟩ := h.own.cell1 (i := 0) (by simpa using h0) (x := Ent.v x) (by simp [hx])
  simp only [Value.slice.injEq] at he
  obtain ⟨rfl, -, rfl⟩ := he
  have hgB : ¬ RowB es.length (fun m => .slice (entA es m) (entN es m) (entC es m)) gB := fun hb => by
    obtain ⟨x, hx, hb⟩ := hr gB hb
    obtain ⟨l, hl⟩ := hown x hx
    exact h.own.ne_type hl (by decide) rfl hb
  have hnil : ∀ W, Only (RowB es.length (fun m => .slice (entA es m) (entN es m) (entC es m))) w W → W.heap[gb]? = some (bagB (.slice (some ⟨gB, 0, none⟩) es.length c)) := fun W ho => (ho.block gb (Array.getElem?_eq_some_iff.1 h.blk).1 hgb).trans h.blk
  have hbs : base ≤ w.heap.size := Nat.le_trans h.hb (Nat.le_of_lt (Array.getElem?_eq_some_iff.1 h.blk).1)
  refine (apart_all gb (fun i W => if i = 0 then W = w else Only (RowB es.length (fun m => .slice (entA es m) (entN es m) (entC es m))) w W) w rfl (Lib.hid fun W (ho : W = w) => ?_)
    (Lib.hid fun W ho => (apartInts_nil gb W (cell_of_row W gb 1 _ _ (0, 0) (hnil W ho))).mono fun _ _ h => ⟨h.1, h.2 ▸ ho⟩)
    (Lib.hid fun W ho => (apartBools_nil gb W (cell_of_row W gb 2 _ _ (0, 0) (hnil W ho))).mono fun _ _ h => ⟨h.1, h.2 ▸ ho⟩)
    (Lib.hid fun W ho => (apartTexts_nil gb W (cell_of_row W gb 3 _ _ (0, 0) (hnil W ho))).mono fun _ _ h => ⟨h.1, h.2 ▸ ho⟩)
    (Lib.hid fun W ho => (apartMarks_nil gb W (cell_of_row W gb 4 _ _ (0, 0) (hnil W ho))).mono fun _ _ h => ⟨h.1, h.2 ▸ ho⟩)
    (Lib.hid fun W ho => (apartSpans_nil gb W (cell_of_row W gb 5 _ _ (0, 0) (hnil W ho))).mono fun _ _ h => ⟨h.1, h.2 ▸ ho⟩)
    (Lib.hid fun W ho => (apartRuns_nil gb W (cell_of_row W gb 6 _ _ (0, 0) (hnil W ho))).mono fun _ _ h => ⟨h.1, h.2 ▸ ho⟩)
    (Lib.hid fun W ho => (apartClasses_nil gb W (cell_of_row W gb 7 _ _ (0, 0) (hnil W ho))).mono fun _ _ h => ⟨h.1, h.2 ▸ ho⟩)
    (Lib.hid fun W ho => (apartNodes_nil gb W (cell_of_row W gb 8 _ _ (0, 0) (hnil W ho))).mono fun _ _ h => ⟨h.1, h.2 ▸ ho⟩)
    (Lib.hid fun W ho => (apartInstrs_nil gb W (cell_of_row W gb 9 _ _ (0, 0) (hnil W ho))).mono fun _ _ h => ⟨h.1, h.2 ▸ ho⟩)
    (Lib.hid fun W ho => (apartFaults_nil gb W (cell_of_row W gb 10 _ _ (0, 0) (hnil W ho))).mono fun _ _ h => ⟨h.1, h.2 ▸ ho⟩)
    (Lib.hid fun W ho => (apartNotes_nil gb W (cell_of_row W gb 11 _ _ (0, 0) (hnil W ho))).mono fun _ _ h => ⟨h.1, h.2 ▸ ho⟩)
    (Lib.hid fun W ho => (apartParts_nil gb W (cell_of_row W gb 12 _ _ (0, 0) (hnil W ho))).mono fun _ _ h => ⟨h.1, h.2 ▸ ho⟩)
    (Lib.hid fun W ho => (apartRows_nil gb W (cell_of_row W gb 13 _ _ (0, 0) (hnil W ho))).mono fun _ _ h => ⟨h.1, h.2 ▸ ho⟩)
    (Lib.hid fun W ho => (apartIntss_nil gb W (cell_of_row W gb 14 _ _ (0, 0) (hnil W ho))).mono fun _ _ h => ⟨h.1, h.2 ▸ ho⟩)
    (Lib.hid fun W ho => (apartSpanss_nil gb W (cell_of_row W gb 15 _ _ (0, 0) (hnil W ho))).mono fun _ _ h => ⟨h.1, h.2 ▸ ho⟩)
    (Lib.hid fun W ho => (apartPieces_nil gb W (cell_of_row W gb 16 _ _ (0, 0) (hnil W ho))).mono fun _ _ h => ⟨h.1, h.2 ▸ ho⟩)
    (Lib.hid fun W ho => (apartFiles_nil gb W (cell_of_row W gb 17 _ _ (0, 0) (hnil W ho))).mono fun _ _ h => ⟨h.1, h.2 ▸ ho⟩)
    (Lib.hid fun W ho => (apartCmds_nil gb W (cell_of_row W gb 18 _ _ (0, 0) (hnil W ho))).mono fun _ _ h => ⟨h.1, h.2 ▸ ho⟩)
    ).mono ?_
  · subst ho
    have hrow : ∀ m, m < es.length → W.cell? ⟨gB, m, none⟩ = some (.slice (entA es m) (entN es m) (entC es m)) := fun m hm => by
      obtain ⟨g', c', he, -, -, hq⟩ := h.own.cell1 (i := m) (by simpa using hm) (x := Ent.v es[m]) (by simp [hm])
      simp only [Value.slice.injEq, Option.some.injEq, Addr.mk.injEq] at he
      obtain ⟨⟨rfl, -⟩, -, -⟩ := he
      rw [ent_v es hm]
      exact hq
    exact apartBytes_any gb gB c es.length (entA es) (entN es) (entC es) W base (cell_of_row W gb 0 _ _ (0, 0) h.blk) hN hnc hcm hrow hR hbs hgb hgB fun m hm => by
      have := hk es[m] (List.getElem_mem hm)
      simpa [entN, List.getD_eq_getElem?_getD, hm] using this
  · rintro e w' ⟨rfl, ho⟩
    have ho : Only _ w w' := ho
    exact ⟨rfl, ho.mono hr⟩
theorem apart_bytes (base gb : Nat) (v : Value) (es : List Ent) (w : World) (h : BagB w base gb v (es.map fun x => [Ent.v x])) (h0 : 0 < es.length) (hN : es.length ≤ 65536) (hown : ∀ x ∈ es, ∃ l : List UInt8, Own Rep.byte 5 w base nob (Ent.v x) l) (hk : ∀ x ∈ es, x.2.1 ≤ 1099511627776)
    (hd : es.Pairwise fun a b => ∀ q, (Ent.v a).ownBlock = some q → (Ent.v b).ownBlock ≠ some q) :
    Calls Tryz.prog 17 #[.pointer (some ⟨gb, 0, none⟩)] w fun e w' => e = .returned (.bool true) ∧ Below base w w' :=
  (apart_bytesO base gb v es w h h0 hN hown hk hd).mono fun _ _ ⟨he, ho⟩ => ⟨he, ho.below (Nat.le_trans h.hb (Nat.le_of_lt (Array.getElem?_eq_some_iff.1 h.blk).1)) fun b ⟨x, hx, hb⟩ => by
      obtain ⟨l, hl⟩ := hown x hx
      exact (hl.block_lt hb).1⟩
/-- An empty bag. -/
theorem apart_none (gb : Nat) (w : World) (h : w.heap[gb]? = some (bagB (.slice none 0 0))) : Calls Tryz.prog 17 #[.pointer (some ⟨gb, 0, none⟩)] w fun e w' => e = .returned (.bool true) ∧ w' = w := by
  have hk : ∀ {W : World}, W = w → W.heap[gb]? = some (bagB (.slice none 0 0)) := fun h' => h' ▸ h
  exact apart_all gb (fun _ W => W = w) w rfl
    (Lib.hid fun W ho => (apartBytes_nil gb W (cell_of_row W gb 0 _ _ (0, 0) (hk ho))).mono fun _ _ h => ⟨h.1, h.2 ▸ ho⟩)
    (Lib.hid fun W ho => (apartInts_nil gb W (cell_of_row W gb 1 _ _ (0, 0) (hk ho))).mono fun _ _ h => ⟨h.1, h.2 ▸ ho⟩)
    (Lib.hid fun W ho => (apartBools_nil gb W (cell_of_row W gb 2 _ _ (0, 0) (hk ho))).mono fun _ _ h => ⟨h.1, h.2 ▸ ho⟩)
    (Lib.hid fun W ho => (apartTexts_nil gb W (cell_of_row W gb 3 _ _ (0, 0) (hk ho))).mono fun _ _ h => ⟨h.1, h.2 ▸ ho⟩)
    (Lib.hid fun W ho => (apartMarks_nil gb W (cell_of_row W gb 4 _ _ (0, 0) (hk ho))).mono fun _ _ h => ⟨h.1, h.2 ▸ ho⟩)
    (Lib.hid fun W ho => (apartSpans_nil gb W (cell_of_row W gb 5 _ _ (0, 0) (hk ho))).mono fun _ _ h => ⟨h.1, h.2 ▸ ho⟩)
    (Lib.hid fun W ho => (apartRuns_nil gb W (cell_of_row W gb 6 _ _ (0, 0) (hk ho))).mono fun _ _ h => ⟨h.1, h.2 ▸ ho⟩)
    (Lib.hid fun W ho => (apartClasses_nil gb W (cell_of_row W gb 7 _ _ (0, 0) (hk ho))).mono fun _ _ h => ⟨h.1, h.2 ▸ ho⟩)
    (Lib.hid fun W ho => (apartNodes_nil gb W (cell_of_row W gb 8 _ _ (0, 0) (hk ho))).mono fun _ _ h => ⟨h.1, h.2 ▸ ho⟩)
    (Lib.hid fun W ho => (apartInstrs_nil gb W (cell_of_row W gb 9 _ _ (0, 0) (hk ho))).mono fun _ _ h => ⟨h.1, h.2 ▸ ho⟩)
    (Lib.hid fun W ho => (apartFaults_nil gb W (cell_of_row W gb 10 _ _ (0, 0) (hk ho))).mono fun _ _ h => ⟨h.1, h.2 ▸ ho⟩)
    (Lib.hid fun W ho => (apartNotes_nil gb W (cell_of_row W gb 11 _ _ (0, 0) (hk ho))).mono fun _ _ h => ⟨h.1, h.2 ▸ ho⟩)
    (Lib.hid fun W ho => (apartParts_nil gb W (cell_of_row W gb 12 _ _ (0, 0) (hk ho))).mono fun _ _ h => ⟨h.1, h.2 ▸ ho⟩)
    (Lib.hid fun W ho => (apartRows_nil gb W (cell_of_row W gb 13 _ _ (0, 0) (hk ho))).mono fun _ _ h => ⟨h.1, h.2 ▸ ho⟩)
    (Lib.hid fun W ho => (apartIntss_nil gb W (cell_of_row W gb 14 _ _ (0, 0) (hk ho))).mono fun _ _ h => ⟨h.1, h.2 ▸ ho⟩)
    (Lib.hid fun W ho => (apartSpanss_nil gb W (cell_of_row W gb 15 _ _ (0, 0) (hk ho))).mono fun _ _ h => ⟨h.1, h.2 ▸ ho⟩)
    (Lib.hid fun W ho => (apartPieces_nil gb W (cell_of_row W gb 16 _ _ (0, 0) (hk ho))).mono fun _ _ h => ⟨h.1, h.2 ▸ ho⟩)
    (Lib.hid fun W ho => (apartFiles_nil gb W (cell_of_row W gb 17 _ _ (0, 0) (hk ho))).mono fun _ _ h => ⟨h.1, h.2 ▸ ho⟩)
    (Lib.hid fun W ho => (apartCmds_nil gb W (cell_of_row W gb 18 _ _ (0, 0) (hk ho))).mono fun _ _ h => ⟨h.1, h.2 ▸ ho⟩)
/-- Rows of bytes stay, where a bag takes one. -/
theorem Rws.bag {w wr w' : World} {es : List (Ent × List UInt8)} {gb : Nat} {v : Value} {rows : List (List Value)} (h : Rws 5 w wr es) (hb : BagB wr w.heap.size gb v rows) (ho : Only (fun b => b = gb ∨ some b = v.ownBlock) wr w') : Rws 5 w w' es :=
  h.only ho (fun b hF => by
    rcases hF with rfl | hF
    · exact hb.hb
    · exact (hb.own.block_lt hF.symm).1) fun x hx b hv hF => by
      rcases hF with rfl | hF
      · exact (h.own x hx).ne_block hb.blk (by decide) hv
      · exact (h.own x hx).ne_type hb.own (by decide) hv hF.symm
end Go.Proofs.YtncpeogkccjmcaaGreatDoor
namespace Go.Proofs.YtncpeogkccjmcaaGreatDoor
open Go.RowKit

/-- The type of an element of a kind of rows, of a row, of the rows; how many cells an element has; the look at the kind. -/
def kE : Nat → TypeId
  | 0 => 5
  | 1 => 3
  | 2 => 4
  | 3 => 9
  | 4 => 139
  | 5 => 142
  | 6 => 145
  | 7 => 149
  | 8 => 153
  | 9 => 156
  | 10 => 123
  | 11 => 159
  | 12 => 162
  | 13 => 67
  | 14 => 68
  | 15 => 140
  | 16 => 168
  | 17 => 78
  | _ => 175
def kS : Nat → TypeId
  | 0 => 67
  | 1 => 68
  | 2 => 134
  | 3 => 41
  | 4 => 137
  | 5 => 140
  | 6 => 143
  | 7 => 146
  | 8 => 150
  | 9 => 154
  | 10 => 38
  | 11 => 157
  | 12 => 160
  | 13 => 45
  | 14 => 46
  | 15 => 50
  | 16 => 166
  | 17 => 22
  | _ => 169
def kF : Nat → FuncId
  | 0 => 63
  | 1 => 64
  | 2 => 65
  | 3 => 66
  | 4 => 67
  | 5 => 68
  | 6 => 69
  | 7 => 70
  | 8 => 71
  | 9 => 72
  | 10 => 73
  | 11 => 74
  | 12 => 75
  | 13 => 76
  | 14 => 77
  | 15 => 78
  | 16 => 79
  | 17 => 80
  | _ => 81
def kN : Nat → Nat
  | 0 => 1
  | 1 => 1
  | 2 => 1
  | 3 => 1
  | 4 => 2
  | 5 => 2
  | 6 => 2
  | 7 => 4
  | 8 => 9
  | 9 => 7
  | 10 => 2
  | 11 => 3
  | 12 => 2
  | 13 => 1
  | 14 => 1
  | 15 => 1
  | 16 => 2
  | 17 => 4
  | _ => 272
theorem kN_is : ∀ k, k < 19 → (Tryz.prog.info? (kE k)).map (·.size) = some (kN k) := by decide +kernel
theorem kE_ne : ∀ j, j < 19 → ∀ k, k < 19 → j ≠ k → kE j ≠ kE k := by decide +kernel
theorem kE_bag : ∀ k, k < 19 → kE k ≠ 65 := by decide +kernel
theorem kS_bag : ∀ k, k < 19 → kS k ≠ 65 := by decide +kernel
theorem kS_ne : ∀ j, j < 19 → ∀ k, k < 19 → j ≠ k → kS j ≠ kS k := by decide +kernel
/-- A kind of rows whose elements are no rows: its element is no row's type. -/
theorem kE_kS : ∀ k, k < 19 → k ≠ 13 → k ≠ 14 → k ≠ 15 → ∀ j, j < 19 → kE k ≠ kS j := by decide +kernel
abbrev bagG (vs : Nat → Value) : Obj := .cells #[vs 0, vs 1, vs 2, vs 3, vs 4, vs 5, vs 6, vs 7, vs 8, vs 9, vs 10, vs 11, vs 12, vs 13, vs 14, vs 15, vs 16, vs 17, vs 18] 65
/-- A bag as it stands: its rows' values by kind, the rows in them. -/
structure BagG (w : World) (base gb : Nat) (vs : Nat → Value) (es : Nat → List Ent) : Prop where
  blk : w.heap[gb]? = some (bagG vs)
  own : ∀ k, k < 19 → Own Rep.val (kS k) w base nob (vs k) ((es k).map fun y => [Ent.v y])
  nil : ∀ k, k < 19 → es k = [] → vs k = .slice none 0 0
  hb : base ≤ gb
  ent : ∀ k, k < 19 → ∀ x ∈ es k, ∃ L : List (List Value), Own (Rep.raw (kN k)) (kE k) w base nob (Ent.v x) L
  len : ∀ k, k < 19 → ∀ x ∈ es k, x.2.1 ≤ 1099511627776
  num : ∀ k, k < 19 → (es k).length ≤ 400
  dist : ∀ k, k < 19 → (es k).Pairwise fun a b => ∀ q, (Ent.v a).ownBlock = some q → (Ent.v b).ownBlock ≠ some q
  sep : ∀ k, k < 19 → ∀ x ∈ es k, ∀ q, (Ent.v x).ownBlock = some q → ∀ j, j < 19 → (vs j).ownBlock ≠ some q
/-- What such a bag turns while it grows. -/
def GF (gb : Nat) (vs : Nat → Value) : Blocks := fun b => b = gb ∨ ∃ j, j < 19 ∧ (vs j).ownBlock = some b
/-- The blocks of the rows in it. -/
def GE (es : Nat → List Ent) (n : Nat) : Blocks := fun b => ∃ k, k < n ∧ ∃ x ∈ es k, (Ent.v x).ownBlock = some b
section
variable {w w' : World} {base gb : Nat} {vs : Nat → Value} {es : Nat → List Ent}
theorem BagG.gb_lt (h : BagG w base gb vs es) : gb < w.heap.size := (Array.getElem?_eq_some_iff.1 h.blk).1
theorem BagG.base_le (h : BagG w base gb vs es) : base ≤ w.heap.size := Nat.le_trans h.hb (Nat.le_of_lt h.gb_lt)
theorem BagG.own_ne (h : BagG w base gb vs es) {k : Nat} (hk : k < 19) : (vs k).ownBlock ≠ some gb := (h.own k hk).ne_block h.blk (kS_bag k hk)
theorem BagG.gf_ge (h : BagG w base gb vs es) {b : Nat} (hb : GF gb vs b) : base ≤ b := by
  rcases hb with rfl | ⟨j, hj, hb⟩
  · exact h.hb
  · exact ((h.own j hj).block_lt hb).1
theorem BagG.ge_ge (h : BagG w base gb vs es) {n : Nat} (hn : n ≤ 19) {b : Nat} (hb : GE es n b) : base ≤ b := by
  obtain ⟨k, hk, x, hx, hb⟩ := hb
  obtain ⟨L, hL⟩ := h.ent k (by omega) x hx
  exact (hL.block_lt hb).1
theorem BagG.ge_gf (h : BagG w base gb vs es) {n : Nat} (hn : n ≤ 19) {b : Nat} (hb : GE es n b) : ¬ GF gb vs b := by
  obtain ⟨k, hk, x, hx, hb⟩ := hb
  rintro (rfl | ⟨j, hj, e⟩)
  · obtain ⟨L, hL⟩ := h.ent k (by omega) x hx
    exact hL.ne_block h.blk (kE_bag k (by omega)) hb
  · exact h.sep k (by omega) x hx b hb j hj e
/-- It stays, where neither it nor what is in it has turned. -/
theorem BagG.only {F : Blocks} (h : BagG w base gb vs es) (ho : Only F w w') (h1 : ∀ b, F b → ¬ GF gb vs b) (h2 : ∀ b, F b → ¬ GE es 19 b) : BagG w' base gb vs es :=
  ⟨(ho.block gb h.gb_lt fun e => h1 gb e (.inl rfl)).trans h.blk, fun k hk => (h.own k hk).only ho fun b hb e => h1 b e (.inr ⟨k, hk, hb⟩), h.nil, h.hb, fun k hk x hx => by
    obtain ⟨L, hL⟩ := h.ent k hk x hx
    exact ⟨L, hL.only ho fun b hb e => h2 b e ⟨k, hk, x, hx, hb⟩⟩, h.len, h.num, h.dist, h.sep⟩
theorem BagG.far (h : BagG w base gb vs es) (hb : Below w.heap.size w w') : BagG w' base gb vs es :=
  h.only (F := nob) (Only.of_below hb nob) (fun _ h => h.elim) (fun _ h => h.elim)
theorem BagG.start (w : World) (base : Nat) (hb : base ≤ w.heap.size) : BagG (w.alloc (bagG fun _ => .slice none 0 0)) base w.heap.size (fun _ => .slice none 0 0) (fun _ => []) :=
  ⟨heap_alloc_new _ _, fun _ _ => Own.nil _ _ _ _, fun _ _ _ => rfl, hb, fun _ _ _ h => (List.not_mem_nil h).elim, fun _ _ _ h => (List.not_mem_nil h).elim, fun _ _ => Nat.zero_le _, fun _ _ => List.Pairwise.nil, fun _ _ _ h => (List.not_mem_nil h).elim⟩
/-- A row of another type than the bag's: none of the bag's. -/
theorem BagG.notF (h : BagG w base gb vs es) {α : Type} {r : Rep α} {e : TypeId} {b2 : Nat} {x : Value} {l : List α} (ho : Own r e w b2 nob x l) (he : e ≠ 65) (he2 : ∀ j, j < 19 → e ≠ kS j) {b : Nat} (hb : x.ownBlock = some b) : ¬ GF gb vs b := by
  rintro (rfl | ⟨j, hj, e1⟩)
  · exact ho.ne_block h.blk he hb
  · exact ho.ne_type (h.own j hj) (he2 j hj) hb e1
theorem BagG.below (h : BagG w base gb vs es) (ho : Only (GF gb vs) w w') : Below base w w' := ho.below h.base_le fun _ hb => h.gf_ge hb
/-- One more row of a kind. -/
def addE (es : Nat → List Ent) (k : Nat) (x : Ent) : Nat → List Ent := fun j => if j = k then (if (es k).length < 400 then es k ++ [x] else es k) else es j
def setV (vs : Nat → Value) (k : Nat) (v : Value) : Nat → Value := fun j => if j = k then v else vs j
/-- What a row must be to be put in: of the run's own, in a block of its own. -/
structure Fits (w : World) (base gb : Nat) (vs : Nat → Value) (es : Nat → List Ent) (k : Nat) (x : Ent) : Prop where
  own : ∃ L : List (List Value), Own (Rep.raw (kN k)) (kE k) w base nob (Ent.v x) L
  len : x.2.1 ≤ 1099511627776
  dist : ∀ q, (Ent.v x).ownBlock = some q → ∀ y ∈ es k, (Ent.v y).ownBlock ≠ some q
  sep : ∀ q, (Ent.v x).ownBlock = some q → ∀ j, j < 19 → (vs j).ownBlock ≠ some q
theorem Fits.of (h : BagG w base gb vs es) {k : Nat} (hk : k < 19) (h13 : k ≠ 13) (h14 : k ≠ 14) (h15 : k ≠ 15) {α : Type} {r : Rep α} {b2 : Nat} {A : Option Addr} {n c : Nat} {l : List α} (ho : Own r (kE k) w b2 nob (.slice A n c) l) (hb : base ≤ b2) (hr : r.n = kN k) (hl : n ≤ 1099511627776)
    (hd : ∀ q, (Value.slice A n c).ownBlock = some q → ∀ y ∈ es k, (Ent.v y).ownBlock ≠ some q) : Fits w base gb vs es k (A, n, c) := by
  obtain ⟨L, -, hL⟩ := ho.raw
  rw [hr] at hL
  refine ⟨⟨L, ?_⟩, hl, hd, fun q hq j hj e => ?_⟩
  · obtain ⟨xs, ⟨h1, h2⟩, h3⟩ := hL
    refine ⟨xs, ⟨h1, ?_⟩, h3⟩
    rcases h2 with h2 | ⟨g, cap, cur, e1, hb', h4⟩
    · exact .inl h2
    · exact .inr ⟨g, cap, cur, e1, Nat.le_trans hb hb', h4⟩
  · exact ho.ne_type (h.own j hj) (kE_kS k hk h13 h14 h15 j hj) hq e
/-- What AddX leaves. -/
def Added (w : World) (base gb : Nat) (vs : Nat → Value) (es : Nat → List Ent) (k : Nat) (x : Ent) (w' : World) : Prop :=
  ∃ v', BagG w' base gb (setV vs k v') (addE es k x) ∧ Only (GF gb vs) w w' ∧ ∀ b, v'.ownBlock = some b → (vs k).ownBlock = some b ∨ w.heap.size ≤ b
theorem BagG.full (h : BagG w base gb vs es) {k : Nat} (hk : k < 19) (hf : 400 ≤ (es k).length) (x : Ent) : Added w base gb vs es k x w := by
  have e1 : setV vs k (vs k) = vs := by funext j; unfold setV; split <;> simp_all
  have e2 : addE es k x = es := by
    funext j
    unfold addE
    by_cases e : j = k
    · subst e; rw [if_pos rfl, if_neg (by omega)]
    · rw [if_neg e]
  exact ⟨vs k, by rw [e1, e2]; exact h, Only.refl _ _, fun b hb => .inl hb⟩
/-- .. behind the append and the store. -/
theorem BagG.added (h : BagG w base gb vs es) {k : Nat} (hk : k < 19) (hf : (es k).length < 400) {x : Ent} (hx : Fits w base gb vs es k x) {o : Obj} {w3 : World} {v' : Value}
    (hown : Own Rep.val (kS k) w3 base nob v' ((es k).map (fun y => [Ent.v y]) ++ [[Ent.v x]])) (hg : (w.alloc o).grownBy w3 (vs k).ownBlock) (hat : v'.ownBlock = (vs k).ownBlock ∨ v'.ownBlock = some (w.alloc o).heap.size)
    (hblk : (w3.setCell ⟨gb, k, none⟩ v').heap[gb]? = some (bagG (setV vs k v'))) : Added w base gb vs es k x (w3.setCell ⟨gb, k, none⟩ v') := by
  have hgl := h.gb_lt
  have hne : v'.ownBlock ≠ some gb := by
    rcases hat with e | e <;> rw [e]
    · exact h.own_ne hk
    · simp; omega
  have hkk := h.own k hk
  have honly : Only (fun b => b = gb ∨ (vs k).ownBlock = some b) w (w3.setCell ⟨gb, k, none⟩ v') := (((Only.refl _ w).alloc _).grown hg fun b hb => .inl (.inr hb.symm)).setCell (.inl (.inl rfl)) _
  have hF : ∀ b, (b = gb ∨ (vs k).ownBlock = some b) → GF gb vs b := fun b hb => hb.imp id fun e => ⟨k, hk, e⟩
  have hae : ∀ j, j ≠ k → addE es k x j = es j := fun j hj => by unfold addE; rw [if_neg hj]
  have hak : addE es k x k = es k ++ [x] := by unfold addE; rw [if_pos rfl, if_pos hf]
  have hsv : ∀ j, j ≠ k → setV vs k v' j = vs j := fun j hj => by unfold setV; rw [if_neg hj]
  have hsk : setV vs k v' k = v' := by unfold setV; rw [if_pos rfl]
  have hnew : ∀ b, v'.ownBlock = some b → (vs k).ownBlock = some b ∨ w.heap.size ≤ b := fun b hb => by
    rcases hat with e | e
    · exact .inl (e ▸ hb)
    · rw [e] at hb; simp at hb; exact .inr (by omega)
  have hEnt : ∀ j, j < 19 → ∀ y ∈ addE es k x j, (∃ L : List (List Value), Own (Rep.raw (kN j)) (kE j) w base nob (Ent.v y) L) ∧ y.2.1 ≤ 1099511627776 ∧ ∀ q, (Ent.v y).ownBlock = some q → ∀ i, i < 19 → (vs i).ownBlock ≠ some q := fun j hj y hy => by
    by_cases e : j = k
    · subst e
      rw [hak, List.mem_append, List.mem_singleton] at hy
      rcases hy with hy | rfl
      · exact ⟨h.ent j hj y hy, h.len j hj y hy, h.sep j hj y hy⟩
      · exact ⟨hx.own, hx.len, hx.sep⟩
    · rw [hae j e] at hy
      exact ⟨h.ent j hj y hy, h.len j hj y hy, h.sep j hj y hy⟩
  refine ⟨v', ⟨hblk, fun j hj => ?_, fun j hj hn => ?_, h.hb, fun j hj y hy => ?_, fun j hj y hy => (hEnt j hj y hy).2.1, fun j hj => ?_, fun j hj => ?_, fun j hj y hy q hq i hi => ?_⟩, honly.mono hF, hnew⟩
  · by_cases e : j = k
    · subst e
      rw [hak, hsk, List.map_append]
      exact hown.mono (setCell_grown gb w3 j _) (.inr hne) (fun _ h => h.elim)
    · rw [hae j e, hsv j e]
      refine (h.own j hj).only honly fun b hb => ?_
      rintro (rfl | e2)
      · exact h.own_ne hj hb
      · exact (h.own j hj).ne_type hkk (kS_ne j hj k hk e) hb e2
  · by_cases e : j = k
    · subst e; rw [hak] at hn; simp at hn
    · rw [hae j e] at hn; rw [hsv j e]; exact h.nil j hj hn
  · obtain ⟨⟨L, hL⟩, -, hs⟩ := hEnt j hj y hy
    refine ⟨L, hL.only honly fun b hb => ?_⟩
    rintro (rfl | e2)
    · exact hL.ne_block h.blk (kE_bag j hj) hb
    · exact hs b hb k hk e2
  · by_cases e : j = k
    · subst e; rw [hak]; simp; omega
    · rw [hae j e]; exact h.num j hj
  · by_cases e : j = k
    · subst e
      rw [hak]
      refine List.pairwise_append.2 ⟨h.dist j hj, List.pairwise_singleton _ _, fun a ha b hb q hq hq' => ?_⟩
      rw [List.mem_singleton] at hb
      subst hb
      exact hx.dist q hq' a ha hq
    · rw [hae j e]; exact h.dist j hj
  · obtain ⟨⟨L, hL⟩, -, hs⟩ := hEnt j hj y hy
    by_cases e : i = k
    · subst e
      rw [hsk]
      intro e2
      rcases hnew q e2 with e3 | e3
      · exact hs q hq i hi e3
      · have := (hL.block_lt hq).2; omega
    · rw [hsv i e]; exact hs q hq i hi
/-! ### The look -/
/-- A kind whose look is walked. -/
def Looked (Q : World → Prop) (k : Nat) : Prop := ∀ (gb gB cB N : Nat) (As : Nat → Option Addr) (ks cs : Nat → Nat) (w : World) (base : Nat),
  w.cell? ⟨gb, k, none⟩ = some (.slice (some ⟨gB, 0, none⟩) N cB) → N ≤ 65536 → N ≤ cB → cB ≤ 9223372036854775807 →
    (∀ m, m < N → w.cell? ⟨gB, m, none⟩ = some (.slice (As m) (ks m) (cs m))) → Rows0 (kN k) (kE k) base N (fun m => .slice (As m) (ks m) (cs m)) ks w →
    base ≤ w.heap.size → ¬ RowB N (fun m => .slice (As m) (ks m) (cs m)) gb → ¬ RowB N (fun m => .slice (As m) (ks m) (cs m)) gB → (∀ m, m < N → ks m ≤ 1099511627776) → (∀ W, Below base w W → Q W) →
    Calls Tryz.prog (kF k) #[.pointer (some ⟨gb, 0, none⟩)] w fun e w' => e = .returned (.bool true) ∧ Only (RowB N (fun m => .slice (As m) (ks m) (cs m))) w w'
theorem look_nil (k : Nat) (hk : k < 19) (gb : Nat) (w : World) (h : w.cell? ⟨gb, k, none⟩ = some (.slice none 0 0)) : Calls Tryz.prog (kF k) #[.pointer (some ⟨gb, 0, none⟩)] w fun e w' => e = .returned (.bool true) ∧ w = w' := by
  match k, hk with
  | 0, _ => exact apartBytes_nil gb w h
  | 1, _ => exact apartInts_nil gb w h
  | 2, _ => exact apartBools_nil gb w h
  | 3, _ => exact apartTexts_nil gb w h
  | 4, _ => exact apartMarks_nil gb w h
  | 5, _ => exact apartSpans_nil gb w h
  | 6, _ => exact apartRuns_nil gb w h
  | 7, _ => exact apartClasses_nil gb w h
  | 8, _ => exact apartNodes_nil gb w h
  | 9, _ => exact apartInstrs_nil gb w h
  | 10, _ => exact apartFaults_nil gb w h
  | 11, _ => exact apartNotes_nil gb w h
  | 12, _ => exact apartParts_nil gb w h
  | 13, _ => exact apartRows_nil gb w h
  | 14, _ => exact apartIntss_nil gb w h
  | 15, _ => exact apartSpanss_nil gb w h
  | 16, _ => exact apartPieces_nil gb w h
  | 17, _ => exact apartFiles_nil gb w h
  | 18, _ => exact apartCmds_nil gb w h
  | _ + 19, hk => exact absurd hk (by omega)
theorem bagG_cell {gb : Nat} {vs : Nat → Value} {w : World} (h : w.heap[gb]? = some (bagG vs)) {k : Nat} (hk : k < 19) : w.cell? ⟨gb, k, none⟩ = some (vs k) := by
  match k, hk with
  | 0, _ => exact cell_of_row w gb 0 _ _ (0, 0) h
  | 1, _ => exact cell_of_row w gb 1 _ _ (0, 0) h
  | 2, _ => exact cell_of_row w gb 2 _ _ (0, 0) h
  | 3, _ => exact cell_of_row w gb 3 _ _ (0, 0) h
  | 4, _ => exact cell_of_row w gb 4 _ _ (0, 0) h
  | 5, _ => exact cell_of_row w gb 5 _ _ (0, 0) h
  | 6, _ => exact cell_of_row w gb 6 _ _ (0, 0) h
  | 7, _ => exact cell_of_row w gb 7 _ _ (0, 0) h
  | 8, _ => exact cell_of_row w gb 8 _ _ (0, 0) h
  | 9, _ => exact cell_of_row w gb 9 _ _ (0, 0) h
  | 10, _ => exact cell_of_row w gb 10 _ _ (0, 0) h
  | 11, _ => exact cell_of_row w gb 11 _ _ (0, 0) h
  | 12, _ => exact cell_of_row w gb 12 _ _ (0, 0) h
  | 13, _ => exact cell_of_row w gb 13 _ _ (0, 0) h
  | 14, _ => exact cell_of_row w gb 14 _ _ (0, 0) h
  | 15, _ => exact cell_of_row w gb 15 _ _ (0, 0) h
  | 16, _ => exact cell_of_row w gb 16 _ _ (0, 0) h
  | 17, _ => exact cell_of_row w gb 17 _ _ (0, 0) h
  | 18, _ => exact cell_of_row w gb 18 _ _ (0, 0) h
  | _ + 19, hk => exact absurd hk (by omega)
theorem look_step {Q : World → Prop} (h : BagG w base gb vs es) (hQ : ∀ W, Below base w W → Q W) (k : Nat) (hk : k < 19) (H : es k ≠ [] → Looked Q k) (W : World) (ho : Only (GE es k) w W) :
    Calls Tryz.prog (kF k) #[.pointer (some ⟨gb, 0, none⟩)] W fun e w' => e = .returned (.bool true) ∧ Only (GE es (k + 1)) w w' := by
  have hge : ∀ b, GE es k b → GE es (k + 1) b := fun b ⟨j, hj, hr⟩ => ⟨j, by omega, hr⟩
  have hblk : W.heap[gb]? = some (bagG vs) := (ho.block gb h.gb_lt fun e => h.ge_gf (by omega) e (.inl rfl)).trans h.blk
  have hz := ho.size
  by_cases hn : es k = []
  · have hc := bagG_cell hblk hk
    rw [h.nil k hk hn] at hc
    exact (look_nil k hk gb W hc).mono fun e w' hh => ⟨hh.1, hh.2 ▸ ho.mono hge⟩
  · have hent : ∀ x ∈ es k, ∃ L : List (List Value), Own (Rep.raw (kN k)) (kE k) W base nob (Ent.v x) L := fun x hx => by
      obtain ⟨L, hL⟩ := h.ent k hk x hx
      refine ⟨L, hL.only ho fun b hb e => ?_⟩
      obtain ⟨j, hj, y, hy, hq⟩ := e
      obtain ⟨L2, hL2⟩ := h.ent j (by omega) y hy
      exact hL.ne_type hL2 (kE_ne k hk j (by omega) (by omega)) hb hq
    have hR := rows0_of hent (h.dist k hk)
    have hPo : Own Rep.val (kS k) W base nob (vs k) ((es k).map fun y => [Ent.v y]) := (h.own k hk).only ho fun b hb e => h.ge_gf (by omega) e (.inr ⟨k, hk, hb⟩)
    have hc := bagG_cell hblk hk
    have hnew := h.own_ne hk
    obtain ⟨vk, hvk⟩ : ∃ v, v = vs k := ⟨_, rfl⟩
    have hsep := h.sep k hk
    rw [← hvk] at hPo hc
    obtain ⟨xs, hx, hrest⟩ := id hPo
    rcases hx.2 with ⟨rfl, h00⟩ | ⟨gB, c, cur, rfl, hbB, hgB, hle, hmax, -⟩
    · rw [List.length_map] at h00
      exact absurd (List.eq_nil_of_length_eq_zero h00) hn
    · have e1 : ((es k).map fun y => [Ent.v y]).length = (es k).length := by simp
      rw [e1] at hle
      simp only [e1] at hc hPo
      have hrow : ∀ m, m < (es k).length → W.cell? ⟨gB, m, none⟩ = some (.slice (entA (es k) m) (entN (es k) m) (entC (es k) m)) := fun m hm => by
        obtain ⟨g', c', he, -, -, hq⟩ := hPo.cell1 (i := m) (by simpa using hm) (x := Ent.v (es k)[m]) (by simp [hm])
        simp only [Value.slice.injEq, Option.some.injEq, Addr.mk.injEq] at he
        obtain ⟨⟨rfl, -⟩, -, -⟩ := he
        rw [ent_v (es k) hm]
        exact hq
      have hr : ∀ b, RowB (es k).length (fun m => .slice (entA (es k) m) (entN (es k) m) (entC (es k) m)) b → GE es (k + 1) b := fun b ⟨m, hm, hb⟩ => ⟨k, by omega, (es k)[m], List.getElem_mem hm, by simp only [ent_v (es k) hm] at hb; exact hb⟩
      refine (H hn gb gB c (es k).length (entA (es k)) (entN (es k)) (entC (es k)) W base hc (by have := h.num k hk; omega) hle hmax hrow hR (by have := h.base_le; omega) (fun e => h.ge_gf (by omega) (hr _ e) (.inl rfl)) (fun e => h.ge_gf (by omega) (hr _ e) (.inr ⟨k, hk, by rw [← hvk]; rfl⟩)) (fun m hm => ?_) fun W2 hW2 => hQ W2 ((ho.below h.base_le fun _ hb => h.ge_ge (by omega) hb).trans hW2)).mono fun e w' hh => ⟨hh.1, (ho.mono hge).trans hh.2 fun b hb => .inl (hr b hb)⟩
      have := h.len k hk (es k)[m] (List.getElem_mem hm)
      simpa [entN, List.getD_eq_getElem?_getD, hm] using this
/-- The look at a bag. -/
theorem apart_G {Q : World → Prop} (h : BagG w base gb vs es) (hQ : ∀ W, Below base w W → Q W) (H : ∀ k, k < 19 → es k ≠ [] → Looked Q k) :
    Calls Tryz.prog 17 #[.pointer (some ⟨gb, 0, none⟩)] w fun e w' => e = .returned (.bool true) ∧ Only (GE es 19) w w' :=
  apart_all gb (fun i W => Only (GE es i) w W) w (Only.refl _ _)
    (Lib.hid fun W ho => look_step h hQ 0 (by omega) (H 0 (by omega)) W ho)
    (Lib.hid fun W ho => look_step h hQ 1 (by omega) (H 1 (by omega)) W ho)
    (Lib.hid fun W ho => look_step h hQ 2 (by omega) (H 2 (by omega)) W ho)
    (Lib.hid fun W ho => look_step h hQ 3 (by omega) (H 3 (by omega)) W ho)
    (Lib.hid fun W ho => look_step h hQ 4 (by omega) (H 4 (by omega)) W ho)
    (Lib.hid fun W ho => look_step h hQ 5 (by omega) (H 5 (by omega)) W ho)
    (Lib.hid fun W ho => look_step h hQ 6 (by omega) (H 6 (by omega)) W ho)
    (Lib.hid fun W ho => look_step h hQ 7 (by omega) (H 7 (by omega)) W ho)
    (Lib.hid fun W ho => look_step h hQ 8 (by omega) (H 8 (by omega)) W ho)
    (Lib.hid fun W ho => look_step h hQ 9 (by omega) (H 9 (by omega)) W ho)
    (Lib.hid fun W ho => look_step h hQ 10 (by omega) (H 10 (by omega)) W ho)
    (Lib.hid fun W ho => look_step h hQ 11 (by omega) (H 11 (by omega)) W ho)
    (Lib.hid fun W ho => look_step h hQ 12 (by omega) (H 12 (by omega)) W ho)
    (Lib.hid fun W ho => look_step h hQ 13 (by omega) (H 13 (by omega)) W ho)
    (Lib.hid fun W ho => look_step h hQ 14 (by omega) (H 14 (by omega)) W ho)
    (Lib.hid fun W ho => look_step h hQ 15 (by omega) (H 15 (by omega)) W ho)
    (Lib.hid fun W ho => look_step h hQ 16 (by omega) (H 16 (by omega)) W ho)
    (Lib.hid fun W ho => look_step h hQ 17 (by omega) (H 17 (by omega)) W ho)
    (Lib.hid fun W ho => look_step h hQ 18 (by omega) (H 18 (by omega)) W ho)
theorem apart_Gb {Q : World → Prop} (h : BagG w base gb vs es) (hQ : ∀ W, Below base w W → Q W) (H : ∀ k, k < 19 → es k ≠ [] → Looked Q k) :
    Calls Tryz.prog 17 #[.pointer (some ⟨gb, 0, none⟩)] w fun e w' => e = .returned (.bool true) ∧ Below base w w' :=
  (apart_G h hQ H).mono fun _ _ hh => ⟨hh.1, hh.2.below h.base_le fun _ hb => h.ge_ge (Nat.le_refl _) hb⟩
end
end Go.Proofs.YtncpeogkccjmcaaGreatDoor
namespace Go.Proofs.YtncpeogkccjmcaaGreatDoor
open Go.RowKit

theorem stRowsG3 : SliceType Tryz.prog 48 41 1 24 := SliceType.mk' (z := .slice none 0 0) Tryz.underlying48 (by kernel_rfl) rfl (by omega)
set_option maxRecDepth 100000 in
set_option maxHeartbeats 4000000 in
theorem addTexts_G (base gb : Nat) (vs : Nat → Value) (es : Nat → List Ent) (w : World) (A : Option Addr) (n c : Nat) (h : Hid (BagG w base gb vs es)) (hx : Hid (Fits w base gb vs es 3 (A, n, c))) :
    Calls Tryz.prog 16 #[.pointer (some ⟨gb, 0, none⟩), .slice A n c] w fun e w' => e = .returned (.tuple #[]) ∧ Added w base gb vs es 3 (A, n, c) w' := by
  have hc0 : w.cell? ⟨gb, 3, none⟩ = some (vs 3) := bagG_cell h.out.blk (by omega)
  have hsz := h.out.gb_lt
  have hb0 := h.out.hb
  have HOWN0 := Lib.hid (h.out.own 3 (by omega))
  have HNE := Lib.hid (h.out.own_ne (k := 3) (by omega))
  obtain ⟨v0, hv0⟩ : ∃ v, v = vs 3 := ⟨_, rfl⟩
  rw [← hv0] at hc0 HOWN0 HNE
  have HV0 := Lib.hid hv0
  clear hv0
  obtain ⟨A1, n1, c1, rfl, hn1, hnc1, hcm1⟩ := HOWN0.out.form
  have hn1' : n1 = (es 3).length := by rw [hn1.out]; simp
  have HN1 := Lib.hid hn1'
  clear hn1 hn1'
  rcases Nat.lt_or_ge n1 400 with hlt | hge
  · go_enter Tryz.func16, Tryz.ntmps16
    go_wp2_with (at_builtin; refine wpList_append_Own _ rfl (.tmp 14) (.tmp 16) 48 rfl Rep.val base 41 24 stRowsG3 nob (.slice A1 n1 c1) ((es 3).map fun y => [Ent.v y]) rfl (HOWN0.out.alloc _) _ _ _ [[.slice A n c]] rfl (SliceAt.newOne Rep.val _ _ _ _ _ ⟨rfl, rfl, by simp [Value.oneCell']⟩ (by simp)) nob (fun _ h => h.elim) (fun _ h => h) (fun _ _ h => h) (by have := HN1.out; simp <;> omega) (by have := HN1.out; simp <;> omega) (by simp <;> omega) ?_; intro v3 w3 hown3 hg3 hat3; obtain ⟨A3, n3, c3, rfl, -, -, -⟩ := hown3.form; have hblk3 := (hg3.block gb (by simp <;> omega) (fun e => HNE.out e.symm)).trans ((Below.heap_alloc w _ gb hsz).trans h.out.blk); have hc3 : w3.cell? ⟨gb, 3, none⟩ = some (.slice A1 n1 c1) := (by rw [HV0.out]; exact bagG_cell hblk3 (by omega)); have hf3 : w3.frozen? ⟨gb, 3, none⟩ = false := (by simp [World.frozen?, hblk3]); have HOWN3 := Lib.hid hown3; have HG3 := Lib.hid hg3; have HAT3 := Lib.hid hat3; have HBLK3 := Lib.hid hblk3; clear hown3 hg3 hat3 hblk3)
    go_end0
    refine ⟨rfl, ?_⟩
    have hv1 := HV0.out
    have hg3 := HG3.out
    have hat3 := HAT3.out
    rw [hv1] at hg3 hat3
    refine h.out.added (k := 3) (by omega) (by have := HN1.out; omega) hx.out HOWN3.out hg3 hat3 ?_
    simp [World.setCell, Array.getElem?_modify, HBLK3.out, setV]
  · go_enter Tryz.func16, Tryz.ntmps16
    go_wp2_with fail
    go_end0
    exact ⟨rfl, h.out.full (by omega) (by have := HN1.out; omega) _⟩
end Go.Proofs.YtncpeogkccjmcaaGreatDoor
