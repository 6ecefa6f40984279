/- The walk of the law SpaceOwn: what a space answers is new memory. Condition: room. -/
import Derived.Test.YtejjmjbkpodolaaDoorOps25
import Derived.Test.YtejjmjbkpodolaaDoorBag
import Derived.Deep.RegionHeld3
import Derived.Deep.CutBlock
namespace Go.Proofs.YtejjmjbkpodolaaDoor
open Go.RowKit Go.ChangeShapes Go.WideShapes Go.Deep

theorem Side.blkOf {K : Nat → Value → Value → Array Value} {T : TypeId} {U : Blocks} {w : World} {v : Value} {st : St} (s : Side K T U w v st) {b : Nat} (hb : ptrB v b) : ∃ C, w.heap[b]? = some (.cells C T) := by
  match st, s with
  | none, s => rw [show v = _ from s] at hb; simp [ptrB] at hb
  | some (m, p, h), s =>
    obtain ⟨g, rfl, hg, S, ⟨_, _, _, _, _, _, hs⟩, -⟩ := s
    rw [hb.is]; exact ⟨_, hs.blk⟩
theorem Side.apartOwn {K : Nat → Value → Value → Array Value} {T : TypeId} {U : Blocks} {w : World} {v : Value} {st : St} (s : Side K T U w v st) {α : Type} {r : Rep α} {e : TypeId} {base : Nat} {u : Value} {l : List α} (h : Own r e w base nob u l) (hne : e ≠ T) : ∀ b, u.ownBlock = some b → ¬ ptrB v b := by
  intro b hb hp
  obtain ⟨C, hC⟩ := s.blkOf hp
  exact h.ne_block hC hne hb
theorem BagB.only {w w' : World} {base gb : Nat} {v : Value} {rows : List (List Value)} {F : Blocks} (h : BagB w base gb v rows) (ho : Only F w w') (h1 : ¬ F gb) (h2 : ∀ b, v.ownBlock = some b → ¬ F b) : BagB w' base gb v rows :=
  ⟨(ho.block _ (Array.getElem?_eq_some_iff.1 h.blk).1 h1).trans h.blk, h.own.only ho h2, h.hb⟩
/-- Two spaces, a bag, rows of one's own. -/
structure OwnS (w : World) (g g' gb : Nat) (st : St) (vb : Value) (bs : List Ent) (es : List (Ent × List UInt8)) (wr : World) : Prop where
  sides : ∃ U : Blocks, SideP U wr (.pointer (some ⟨g, 0, none⟩)) st ∧ SideR U wr (.pointer (some ⟨g', 0, none⟩)) st ∧ (∀ b, U b → b < wr.heap.size) ∧ (∀ x ∈ es, ∀ b, (Ent.v x.1).ownBlock = some b → U b) ∧ U gb ∧ ∀ b, vb.ownBlock = some b → U b
  bag : BagB wr w.heap.size gb vb (bs.map fun x => [Ent.v x])
  rws : Rws 5 w wr es
  hg : w.heap.size ≤ g
  hg' : w.heap.size ≤ g'
section
variable {w : World} {g g' gb : Nat} {st : St} {vb : Value} {bs : List Ent} {es : List (Ent × List UInt8)} {wr w' : World}
theorem OwnS.far (h : OwnS w g g' gb st vb bs es wr) (hb : Below wr.heap.size wr w') : OwnS w g g' gb st vb bs es w' := by
  obtain ⟨U, s1, s2, h1, h2, h3, h4⟩ := h.sides
  exact ⟨⟨U, s1.far hb, s2.far hb, fun b hb' => Nat.lt_of_lt_of_le (h1 b hb') hb.size, h2, h3, h4⟩, h.bag.far hb, h.rws.far hb, h.hg, h.hg'⟩
theorem OwnS.add (h : OwnS w g g' gb st vb bs es wr) (hb : Below wr.heap.size wr w') {A : Option Addr} {n c : Nat} {l : List UInt8} (ho : Own Rep.byte 5 w' wr.heap.size nob (.slice A n c) l) : OwnS w g g' gb st vb bs (es ++ [((A, n, c), l)]) w' := by
  obtain ⟨U, s1, s2, h1, h2, h3, h4⟩ := h.sides
  refine ⟨⟨fun b => U b ∨ btw wr.heap.size w'.heap.size b, (s1.turn (fun b hb => hb.imp id And.left) fun b hb => .inl (s1.ptr b hb)).far hb, (s2.turn (fun b hb => hb.imp id And.left) fun b hb => .inl (s2.ptr b hb)).far hb, fun b hb' => hb'.elim (fun h => Nat.lt_of_lt_of_le (h1 b h) hb.size) And.right, fun x hx b hq => ?_, .inl h3, fun b hq => .inl (h4 b hq)⟩, h.bag.far hb, h.rws.add hb ho, h.hg, h.hg'⟩
  rcases List.mem_append.1 hx with hx | hx
  · exact .inl (h2 x hx b hq)
  · rw [List.mem_singleton.1 hx] at hq
    exact .inr (ho.block_lt hq)
theorem OwnS.bagged (h : OwnS w g g' gb st vb bs es wr) {v' : Value} {x : Ent} (hB : BagB w' w.heap.size gb v' ((bs ++ [x]).map fun x => [Ent.v x])) (ho : Only (fun b => b = gb ∨ some b = vb.ownBlock) wr w') (hv : ∀ b, v'.ownBlock = some b → vb.ownBlock = some b ∨ wr.heap.size ≤ b) : OwnS w g g' gb st v' (bs ++ [x]) es w' := by
  obtain ⟨U, s1, s2, h1, h2, h3, h4⟩ := h.sides
  have hgb1 : ¬ ptrB (.pointer (some ⟨g, 0, none⟩)) gb := fun hp => by
    obtain ⟨C, hC⟩ := s1.blkOf hp
    have := h.bag.blk.symm.trans hC
    simp only [bagB, Option.some.injEq, Obj.cells.injEq] at this
    exact absurd this.2.1 (by decide)
  have hgb2 : ¬ ptrB (.pointer (some ⟨g', 0, none⟩)) gb := fun hp => by
    obtain ⟨C, hC⟩ := s2.blkOf hp
    have := h.bag.blk.symm.trans hC
    simp only [bagB, Option.some.injEq, Obj.cells.injEq] at this
    exact absurd this.2.1 (by decide)
  refine ⟨⟨fun b => U b ∨ btw wr.heap.size w'.heap.size b, ?_, ?_, fun b hb' => hb'.elim (fun h => Nat.lt_of_lt_of_le (h1 b h) ho.size) And.right, fun x hx b hq => .inl (h2 x hx b hq), .inl h3, fun b hq => ?_⟩, hB, h.rws.bag h.bag ho, h.hg, h.hg'⟩
  · refine (s1.turn (fun b hb => hb.imp id And.left) fun b hb => .inl (s1.ptr b hb)).only ho fun b hb => ?_
    rcases hb with rfl | hb
    · exact ⟨hgb1, .inl (.inl h3)⟩
    · exact ⟨s1.apartOwn h.bag.own (by decide) b hb.symm, .inl (.inl (h4 b hb.symm))⟩
  · refine (s2.turn (fun b hb => hb.imp id And.left) fun b hb => .inl (s2.ptr b hb)).only ho fun b hb => ?_
    rcases hb with rfl | hb
    · exact ⟨hgb2, .inl (.inl h3)⟩
    · exact ⟨s2.apartOwn h.bag.own (by decide) b hb.symm, .inl (.inl (h4 b hb.symm))⟩
  · rcases hv b hq with h' | h'
    · exact .inl (h4 b h')
    · exact .inr ⟨h', (hB.own.block_lt hq).2⟩
theorem OwnS.low (h : OwnS w g g' gb st vb bs es wr) : Below w.heap.size w wr := h.rws.b
end
section
variable (w : World) (g g' gb : Nat) (st : St) (vb : Value) (bs : List Ent) (es : List (Ent × List UInt8)) (wr : World)
theorem own_does (h : Hid (OwnS w g g' gb st vb bs es wr)) (kind on : Int) (x : UInt8) (A : Option Addr) (n c : Nat) (b : List UInt8) (hb : Hid (SliceAt Rep.byte w (under w.heap.size) A c b)) (hn : Hid (n = b.length)) (hbig : n ≤ 67108864) :
    Calls Tryd.prog 8 #[.pointer (some ⟨g, 0, none⟩), .pointer (some ⟨g', 0, none⟩), .agg #[.int .i64 kind, .int .i64 on, .int .u8 x.toNat, .slice A n c]] wr fun e w' => e = .returned (.bool true) ∧ ∃ st', Hid (OwnS w g g' gb st' vb bs es w') := by
  obtain ⟨U, s1, s2, h1, h2, h3, h4⟩ := h.out.sides
  have hlo := h.out.rws.b
  have hap := s1.apart s2
  refine (does_any U _ _ st kind on x A n c b (under w.heap.size) wr (Lib.hid s1) (Lib.hid s2) (Lib.hid hap) (Lib.hid (hb.out.keep (fun _ h => h) (Same.of_below hlo fun _ h => h))) (Lib.hid fun y hy => ⟨Nat.lt_of_lt_of_le hy hlo.size, fun hp => by have := h.out.hg; rw [hp.is] at hy; simp only [under] at hy; omega, fun hp => by have := h.out.hg'; rw [hp.is] at hy; simp only [under] at hy; omega⟩) hn hbig (Lib.hid h1)).mono ?_
  rintro e w' ⟨rfl, st', HB⟩
  have ho := HB.out.o
  have hgb : ∀ b, (ptrB (.pointer (some ⟨g, 0, none⟩)) b ∨ ptrB (.pointer (some ⟨g', 0, none⟩)) b) → ∃ C T, wr.heap[b]? = some (.cells C T) ∧ (T = 68 ∨ T = 63) := fun b hb => by
    rcases hb with hb | hb
    · obtain ⟨C, hC⟩ := s1.blkOf hb; exact ⟨C, _, hC, .inl rfl⟩
    · obtain ⟨C, hC⟩ := s2.blkOf hb; exact ⟨C, _, hC, .inr rfl⟩
  refine ⟨rfl, st', Lib.hid ⟨⟨U, HB.out.p, HB.out.r, fun b hb => Nat.lt_of_lt_of_le (h1 b hb) ho.size, h2, h3, h4⟩, h.out.bag.only ho (fun hF => ?_) (fun b hq hF => ?_), h.out.rws.only ho (fun b hF => ?_) (fun x hx b hq hF => ?_), h.out.hg, h.out.hg'⟩⟩
  · obtain ⟨C, T, hC, hT⟩ := hgb gb hF
    have := h.out.bag.blk.symm.trans hC
    simp only [bagB, Option.some.injEq, Obj.cells.injEq] at this
    rcases hT with rfl | rfl <;> exact absurd this.2.1 (by decide)
  · rcases hF with hF | hF
    · exact s1.apartOwn h.out.bag.own (by decide) b hq hF
    · exact s2.apartOwn h.out.bag.own (by decide) b hq hF
  · rcases hF with hF | hF
    · rw [hF.is]; exact h.out.hg
    · rw [hF.is]; exact h.out.hg'
  · rcases hF with hF | hF
    · exact s1.apartOwn (h.out.rws.own x hx) (by decide) b hq hF
    · exact s2.apartOwn (h.out.rws.own x hx) (by decide) b hq hF
/-- What a call that gives bytes leaves here. -/
def GotS (l : List UInt8) (w' : World) (A : Option Addr) (n c : Nat) : Prop :=
  Hid (n = l.length) ∧ Hid (OwnS w g g' gb st vb bs (es ++ [((A, n, c), l)]) w') ∧ Hid (∀ W, Below w'.heap.size w' W → SliceAt Rep.byte W (under w'.heap.size) A c l) ∧ Hid (Below wr.heap.size wr w')
theorem OwnS.got {w : World} {g g' gb : Nat} {st : St} {vb : Value} {bs : List Ent} {es : List (Ent × List UInt8)} {wr w' : World} {l : List UInt8} {A : Option Addr} {n c : Nat} (h : OwnS w g g' gb st vb bs es wr) (hn : Hid (n = l.length)) (ho : Hid (Own Rep.byte 5 w' wr.heap.size nob (.slice A n c) l)) (hb : Hid (Below wr.heap.size wr w')) : GotS w g g' gb st vb bs es wr l w' A n c :=
  ⟨hn, Lib.hid (h.add hb.out ho.out), Lib.hid fun W hW => ho.out.above.2.keep (fun b hb => hb.2) (Same.of_below hW fun b hb => hb.2), hb⟩
theorem own_pattern (h : Hid (OwnS w g g' gb st vb bs es wr)) : Calls Tryd.prog 9 #[.pointer (some ⟨g, 0, none⟩)] wr fun e w' => ∃ A n c, e = .returned (.slice A n c) ∧ n ≤ c ∧ c ≤ 9223372036854775807 ∧ GotS w g g' gb st vb bs es wr (patS st) w' A n c := by
  obtain ⟨U, s1, -⟩ := h.out.sides
  refine (spattern U _ st wr (Lib.hid s1)).mono ?_
  rintro e w' ⟨A, n, c, rfl, k1, k2, HN, HO, HB⟩
  exact ⟨A, n, c, rfl, k1, k2, h.out.got HN HO HB⟩
theorem own_hold (h : Hid (OwnS w g g' gb st vb bs es wr)) : Calls Tryd.prog 10 #[.pointer (some ⟨g, 0, none⟩)] wr fun e w' => ∃ A n c, e = .returned (.slice A n c) ∧ n ≤ c ∧ c ≤ 9223372036854775807 ∧ GotS w g g' gb st vb bs es wr (holdS st) w' A n c := by
  obtain ⟨U, s1, -⟩ := h.out.sides
  refine (shold U _ st wr (Lib.hid s1)).mono ?_
  rintro e w' ⟨A, n, c, rfl, k1, k2, HN, HO, HB⟩
  exact ⟨A, n, c, rfl, k1, k2, h.out.got HN HO HB⟩
theorem own_first (h : Hid (OwnS w g g' gb st vb bs es wr)) : Calls Tryd.prog 11 #[.pointer (some ⟨g, 0, none⟩)] wr fun e w' => ∃ A n c, e = .returned (.tuple #[.slice A n c, .bool (hasS st)]) ∧ n ≤ c ∧ c ≤ 9223372036854775807 ∧ GotS w g g' gb st vb bs es wr (firstS st) w' A n c := by
  obtain ⟨U, s1, -⟩ := h.out.sides
  refine (sfirst U _ st wr (Lib.hid s1)).mono ?_
  rintro e w' ⟨A, n, c, rfl, k1, k2, HN, HO, HB⟩
  exact ⟨A, n, c, rfl, k1, k2, h.out.got HN HO HB⟩
theorem own_rfirst (h : Hid (OwnS w g g' gb st vb bs es wr)) : Calls Tryd.prog 12 #[.pointer (some ⟨g', 0, none⟩)] wr (Give2S wr (firstS st) (hasS st)) := by
  obtain ⟨U, -, s2, -⟩ := h.out.sides
  exact tfirst U _ st wr (Lib.hid s2)
theorem own_add (h : Hid (OwnS w g g' gb st vb bs es wr)) (hl : bs.length < 400) (A : Option Addr) (n c : Nat) : Calls Tryd.prog 14 #[.pointer (some ⟨gb, 0, none⟩), .slice A n c] wr fun e w' => e = .returned (.tuple #[]) ∧ ∃ v', Hid (OwnS w g g' gb st v' (bs ++ [(A, n, c)]) es w') := by
  refine (addBytes_at w.heap.size gb vb _ wr h.out.bag (by simpa using hl) A n c).mono ?_
  rintro e w' ⟨rfl, v', hB, ho, hv⟩
  exact ⟨rfl, v', Lib.hid (h.out.bagged (x := (A, n, c)) (by rw [List.map_append]; exact hB) ho hv)⟩
/-- The document's space, as its fields lie. -/
theorem r_fields {U : Blocks} (s2 : SideR U wr (.pointer (some ⟨g', 0, none⟩)) st) : ∃ A1 n1 c1 A2 n2 c2 S, wr.cell? ⟨g', 1, none⟩ = some (.slice A1 n1 c1) ∧ wr.cell? ⟨g', 2, none⟩ = some (.slice A2 n2 c2) ∧ n1 ≤ c1 ∧ c1 ≤ 9223372036854775807 ∧ n2 ≤ c2 ∧ c2 ≤ 9223372036854775807 ∧ Hid (n1 = (patS st).length) ∧ Hid (n2 = (holdS st).length) ∧ Hid (∀ W, Below wr.heap.size wr W → SliceAt Rep.byte W S A1 c1 (patS st) ∧ SliceAt Rep.byte W S A2 c2 (holdS st)) ∧ n1 ≤ 1048576 ∧ n2 ≤ 1048576 := by
  match st, s2 with
  | none, s2 => exact absurd (show Value.pointer _ = _ from s2) (by simp)
  | some (m, p, h), s2 =>
    obtain ⟨q, e, -, S, ⟨A1, n1, c1, A2, n2, c2, hs⟩, -⟩ := s2
    simp only [Value.pointer.injEq, Option.some.injEq, Addr.mk.injEq] at e
    obtain ⟨rfl, -⟩ := e
    obtain ⟨-, k1, k2, -⟩ := hs.cellsR
    obtain ⟨d1, d2, d3, d4⟩ := hs.caps
    exact ⟨A1, n1, c1, A2, n2, c2, S, k1, k2, d1, d2, d3, d4, Lib.hid hs.hp, Lib.hid hs.hh, Lib.hid fun W hW => ⟨(hs.far hW).tp, (hs.far hW).th⟩, hs.le.1, hs.le.2⟩
theorem own_fields (h : Hid (OwnS w g g' gb st vb bs es wr)) : ∃ A1 n1 c1 A2 n2 c2 S, wr.cell? ⟨g', 1, none⟩ = some (.slice A1 n1 c1) ∧ wr.cell? ⟨g', 2, none⟩ = some (.slice A2 n2 c2) ∧ n1 ≤ c1 ∧ c1 ≤ 9223372036854775807 ∧ n2 ≤ c2 ∧ c2 ≤ 9223372036854775807 ∧ Hid (n1 = (patS st).length) ∧ Hid (n2 = (holdS st).length) ∧ Hid (∀ W, Below wr.heap.size wr W → SliceAt Rep.byte W S A1 c1 (patS st) ∧ SliceAt Rep.byte W S A2 c2 (holdS st)) ∧ n1 ≤ 1048576 ∧ n2 ≤ 1048576 := by
  obtain ⟨U, -, s2, -⟩ := h.out.sides
  exact r_fields g' st wr s2
/-- Behind the look at shared memory. -/
def OwnE (W : World) : Prop := Below w.heap.size w W ∧ ∃ U, SideP U W (.pointer (some ⟨g, 0, none⟩)) st ∧ SideR U W (.pointer (some ⟨g', 0, none⟩)) st
theorem own_apart (h : Hid (OwnS w g g' gb st vb (es.map Prod.fst) es wr)) (h0 : Hid (es = [] → vb = .slice none 0 0)) (hl : es.length ≤ 400) (hk : Hid (∀ x ∈ es, x.1.2.1 ≤ 1048576)) :
    Calls Tryd.prog 15 #[.pointer (some ⟨gb, 0, none⟩)] wr fun e w' => e = .returned (.bool true) ∧ Hid (OwnE w g g' st w') := by
  obtain ⟨U, s1, s2, h1, h2, h3, h4⟩ := h.out.sides
  have hw := h.out.low
  by_cases he : es = []
  · have hb := h.out.bag.blk
    rw [h0.out he] at hb
    refine (apart_none gb wr hb).mono ?_
    rintro e w' ⟨rfl, rfl⟩
    exact ⟨rfl, Lib.hid ⟨hw, U, s1, s2⟩⟩
  · obtain ⟨ho, hd⟩ := h.out.rws.chosen (List.Sublist.refl _)
    have hpos := List.length_pos_iff.2 he
    refine (apart_bytesO w.heap.size gb vb (es.map Prod.fst) wr h.out.bag (by simpa using hpos) (by simp; omega) ho (fun x hx => ?_) hd).mono ?_
    · obtain ⟨y, hy, rfl⟩ := List.mem_map.1 hx
      have := hk.out y hy
      omega
    · rintro e w' ⟨rfl, hO⟩
      have hF : ∀ b, (∃ x ∈ es.map Prod.fst, (Ent.v x).ownBlock = some b) → ∃ x ∈ es, (Ent.v x.1).ownBlock = some b := fun b ⟨x, hx, hb⟩ => by
        obtain ⟨y, hy, rfl⟩ := List.mem_map.1 hx
        exact ⟨y, hy, hb⟩
      refine ⟨rfl, Lib.hid ⟨hw.trans (hO.below hw.size fun b hb => ?_), U, s1.only hO fun b hb => ?_, s2.only hO fun b hb => ?_⟩⟩
      · obtain ⟨x, hx, hb⟩ := hF b hb
        exact ((h.out.rws.own x hx).block_lt hb).1
      · obtain ⟨x, hx, hb⟩ := hF b hb
        exact ⟨s1.apartOwn (h.out.rws.own x hx) (by decide) b hb, .inl (h2 x hx b hb)⟩
      · obtain ⟨x, hx, hb⟩ := hF b hb
        exact ⟨s2.apartOwn (h.out.rws.own x hx) (by decide) b hb, .inl (h2 x hx b hb)⟩
end
theorem first_le (st : St) : (firstS st).length ≤ (patS st).length := by
  match st with
  | none => exact Nat.le_refl _
  | some (m, p, h) => exact (List.takeWhile_sublist _).length_le
theorem pat_le {w : World} {g g' gb : Nat} {st : St} {vb : Value} {bs : List Ent} {es : List (Ent × List UInt8)} {wr : World} (h : OwnS w g g' gb st vb bs es wr) : (patS st).length ≤ 1048576 ∧ (holdS st).length ≤ 1048576 := by
  obtain ⟨U, s1, -⟩ := h.sides
  match st, s1 with
  | none, s1 => simp [patS, holdS]
  | some (m, p, h), s1 =>
    obtain ⟨q, e, -, S, hs, -⟩ := s1
    have := hs.fits
    exact ⟨Nat.le_trans this.1.1 this.2, Nat.le_trans this.1.2 this.2⟩
theorem eqG (A B : Option Addr) (n k c d : Nat) (l : List UInt8) (w : World) (S S' : Blocks) (hn : Hid (n = l.length)) (hk : Hid (k = l.length)) (hx : Hid (SliceAt Rep.byte w S A c l)) (hy : Hid (SliceAt Rep.byte w S' B d l)) :
    Calls Tryd.prog 13 #[.slice A n c, .slice B k d] w fun e w' => e = .returned (.bool true) ∧ Below w.heap.size w w' := eqB' A B n k c d l l true w S S' hn hk (Lib.hid (by simp)) hx hy
set_option maxRecDepth 100000 in
set_option maxHeartbeats 4000000 in
theorem spaceOwn_any (w : World) (A : Option Addr) (N c : Nat) (l : List OpT) (hN : Hid (N = l.length)) (hl : Hid (SliceAt Rep.op w (under w.heap.size) A c l)) (hb : Hid (∀ o ∈ l, o.2.2.2.length ≤ 140737488355328)) :
    Calls Tryd.prog 3 #[.slice A N c] w fun e w' => e = .returned (.bool true) ∧ Below w.heap.size w w' := by
  have hNc : N ≤ c := by rw [hN.out]; exact hl.out.len
  have hcm := hl.out.max
  go_enter Tryd.func3, Tryd.ntmps3
  go_wp2_with fail
  refine (works25_any w).mono ?_
  rintro e w1 ⟨rfl, hb1⟩
  have HB1 := Lib.hid hb1
  have HL1 := Lib.hid (hl.out.below hb1 (Nat.le_refl _))
  clear hb1
  go_wp2_with fail
  refine (beyond_any A N c l w1 _ hN HL1 hb).mono ?_
  rintro e w2 ⟨r, rfl, rfl, HR⟩
  cases r with
  | true =>
    go_wp2_with fail
    go_ret
    exact ⟨rfl, HB1.out⟩
  | false =>
    have HLEN := Lib.hid (HR.out rfl)
    clear HR HL1
    go_wp2_with fail
    refine (new_ok w1 4096 (by omega)).mono ?_
    rintro e w2 ⟨g, rfl, hg, HX, HB2⟩
    go_wp2_with fail
    refine (rnew_ok w2 4096 (by omega)).mono ?_
    rintro e w3 ⟨g', rfl, hg', HY, HB3⟩
    have hO : OwnS w g g' w3.heap.size (some (4096, [], [])) (.slice none 0 0) [] [] (w3.alloc (bagB (.slice none 0 0))) := by
      have h1 := HB1.out.size
      have h2 := HB2.out.size
      have h3 := HB3.out.size
      have hb3 : Below w.heap.size w w3 := bfar (bfar HB1.out HB2.out) HB3.out
      have hba : Below w3.heap.size w3 (w3.alloc (bagB (.slice none 0 0))) := (Below.refl _ _).alloc (Nat.le_refl _) _
      have s1 : SideP (under (w3.heap.size + 1)) (w3.alloc (bagB (.slice none 0 0))) (.pointer (some ⟨g, 0, none⟩)) (some (4096, [], [])) := Side.far (SpX.side (HX.out.far HB3.out) (by have := HX.out.glt; simp [under]; omega)) hba
      have s2 : SideR (under (w3.heap.size + 1)) (w3.alloc (bagB (.slice none 0 0))) (.pointer (some ⟨g', 0, none⟩)) (some (4096, [], [])) := Side.far (SpX.side HY.out (by have := HY.out.glt; simp [under]; omega)) hba
      exact ⟨⟨_, s1, s2, fun b hb => by simpa [under] using hb, fun x hx => absurd hx (by simp), Nat.lt_succ_self _, fun b hb => by simp [Value.ownBlock] at hb⟩, by simpa using BagB.start w3 w.heap.size hb3.size, Rws.nil _ (bfar hb3 hba), by omega, by omega⟩
    have HO := Lib.hid hO
    obtain ⟨gb, hgb⟩ : ∃ gb, gb = w3.heap.size := ⟨_, rfl⟩
    rw [← hgb] at HO
    have HGB := Lib.hid hgb
    clear hO hgb HX HY HB2 HB3 HB1
    go_upto_block 0 with fail
    rw [← HGB.out]
    clear HGB
    go_cut [] from 9 (fun wc => ∃ (st : St) (vb : Value) (es : List (Ent × List UInt8)), Hid (es.length ≤ 160) ∧ Hid (es = [] → vb = .slice none 0 0) ∧ Hid (∀ x ∈ es, x.1.2.1 ≤ 1048576) ∧ Hid (OwnS w g g' gb st vb (es.map Prod.fst) es wc))
    case first =>
      go_wp2_with fail
      go_loopg [9] N (fun k iv wr => ∃ (i : Nat) (st : St) (vb : Value) (es : List (Ent × List UInt8)), i ≤ N ∧ i ≤ 40 ∧ iv = .int .i64 i ∧ k = N - i ∧ Hid (es.length = 4 * i) ∧ Hid (i = 0 → vb = .slice none 0 0) ∧ Hid (∀ x ∈ es, x.1.2.1 ≤ 1048576) ∧ Hid (OwnS w g g' gb st vb (es.map Prod.fst) es wr))
      case atStart => exact ⟨0, _, _, [], Nat.zero_le _, by omega, rfl, rfl, Lib.hid rfl, Lib.hid fun _ => rfl, Lib.hid fun x hx => absurd hx (by simp), HO⟩
      case round =>
        obtain ⟨i, st, vb, es, hi, hi40, rfl, rfl, HE, HV, HLN, HO⟩ := hrel
        rcases Classical.em (i < N ∧ i < 40) with ⟨hlt, hl40⟩ | hge
        · have hil : i < l.length := by rw [← hN.out]; exact hlt
          obtain ⟨go, o, A', c', rfl, hgo, c0, c1, c2, c3, hs⟩ := hl.out.op hil
          have hbi := HLEN.out _ (List.getElem_mem hil)
          obtain ⟨⟨kd, on, nm, b⟩, hop⟩ : ∃ p, p = l[i] := ⟨_, rfl⟩
          rw [← hop] at hbi c0 c1 c2 c3 hs
          simp only at hbi c0 c1 c2 c3 hs
          obtain ⟨n, hn⟩ : ∃ n, n = b.length := ⟨_, rfl⟩
          rw [← hn] at hbi c3
          have HNB := Lib.hid hn
          have hlo := HO.out.low
          replace c0 := (hlo.cell (p := ⟨go, o + i * 4, none⟩) hgo).trans c0
          replace c1 := (hlo.cell (p := ⟨go, o + i * 4 + 1, none⟩) hgo).trans c1
          replace c2 := (hlo.cell (p := ⟨go, o + i * 4 + 2, none⟩) hgo).trans c2
          replace c3 := (hlo.cell (p := ⟨go, o + i * 4 + 3, none⟩) hgo).trans c3
          have HD := Lib.hid (own_does w g g' gb st vb _ es wr HO kd on nm A' n c' b (Lib.hid hs) HNB hbi)
          have hi1 : (i : Int) < (N : Int) := by omega
          have hi2 : (i : Int) < 40 := by omega
          clear hs hn hop hlo HO
          go_wp2_with fail
          refine HD.out.mono ?_
          rintro e w4 ⟨rfl, st2, HO4⟩
          clear HD c0 c1 c2 c3
          go_wp2_with fail
          refine (own_pattern w g g' gb st2 vb _ _ w4 HO4).mono ?_
          rintro e w5 ⟨Aa, na, ca, rfl, ka1, ka2, HNa, HO5, HRa, HBa⟩
          go_wp2_with fail
          refine (own_hold w g g' gb st2 vb _ _ w5 HO5).mono ?_
          rintro e w6 ⟨Ab, nb, cb, rfl, kb1, kb2, HNb, HO6, HRb, HBb⟩
          go_wp2_with fail
          refine (own_first w g g' gb st2 vb _ _ w6 HO6).mono ?_
          rintro e w7 ⟨Ac, nc, cc, rfl, kc1, kc2, HNc, HO7, HRc, HBc⟩
          go_wp2_with fail
          refine (own_rfirst w g g' gb st2 vb _ _ w7 HO7).mono ?_
          rintro e w8 ⟨Ax, nx, cx, rfl, kx1, kx2, HNx, HOx, HBx⟩
          have HO8 := Lib.hid (HO7.out.far HBx.out)
          obtain ⟨A1, n1, c1, A2, n2, c2, SF, f1, f2, kf1, kf2, kf3, kf4, HN1, HN2, HF, -, -⟩ := own_fields w g g' gb st2 vb _ _ w8 HO8
          have HQ1 := Lib.hid (eqG Aa A1 na n1 ca c1 _ w8 _ _ HNa HN1 (Lib.hid (HRa.out w8 (bfar (bfar HBb.out HBc.out) HBx.out))) (Lib.hid (HF.out w8 (Below.refl _ _)).1))
          clear HO4 HO5 HO6 HO7
          go_wp2_with fail
          refine HQ1.out.mono ?_
          rintro e w9 ⟨rfl, hb9⟩
          have HB9 := Lib.hid hb9
          have HO9 := Lib.hid (HO8.out.far hb9)
          have g2 := (hb9.cell (World.block_lt_of_cell? w8 _ f2)).trans f2
          have HQ2 := Lib.hid (eqG Ab A2 nb n2 cb c2 _ w9 _ _ HNb HN2 (Lib.hid (HRb.out w9 (bfar (bfar HBc.out HBx.out) hb9))) (Lib.hid (HF.out w9 hb9).2))
          clear hb9 HQ1 f1 f2 HO8
          go_wp2_with fail
          refine HQ2.out.mono ?_
          rintro e w10 ⟨rfl, hb10⟩
          have HO10 := Lib.hid (HO9.out.far hb10)
          have HQ3 := Lib.hid (eqG Ac Ax nc nx cc cx _ w10 _ _ HNc HNx (Lib.hid (HRc.out w10 (bfar (bfar HBx.out HB9.out) hb10))) (Lib.hid ((HOx.out.far (bfar HB9.out hb10)).above.2)))
          clear hb10 HQ2 g2 HO9
          go_wp2_with fail
          refine HQ3.out.mono ?_
          rintro e w11 ⟨rfl, hb11⟩
          have HO11 := Lib.hid (HO10.out.far hb11)
          have hbl : (es.map Prod.fst).length = 4 * i := by rw [List.length_map]; exact HE.out
          have HBL := Lib.hid hbl
          clear hb11 HQ3 HO10 HRa HRb HRc HF HOx HBa HBb HBc HBx HB9 hbl
          go_wp2_with fail
          refine (own_add w g g' gb st2 vb _ _ w11 HO11 (by have := HBL.out; omega) Aa na ca).mono ?_
          rintro e w12 ⟨rfl, v12, HO12⟩
          clear HO11
          go_wp2_with fail
          refine (own_add w g g' gb st2 v12 _ _ w12 HO12 (by have := HBL.out; simp only [List.length_append, List.length_cons, List.length_nil]; omega) Ab nb cb).mono ?_
          rintro e w13 ⟨rfl, v13, HO13⟩
          clear HO12
          go_wp2_with fail
          refine (own_add w g g' gb st2 v13 _ _ w13 HO13 (by have := HBL.out; simp only [List.length_append, List.length_cons, List.length_nil]; omega) Ac nc cc).mono ?_
          rintro e w14 ⟨rfl, v14, HO14⟩
          clear HO13
          go_wp2_with fail
          refine (own_pattern w g g' gb st2 v14 _ _ w14 HO14).mono ?_
          rintro e w15 ⟨Ad, nd, cd, rfl, kd1, kd2, HNd, HO15, -, -⟩
          go_wp2_with fail
          refine (own_add w g g' gb st2 v14 _ _ w15 HO15 (by have := HBL.out; simp only [List.length_append, List.length_cons, List.length_nil]; omega) Ad nd cd).mono ?_
          rintro e w16 ⟨rfl, v16, HO16⟩
          have hpl := pat_le HO16.out
          have hfl := first_le st2
          clear HO14 HO15
          go_wp2_with fail
          go_roundg (N - (i + 1))
          case measure => omega
          case rel =>
            refine ⟨i + 1, st2, v16, (((es ++ [((Aa, na, ca), patS st2)]) ++ [((Ab, nb, cb), holdS st2)]) ++ [((Ac, nc, cc), firstS st2)]) ++ [((Ad, nd, cd), patS st2)], by omega, by omega, by go_num, rfl, Lib.hid ?_, Lib.hid fun h => by omega, Lib.hid fun x hx => ?_, Lib.hid (by simpa using HO16.out)⟩
            · have := HE.out; simp only [List.length_append, List.length_cons, List.length_nil]; omega
            · simp only [List.mem_append, List.mem_singleton] at hx
              have h1 := HNa.out
              have h2 := HNb.out
              have h3 := HNc.out
              have h4 := HNd.out
              rcases hx with (((hx | hx) | hx) | hx) | hx
              · exact HLN.out x hx
              · rw [hx]; show na ≤ _; omega
              · rw [hx]; show nb ≤ _; omega
              · rw [hx]; show nc ≤ _; omega
              · rw [hx]; show nd ≤ _; omega
        · have hex : Hid (es.length ≤ 160) := Lib.hid (by have := HE.out; omega)
          have hnil : Hid (es = [] → vb = .slice none 0 0) := Lib.hid fun h => HV.out (by have := HE.out; rw [h] at this; simp at this; omega)
          rcases Nat.lt_or_ge i N with hlt | hge2
          · obtain rfl : i = 40 := by omega
            go_wp2_with fail
            go_meet
            case rel => exact ⟨st, vb, es, hex, hnil, HLN, HO⟩
          · obtain rfl : i = N := by omega
            go_wp2_with fail
            go_meet
            case rel => exact ⟨st, vb, es, hex, hnil, HLN, HO⟩
    case rest =>
      obtain ⟨st, vb, es, HEX, HNIL, HLN, HO⟩ := hcut
      go_wp2_with fail
      refine (own_apart w g g' gb st vb es wc HO HNIL (by have := HEX.out; omega) HLN).mono ?_
      rintro e wE ⟨rfl, HE⟩
      obtain ⟨hwE, U, s1, s2⟩ := HE.out
      obtain ⟨A1, n1, c1, A2, n2, c2, SF, f1, f2, kf1, kf2, kf3, kf4, HN1, HN2, HF, -, -⟩ := r_fields g' st wE s2
      have HWE := Lib.hid hwE
      have S1 := Lib.hid s1
      obtain ⟨lp, hlp⟩ : ∃ l, l = patS st := ⟨_, rfl⟩
      obtain ⟨lh, hlh⟩ : ∃ l, l = holdS st := ⟨_, rfl⟩
      rw [← hlp] at HN1 HF
      rw [← hlh] at HN2 HF
      have HPS : Hid (∀ W, Below wE.heap.size wE W → Calls Tryd.prog 9 #[.pointer (some ⟨g, 0, none⟩)] W (GiveS W lp)) := Lib.hid fun W hW => by rw [hlp]; exact spattern _ _ _ W (Lib.hid (S1.out.far hW))
      have HHS : Hid (∀ W, Below wE.heap.size wE W → Calls Tryd.prog 10 #[.pointer (some ⟨g, 0, none⟩)] W (GiveS W lh)) := Lib.hid fun W hW => by rw [hlh]; exact shold _ _ _ W (Lib.hid (S1.out.far hW))
      have HK : Hid (∀ wa wb, (Below wE.heap.size wE wa ∧ wa.cell? ⟨g', 1, none⟩ = some (.slice A1 n1 c1) ∧ wa.cell? ⟨g', 2, none⟩ = some (.slice A2 n2 c2)) → Below wa.heap.size wa wb → Below wE.heap.size wE wb ∧ wb.cell? ⟨g', 1, none⟩ = some (.slice A1 n1 c1) ∧ wb.cell? ⟨g', 2, none⟩ = some (.slice A2 n2 c2)) := Lib.hid fun wa wb ⟨h1, h2, h3⟩ hb => ⟨bfar h1 hb, (hb.cell (World.block_lt_of_cell? wa _ h2)).trans h2, (hb.cell (World.block_lt_of_cell? wa _ h3)).trans h3⟩
      have HK0 : Hid (Below wE.heap.size wE wE.drew ∧ wE.drew.cell? ⟨g', 1, none⟩ = some (.slice A1 n1 c1) ∧ wE.drew.cell? ⟨g', 2, none⟩ = some (.slice A2 n2 c2)) := Lib.hid ⟨(Below.refl _ _).drew, f1, f2⟩
      clear hlp hlh HO HNIL HEX HLN HE hwE s1 s2 S1 f1 f2
      go_upto_region 25 with fail
      go_region_held3 (fun W => Below wE.heap.size wE W ∧ W.cell? ⟨g', 1, none⟩ = some (.slice A1 n1 c1) ∧ W.cell? ⟨g', 2, none⟩ = some (.slice A2 n2 c2)) (first | exact HK0.out | exact HK.out _ _ (by assumption) (by assumption)) (first
        | (go_at_call 9; refine (HPS.out _ (And.left (by assumption))).mono ?_; rintro e wp ⟨Ap, np, cp, rfl, kp1, kp2, HNp, HOp, HBp⟩; have hbp := HBp.out)
        | (go_at_call 10; refine (HHS.out _ (And.left (by assumption))).mono ?_; rintro e wh ⟨Ah, nh, ch, rfl, kh1, kh2, HNh, HOh, HBh⟩; have hbh := HBh.out)
        | (go_at_call 13; refine (eqG Ah A2 nh n2 ch c2 lh wh _ _ HNh HN2 (Lib.hid HOh.out.above.2) (Lib.hid (HF.out wh (And.left (by assumption))).2)).mono ?_; rintro e wf ⟨rfl, hbf⟩)
        | (go_at_call 13; refine (eqG Ap A1 np n1 cp c1 lp wp _ _ HNp HN1 (Lib.hid HOp.out.above.2) (Lib.hid (HF.out wp (And.left (by assumption))).1)).mono ?_; rintro e we ⟨rfl, hbe⟩))
      all_goals go_wp2_with fail
      all_goals go_ret
      all_goals exact ⟨rfl, bfar HWE.out (And.left (by assumption))⟩
end Go.Proofs.YtejjmjbkpodolaaDoor
