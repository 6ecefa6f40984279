/- Texts that lead to the claim, one behind the other: append onto a row of the call's own, and which cells stay: all but those behind the row's end in its own block. No program in sight. No conditions. | Rows of memory that are written full of marks, grown, and read: what the look at shared memory needs of append. No program in sight. No conditions. -/
import Derived.Test.YtncpeogkccjmcaaGreatDoorTK2
import Derived.Test.YtncpeogkccjmcaaGreatDoorTK20
namespace Go.Proofs.YtncpeogkccjmcaaGreatDoor
open Go.RowKit Go.ChangeShapes Go.WideShapes Go.Deep

section
variable {α : Type} {P : Program} (w : World)
/-- Which cells stay. -/
def Stays (v : Value) (k : Nat) (w w' : World) : Prop := ∀ b o, b < w.heap.size → (some b = v.ownBlock → o < k) → w'.cell? ⟨b, o, none⟩ = w.cell? ⟨b, o, none⟩
theorem append_stays (base : Nat) (t ty e : TypeId) (i : TypeInfo) (z : Value) (size bytes : Nat) (ht : P.underlying t = some (.slice e)) (hi : P.info? e = some i) (hz : i.zero = some z) (hsize : i.size = size) (hby : i.bytes = bytes)
    (v : Value) (n : Nat) (xs : List Value) (hown : w.ownsRow base e size v n xs) (a : Addr) (m c : Nat) (news : List Value) (hl : news.length = m * size) (hnews : ∀ j u, news[j]? = some u → w.cell? (a.add j) = some u) (h1 : ∀ u ∈ news, u.oneCell' = true)
    (hm : 0 < m) (h63 : n + m ≤ maxLen) (hbytes : (n + m) * bytes ≤ 140737488355328) (v' : Value) (w' : World) (hrun : (Builtin.append_ #[t, t] ty #[v, .slice (some a) m c]).run P w = .ok v' w') : Stays v (n * size) w w' := by
  subst hsize
  subst hby
  have hsmall : n + m ≤ 9223372036854775807 := by simp only [maxLen] at h63; omega
  have hnew : ∀ (o : Obj) (b k : Nat), b < w.heap.size → (w.drew.alloc o).cell? ⟨b, k, none⟩ = w.cell? ⟨b, k, none⟩ := fun o b k hb =>
    World.cell?_of_block (w' := w.drew.alloc o) (w := w) (a := ⟨b, k, none⟩) (heap_alloc_old w.drew _ b hb)
  rcases hown.2 with ⟨rfl, rfl⟩ | ⟨g, cap, cur, rfl, hbg, hg, hnc, hcm, hcs, htake⟩
  · have hr := run_append_nil (P := P) w t ty e i z ht hi hz a m c news hl hnews hm (by omega) (by have hb := hbytes; simp only [Nat.zero_add] at hb; omega)
    rw [hr] at hrun
    injection hrun with _ hw
    subst hw
    exact fun b o hb _ => hnew _ b o hb
  · by_cases hroom : n + m ≤ cap
    · have hfit : n * i.size + news.length ≤ cur.size := by rw [hl, hcs, ← Nat.add_mul]; exact Nat.mul_le_mul_right _ hroom
      have hr := run_append_room (P := P) w t ty e i ht hi g n cap cur hg a m c news hl hnews h1 hroom hfit
      rw [hr] at hrun
      injection hrun with _ hw
      subst hw
      intro b o hb hbo
      by_cases hbg : b = g
      · subst hbg
        have ho := hbo rfl
        rw [cell_of_row _ _ _ _ e _ (setRow_heap w b cur _ e _ hg), cell_of_row w b o cur e (0, 0) hg, ← Array.getElem?_toList, ← Array.getElem?_toList]
        simp only [List.append_assoc]
        rw [List.getElem?_append_left (by rw [List.length_take, Array.length_toList]; omega), List.getElem?_take, if_pos ho]
      · exact World.cell?_of_block (setRow_other w g b _ hbg)
    · have holds : ∀ j u, xs[j]? = some u → w.cell? ((⟨g, 0, none⟩ : Addr).add j) = some u := hown.cells (g := g) rfl
      have hr := run_append_grow (P := P) w t ty e i z ht hi hz ⟨g, 0, none⟩ n cap xs hown.1 holds a m c news hl hnews (by omega) (by omega) (growslice_fits (by omega) hbytes)
      rw [hr] at hrun
      injection hrun with _ hw
      subst hw
      exact fun b o hb _ => hnew _ b o hb
/-- append of some elements that lie somewhere, onto what is owned. -/
theorem run_append_OwnFr (r : Rep α) (base : Nat) (t ty e : TypeId) (bytes : Nat) (hT : SliceType P t e r.n bytes) (v : Value) (l : List α) (hown : Own r e w base nob v l)
    (S2 : Blocks) (A : Option Addr) (c : Nat) (m : List α) (hm : SliceAt r w S2 A c m) (h0 : 0 < m.length)
    (hflat : ∀ cs x, r.is w S2 cs x → r.is w nob cs x) (hbytes : (l.length + m.length) * bytes ≤ 140737488355328) (hlen : l.length + m.length ≤ 9223372036854775807) (hbase : base ≤ w.heap.size) :
    ∃ v' w', (Builtin.append_ #[t, t] ty #[v, .slice A m.length c]).run P w = .ok v' w' ∧ Own r e w' base nob v' (l ++ m) ∧ w.grownBy w' v.ownBlock ∧ (v'.ownBlock = v.ownBlock ∨ v'.ownBlock = some w.heap.size) ∧ Stays v (l.length * r.n) w w' := by
  obtain ⟨v', w', hrun, h2, h3, h4⟩ := run_append_Own (P := P) w r base t ty e bytes hT nob v l hown S2 A c m hm nob (fun _ h => h.elim) (fun _ h => h) hflat hbytes hlen hbase
  refine ⟨v', w', hrun, h2, h3, h4, ?_⟩
  obtain ⟨ht, ⟨i, z, hi, hz, hsize, hby, hzs⟩, hpos⟩ := hT
  obtain ⟨xs, ho, hS, h1, hr⟩ := hown
  obtain ⟨ys, hyl, hy1, hya, hyr⟩ := hm.flat
  obtain ⟨g, o, rfl, hg2, hc⟩ := hya h0
  exact append_stays (P := P) w base t ty e i z r.n bytes ht hi hz hsize hby v l.length xs ho ⟨g, o, none⟩ m.length c ys hyl (fun j u hj => by rw [add_plain]; exact hc j u hj) hy1 h0 (by simp only [maxLen]; omega) hbytes v' w' hrun
theorem wpList_append_OwnFr {ops : Array Oper} {rest : List Oper} {o : Oper} {a : Act} {Q : Exit → Act → World → Prop} (hgd : o.guard = none) (s x : Operand) (t : TypeId)
    (ho : o.op = .call { callee := .builtin .append, args := #[s, x], argTypes := #[t, t] })
    (r : Rep α) (base : Nat) (e : TypeId) (bytes : Nat) (hT : SliceType P t e r.n bytes) (v : Value) (l : List α) (hs : a.eval s = v) (hown : Own r e w base nob v l)
    (S2 : Blocks) (A : Option Addr) (c : Nat) (m : List α) (hx : a.eval x = .slice A m.length c) (hm : SliceAt r w S2 A c m) (h0 : 0 < m.length)
    (hflat : ∀ cs x, r.is w S2 cs x → r.is w nob cs x) (hbytes : (l.length + m.length) * bytes ≤ 140737488355328) (hlen : l.length + m.length ≤ 9223372036854775807) (hbase : base ≤ w.heap.size)
    (h : ∀ v' w', Own r e w' base nob v' (l ++ m) → w.grownBy w' v.ownBlock → (v'.ownBlock = v.ownBlock ∨ v'.ownBlock = some w.heap.size) → Stays v (l.length * r.n) w w' → wpList P ops Q rest (a.put o.dst v') w') : wpList P ops Q (o :: rest) a w := by
  refine wpList_plain hgd fun K hK => ?_
  obtain ⟨v', w', hrun, h2, h3, h4, h5⟩ := run_append_OwnFr (P := P) w r base t o.type e bytes hT v l hown S2 A c m hm h0 hflat hbytes hlen hbase
  unfold Oper.wp execOp
  simp only [ho, resolve, invoke, builtin, Sem.run_bind, Sem.run_pure, Result.andThen_ok, List.map_toArray, List.map_cons, List.map_nil, hs, hx, hrun]
  exact hK _ _ (h v' w' h2 h3 h4 h5)
end
end Go.Proofs.YtncpeogkccjmcaaGreatDoor
namespace Go.Proofs.YtncpeogkccjmcaaGreatDoor
open Go.RowKit Go.ChangeShapes Go.WideShapes Go.Deep

/-- Whatever cells an element has. -/
def Rep.raw (k : Nat) : Rep (List Value) where
  n := k
  is := fun _ _ cs x => cs = x ∧ x.length = k ∧ ∀ u ∈ x, u.oneCell' = true
  size := by rintro _ _ _ _ ⟨rfl, h, _⟩; exact h
  keep := by rintro _ _ _ _ _ _ ⟨rfl, h⟩ _ _; exact ⟨rfl, h⟩
  one := by rintro _ _ _ _ ⟨rfl, _, h⟩; exact h
theorem Own.raw {α : Type} {r : Rep α} {e : TypeId} {w : World} {base : Nat} {S : Blocks} {v : Value} {l : List α} (h : Own r e w base S v l) : ∃ L : List (List Value), L.length = l.length ∧ Own (Rep.raw r.n) e w base nob v L := by
  obtain ⟨xs, hx, hS, h1, hr⟩ := h
  refine ⟨(List.range l.length).map fun i => (xs.drop (i * r.n)).take r.n, by simp, xs, by simpa [Rep.raw] using hx, fun _ h => h.elim, h1, fun i hi => ?_⟩
  simp only [List.length_map, List.length_range] at hi
  rw [List.getElem_map, List.getElem_range]
  refine ⟨rfl, r.size (hr i hi), fun u hu => ?_⟩
  exact r.one (hr i hi) u hu
section
variable (mk : Nat → Nat → List Value)
def marks (n k : Nat) : List (List Value) := (List.range k).map (mk n)
theorem marks_len (n k : Nat) : (marks mk n k).length = k := by simp [marks]
theorem marks_succ (n k : Nat) : marks mk n (k + 1) = marks mk n k ++ [mk n k] := by simp [marks, List.range_succ]
theorem marks_get (n k i : Nat) (h : i < (marks mk n k).length) : (marks mk n k)[i] = mk n i := by simp [marks]
end
/-- A block's cells from a place on stay, and all other cells. -/
theorem SliceAt.stays {α : Type} {r : Rep α} {S : Blocks} {A : Option Addr} {c k : Nat} {l : List α} {v : Value} {w w' : World} (h : SliceAt r w S A c l) (hA : ∀ a, A = some a → a.off = 0) (hs : Stays v k w w') (hk : l.length * r.n ≤ k) (hS : ∀ b, S b → b < w.heap.size)
    (hr : ∀ cs x, r.is w S cs x → r.is w' S cs x) : SliceAt r w' S A c l := by
  obtain ⟨h1, h2, h3, h4⟩ := h
  refine ⟨h1, h2, h3, fun i hi => ?_⟩
  obtain ⟨g, o, cs, e, hb, hc, hx⟩ := h4 i hi
  have h0 : o = 0 := hA _ e
  subst h0
  have hz := r.size hx
  have hle : i * r.n + r.n ≤ l.length * r.n := by rw [← Nat.succ_mul]; exact Nat.mul_le_mul_right _ hi
  refine ⟨g, 0, cs, e, hb, fun j u hj => ?_, hr _ _ hx⟩
  have hjl : j < cs.length := (List.getElem?_eq_some_iff.1 hj).1
  rw [hs g _ (hS g hb) (fun _ => by omega)]
  exact hc j u hj
/-- A slice's value reads as a list; it begins at a block's head. -/
def Rd {α : Type} (r : Rep α) (w : World) (S : Blocks) (v : Value) (l : List α) : Prop := ∃ A c, v = .slice A l.length c ∧ (∀ a, A = some a → a.off = 0) ∧ SliceAt r w S A c l
theorem Rd.keep {α : Type} {r : Rep α} {w w' : World} {S S' : Blocks} {v : Value} {l : List α} (h : Rd r w S v l) (hS : ∀ b, S b → S' b) (hk : Same S w w') : Rd r w' S' v l := by
  obtain ⟨A, c, e, h0, hs⟩ := h
  exact ⟨A, c, e, h0, hs.keep hS hk⟩
theorem Own.rd {α : Type} {r : Rep α} {e : TypeId} {w : World} {base : Nat} {v : Value} {l : List α} (h : Own r e w base nob v l) : Rd r w (fun b => b < w.heap.size ∧ some b = v.ownBlock) v l := by
  have hx := h
  obtain ⟨A, c, rfl, hs⟩ := h.slice
  refine ⟨A, c, rfl, ?_, hs.up fun b hb => ?_⟩
  · obtain ⟨xs, ho, _⟩ := hx
    rcases ho.2 with ⟨h1, _⟩ | ⟨g, cap, cur, h1, _⟩
    · simp only [Value.slice.injEq] at h1
      obtain ⟨rfl, _⟩ := h1
      intro a h; cases h
    · simp only [Value.slice.injEq] at h1
      obtain ⟨rfl, _⟩ := h1
      intro a h; cases h; rfl
  · rcases hb with ⟨_, h1, h2⟩ | h
    · exact ⟨h1, h2⟩
    · exact h.elim
theorem Rd.stays {k k' : Nat} {w w' : World} {v v' : Value} {l : List (List Value)} (h : Rd (Rep.raw k) w (under w.heap.size) v' l) (hs : Stays v k' w w') (hk : l.length * k ≤ k') (hz : w.heap.size ≤ w'.heap.size) : Rd (Rep.raw k) w' (under w'.heap.size) v' l := by
  obtain ⟨A, c, e, h0, h1⟩ := h
  exact ⟨A, c, e, h0, (h1.stays h0 hs hk (fun _ h => h) fun _ _ h => h).up fun b hb => Nat.lt_of_lt_of_le hb hz⟩
/-- Slice values as elements. -/
abbrev Rep.val : Rep (List Value) := Rep.raw 1

section
variable (k : Nat) (e eS : TypeId) (base N : Nat) (vs : Nat → Value) (ks : Nat → Nat) (mk : Nat → Nat → List Value)
/-- The rows' own blocks. -/
def RowB : Blocks := fun b => ∃ m, m < N ∧ (vs m).ownBlock = some b
structure Rows0 (w : World) : Prop where
  own : ∀ m, m < N → ∃ l, l.length = ks m ∧ Own (Rep.raw k) e w base nob (vs m) l
  dist : ∀ m m', m < N → m' < N → m ≠ m' → ∀ b, (vs m).ownBlock = some b → (vs m').ownBlock ≠ some b
/-- Rows written full one by one. -/
def Ph1 (n i : Nat) (wr : World) : Prop := ∀ m, m < N → ∃ l, l.length = ks m ∧ Own (Rep.raw k) e wr base nob (vs m) l ∧ (m < n → l = marks mk m (ks m)) ∧ (m = n → l.take i = marks mk n i)
variable {k e eS base N vs ks mk}
theorem Ph1.start {w : World} (h : Rows0 k e base N vs ks w) : Ph1 k e base N vs ks mk 0 0 w := fun m hm => by
  obtain ⟨l, h1, h2⟩ := h.own m hm
  exact ⟨l, h1, h2, fun h => absurd h (by omega), fun _ => by simp [marks]⟩
theorem Ph1.step {n i : Nat} {w wr w' : World} (h0 : Rows0 k e base N vs ks w) (h : Ph1 k e base N vs ks mk n i wr) (hn : n < N) (hi : i < ks n) (hg : wr.grownBy w' (vs n).ownBlock)
    (hs : ∀ l, l.length = ks n → Own (Rep.raw k) e wr base nob (vs n) l → Own (Rep.raw k) e w' base nob (vs n) (l.set i (mk n i))) : Ph1 k e base N vs ks mk n (i + 1) w' := fun m hm => by
  obtain ⟨l, h1, h2, h3, h4⟩ := h m hm
  by_cases hmn : m = n
  · subst hmn
    refine ⟨l.set i (mk m i), by simpa using h1, hs l h1 h2, fun h => absurd h (by omega), fun _ => ?_⟩
    have hil : i < l.length := by omega
    rw [List.take_succ_eq_append_getElem (by simpa using hil), List.take_set_of_le (Nat.le_refl _), h4 rfl, List.getElem_set_self, marks_succ]
  · refine ⟨l, h1, h2.mono hg ?_ (fun _ h => h.elim), h3, fun h => absurd h hmn⟩
    cases hv : (vs m).ownBlock with
    | none => exact .inl rfl
    | some b => exact .inr fun h => h0.dist m n hm hn hmn b hv h.symm
theorem Ph1.next {n i : Nat} {wr : World} (h : Ph1 k e base N vs ks mk n i wr) (hi : ks n ≤ i) : Ph1 k e base N vs ks mk (n + 1) 0 wr := fun m hm => by
  obtain ⟨l, h1, h2, h3, h4⟩ := h m hm
  refine ⟨l, h1, h2, fun hmn => ?_, fun _ => by simp [marks]⟩
  rcases Nat.lt_or_ge m n with h | h
  · exact h3 h
  · obtain rfl : m = n := by omega
    have := h4 rfl
    rw [List.take_of_length_le (by omega)] at this
    have e1 : i = ks m ∨ ks m < i := by omega
    rcases e1 with e1 | e1
    · rw [this, e1]
    · have := congrArg List.length this
      rw [marks_len] at this
      omega
theorem Ph1.all {i : Nat} {wr : World} (h : Ph1 k e base N vs ks mk N i wr) : ∀ m, m < N → Own (Rep.raw k) e wr base nob (vs m) (marks mk m (ks m)) := fun m hm => by
  obtain ⟨l, h1, h2, h3, h4⟩ := h m hm
  rw [← h3 hm]; exact h2
/-! ### Rows grown one by one -/
/-- Blocks of neither list, nor of a row that is still to come. -/
def Not2 (N n : Nat) (vs : Nat → Value) (v1 v2 : Value) (b : Nat) : Prop := v1.ownBlock ≠ some b ∧ v2.ownBlock ≠ some b ∧ ∀ m, n ≤ m → m < N → (vs m).ownBlock ≠ some b
/-- A row that has been grown. -/
structure Done (k : Nat) (vs : Nat → Value) (ks : Nat → Nat) (mk : Nat → Nat → List Value) (wr : World) (U : Blocks) (L1 L2 : List (List Value)) (m : Nat) : Prop where
  bs : Rd (Rep.raw k) wr U (vs m) (marks mk m (ks m))
  one : ∃ o, L1[m]? = some [o] ∧ Rd (Rep.raw k) wr U o (marks mk m (ks m + 1))
  more : ∃ o, L2[m]? = some [o] ∧ Rd (Rep.raw k) wr U o (marks mk m (ks m + 70))
/-- What holds of all rows but the one at hand (rows below lo are done; rows from n on are to come). -/
structure Ph2 (k : Nat) (e eS : TypeId) (base N : Nat) (vs : Nat → Value) (ks : Nat → Nat) (mk : Nat → Nat → List Value) (w0 wr : World) (lo n : Nat) (v1 v2 : Value) (U : Blocks) (L1 L2 : List (List Value)) : Prop where
  only : Only (RowB N vs) w0 wr
  uu : ∀ b, U b → b < wr.heap.size ∧ Not2 N lo vs v1 v2 b
  rest : ∀ m, n ≤ m → m < N → Own (Rep.raw k) e wr base nob (vs m) (marks mk m (ks m))
  done : ∀ m, m < lo → Done k vs ks mk wr U L1 L2 m
  o1 : Own Rep.val eS wr w0.heap.size nob v1 L1
  o2 : Own Rep.val eS wr w0.heap.size nob v2 L2
  ne : ∀ b, v1.ownBlock = some b → v2.ownBlock ≠ some b
section
variable {f : Bool} {lo n i : Nat} {w0 wr w' : World} {v v' v1 v2 : Value} {U : Blocks} {L1 L2 : List (List Value)}
theorem RowB.lt (h0 : Rows0 k e base N vs ks w0) {m : Nat} (hm : m < N) {b : Nat} (hb : (vs m).ownBlock = some b) : b < w0.heap.size := by
  obtain ⟨l, h1, h2⟩ := h0.own m hm
  exact (h2.block_lt hb).2
theorem Done.keep {S : Blocks} {m : Nat} {wr w' : World} (h : Done k vs ks mk wr U L1 L2 m) (hS : ∀ b, U b → S b) (hk : Same U wr w') {M1 M2 : List (List Value)} (e1 : ∀ x, L1[m]? = some x → M1[m]? = some x) (e2 : ∀ x, L2[m]? = some x → M2[m]? = some x) : Done k vs ks mk w' S M1 M2 m := by
  obtain ⟨h1, ⟨o, h2, h3⟩, o', h4, h5⟩ := h
  exact ⟨h1.keep hS hk, ⟨o, e1 _ h2, h3.keep hS hk⟩, o', e2 _ h4, h5.keep hS hk⟩
theorem Ph2.start (ho : Only (RowB N vs) w0 wr) (h : ∀ m, m < N → Own (Rep.raw k) e wr base nob (vs m) (marks mk m (ks m))) : Ph2 k e eS base N vs ks mk w0 wr 0 0 (.slice none 0 0) (.slice none 0 0) nob [] [] :=
  ⟨ho, fun _ h => h.elim, fun m _ hm => h m hm, fun _ h => absurd h (by omega), Own.nil _ _ _ _, Own.nil _ _ _ _, fun b h => by simp [Value.ownBlock] at h⟩
/-- .. while a block of none of theirs turns. -/
theorem Ph2.turn (h : Ph2 k e eS base N vs ks mk w0 wr lo n v1 v2 U L1 L2) (hg : wr.grownBy w' v.ownBlock) (hF : ∀ b, v.ownBlock = some b → RowB N vs b ∨ w0.heap.size ≤ b) (hU : ∀ b, v.ownBlock = some b → ¬ U b) (hn : ∀ b, v.ownBlock = some b → Not2 N n vs v1 v2 b) : Ph2 k e eS base N vs ks mk w0 w' lo n v1 v2 U L1 L2 := by
  have hs : Same U wr w' := fun b hb => hg.block b (h.uu b hb).1 fun e => hU b e.symm hb
  have hm : ∀ {α : Type} {r : Rep α} {e : TypeId} {base : Nat} {v3 : Value} {l : List α}, Own r e wr base nob v3 l → (∀ b, v.ownBlock = some b → v3.ownBlock ≠ some b) → Own r e w' base nob v3 l := fun h3 hne => h3.mono hg (by
    cases h4 : Value.ownBlock ‹_› with
    | none => exact .inl rfl
    | some b => exact .inr fun e => hne b e.symm h4) fun _ h => h.elim
  exact ⟨h.only.grown hg fun b hb => hF b hb.symm, fun b hb => ⟨Nat.lt_of_lt_of_le (h.uu b hb).1 hg.size, (h.uu b hb).2⟩, fun m hm1 hm2 => hm (h.rest m hm1 hm2) fun b hb => (hn b hb).2.2 m hm1 hm2, fun m hm1 => (h.done m hm1).keep (fun _ h => h) hs (fun _ h => h) (fun _ h => h), hm h.o1 fun b hb => (hn b hb).1, hm h.o2 fun b hb => (hn b hb).2.1, h.ne⟩
theorem Ph2.alloc (h : Ph2 k e eS base N vs ks mk w0 wr lo n v1 v2 U L1 L2) (o : Obj) : Ph2 k e eS base N vs ks mk w0 (wr.alloc o) lo n v1 v2 U L1 L2 :=
  h.turn (v := .slice none 0 0) (World.grownBy_alloc wr o _) (fun b h => by simp [Value.ownBlock] at h) (fun b h => by simp [Value.ownBlock] at h) (fun b h => by simp [Value.ownBlock] at h)
/-- The row at hand: so long; has its first growth been put by? -/
structure In2 (k : Nat) (e eS : TypeId) (base N : Nat) (vs : Nat → Value) (ks : Nat → Nat) (mk : Nat → Nat → List Value) (w0 wr : World) (n i : Nat) (f : Bool) (v v1 v2 : Value) (U : Blocks) (L1 L2 : List (List Value)) : Prop where
  p : Ph2 k e eS base N vs ks mk w0 wr n (n + 1) v1 v2 U L1 L2
  l1 : L1.length = n + (if f then 1 else 0)
  l2 : L2.length = n
  cur : Own (Rep.raw k) e wr base nob v (marks mk n i)
  cF : ∀ b, v.ownBlock = some b → RowB N vs b ∨ w0.heap.size ≤ b
  cU : ∀ b, v.ownBlock = some b → ¬ U b ∧ Not2 N (n + 1) vs v1 v2 b
  bs : Rd (Rep.raw k) wr (fun b => b < wr.heap.size ∧ Not2 N (n + 1) vs v1 v2 b) (vs n) (marks mk n (ks n))
  on : f = true → ∃ o, L1[n]? = some [o] ∧ Rd (Rep.raw k) wr (fun b => b < wr.heap.size ∧ Not2 N (n + 1) vs v1 v2 b) o (marks mk n (ks n + 1))
theorem In2.start (h0 : Rows0 k e base N vs ks w0) (h : Ph2 k e eS base N vs ks mk w0 wr n n v1 v2 U L1 L2) (hn : n < N) (h1 : L1.length = n) (h2 : L2.length = n) : In2 k e eS base N vs ks mk w0 wr n (ks n) false (vs n) v1 v2 U L1 L2 := by
  have hown := h.rest n (Nat.le_refl _) hn
  have hb0 : ∀ b, (vs n).ownBlock = some b → Not2 N (n + 1) vs v1 v2 b := fun b hb => ⟨fun e => by
      have := (h.o1.block_lt e).1; have := RowB.lt h0 hn hb; omega, fun e => by
      have := (h.o2.block_lt e).1; have := RowB.lt h0 hn hb; omega, fun m hm1 hm2 => h0.dist n m hn hm2 (by omega) b hb⟩
  refine ⟨⟨h.only, h.uu, fun m hm1 hm2 => h.rest m (by omega) hm2, h.done, h.o1, h.o2, h.ne⟩, by simpa using h1, h2, hown, fun b hb => .inl ⟨n, hn, hb⟩, fun b hb => ⟨fun hU => (h.uu b hU).2.2.2 n (Nat.le_refl _) hn hb, hb0 b hb⟩, ?_, fun h => by cases h⟩
  exact hown.rd.keep (fun b hb => ⟨hb.1, hb0 b hb.2.symm⟩) (Same.refl _ _)
theorem In2.alloc (h : In2 k e eS base N vs ks mk w0 wr n i f v v1 v2 U L1 L2) (o : Obj) : In2 k e eS base N vs ks mk w0 (wr.alloc o) n i f v v1 v2 U L1 L2 := by
  have hs : Same (fun b => b < wr.heap.size ∧ Not2 N (n + 1) vs v1 v2 b) wr (wr.alloc o) := fun b hb => heap_alloc_old wr o b hb.1
  have hS : ∀ b, (b < wr.heap.size ∧ Not2 N (n + 1) vs v1 v2 b) → b < (wr.alloc o).heap.size ∧ Not2 N (n + 1) vs v1 v2 b := fun b hb => ⟨by have := hb.1; simp; omega, hb.2⟩
  exact ⟨h.p.alloc o, h.l1, h.l2, h.cur.alloc o, h.cF, h.cU, h.bs.keep hS hs, fun hf => by
    obtain ⟨x, h1, h2⟩ := h.on hf
    exact ⟨x, h1, h2.keep hS hs⟩⟩
theorem Rd.stays' {k k' : Nat} {w w' : World} {v v' : Value} {S S' : Blocks} {l : List (List Value)} (h : Rd (Rep.raw k) w S v' l) (hs : Stays v k' w w') (hk : l.length * k ≤ k') (hS : ∀ b, S b → b < w.heap.size) (hS' : ∀ b, S b → S' b) : Rd (Rep.raw k) w' S' v' l := by
  obtain ⟨A, c, e, h0, h1⟩ := h
  exact ⟨A, c, e, h0, (h1.stays h0 hs hk hS fun _ _ h => h).up hS'⟩
/-- .. it grows by one. -/
theorem In2.grow (h0 : Rows0 k e base N vs ks w0) (h : In2 k e eS base N vs ks mk w0 wr n i f v v1 v2 U L1 L2) (hki : ks n ≤ i) (hf : f = true → ks n + 1 ≤ i) (hown : Own (Rep.raw k) e w' base nob v' (marks mk n i ++ [mk n i])) (hg : wr.grownBy w' v.ownBlock)
    (hat : v'.ownBlock = v.ownBlock ∨ v'.ownBlock = some wr.heap.size) (hst : Stays v ((marks mk n i).length * (Rep.raw k).n) wr w') : In2 k e eS base N vs ks mk w0 w' n (i + 1) f v' v1 v2 U L1 L2 := by
  have hS : ∀ b, (b < wr.heap.size ∧ Not2 N (n + 1) vs v1 v2 b) → b < w'.heap.size ∧ Not2 N (n + 1) vs v1 v2 b := fun b hb => ⟨Nat.lt_of_lt_of_le hb.1 hg.size, hb.2⟩
  have hlen : ∀ j, j ≤ i → (marks mk n j).length * k ≤ (marks mk n i).length * (Rep.raw k).n := fun j hj => by
    rw [marks_len, marks_len]; exact Nat.mul_le_mul_right _ hj
  have hnew : Not2 N (n + 1) vs v1 v2 wr.heap.size := ⟨fun e => by have := (h.p.o1.block_lt e).2; omega, fun e => by have := (h.p.o2.block_lt e).2; omega, fun m _ hm e => by have := RowB.lt h0 hm e; have := h.p.only.size; omega⟩
  refine ⟨h.p.turn hg h.cF (fun b hb => (h.cU b hb).1) (fun b hb => (h.cU b hb).2), h.l1, h.l2, by rw [marks_succ]; exact hown, fun b hb => ?_, fun b hb => ?_, h.bs.stays' hst (hlen _ hki) (fun _ h => h.1) hS, fun hf' => ?_⟩
  · rcases hat with e | e <;> rw [e] at hb
    · exact h.cF b hb
    · simp only [Option.some.injEq] at hb; exact .inr (by have := h.p.only.size; omega)
  · rcases hat with e | e <;> rw [e] at hb
    · exact h.cU b hb
    · simp only [Option.some.injEq] at hb
      subst hb
      exact ⟨fun hU => by have := (h.p.uu _ hU).1; omega, hnew⟩
  · obtain ⟨x, h1, h2⟩ := h.on hf'
    exact ⟨x, h1, h2.stays' hst (hlen _ (hf hf')) (fun _ h => h.1) hS⟩
/-- .. its first growth is put by. -/
theorem In2.put1 (h0 : Rows0 k e base N vs ks w0) (h : In2 k e eS base N vs ks mk w0 wr n (ks n + 1) false v v1 v2 U L1 L2) (hown : Own Rep.val eS w' w0.heap.size nob v' (L1 ++ [[v]])) (hg : wr.grownBy w' v1.ownBlock)
    (hat : v'.ownBlock = v1.ownBlock ∨ v'.ownBlock = some wr.heap.size) : In2 k e eS base N vs ks mk w0 w' n (ks n + 1) true v v' v2 U (L1 ++ [[v]]) L2 := by
  have hl1 : L1.length = n := by simpa using h.l1
  have hN : ∀ {lo : Nat} b, Not2 N lo vs v1 v2 b → b < wr.heap.size → Not2 N lo vs v' v2 b := fun b hb hlt => ⟨by
    rcases hat with e | e <;> rw [e]
    · exact hb.1
    · simp only [ne_eq, Option.some.injEq]; omega, hb.2.1, hb.2.2⟩
  have hm : ∀ {α : Type} {r : Rep α} {e : TypeId} {base : Nat} {v3 : Value} {l : List α}, Own r e wr base nob v3 l → (∀ b, v3.ownBlock = some b → v1.ownBlock ≠ some b) → Own r e w' base nob v3 l := fun h3 hne => h3.mono hg (by
    cases h4 : Value.ownBlock ‹_› with
    | none => exact .inl rfl
    | some b => exact .inr fun e => hne b h4 e.symm) fun _ h => h.elim
  have hs : ∀ S : Blocks, (∀ b, S b → b < wr.heap.size ∧ v1.ownBlock ≠ some b) → Same S wr w' := fun S hS b hb => hg.block b (hS b hb).1 fun e => (hS b hb).2 e.symm
  have hC : Same (fun b => b < wr.heap.size ∧ Not2 N (n + 1) vs v1 v2 b) wr w' := hs _ fun b hb => ⟨hb.1, hb.2.1⟩
  have hCS : ∀ b, (b < wr.heap.size ∧ Not2 N (n + 1) vs v1 v2 b) → b < w'.heap.size ∧ Not2 N (n + 1) vs v' v2 b := fun b hb => ⟨Nat.lt_of_lt_of_le hb.1 hg.size, hN b hb.2 hb.1⟩
  refine ⟨⟨h.p.only.grown hg fun b hb => .inr (h.p.o1.block_lt hb.symm).1, fun b hb => ⟨Nat.lt_of_lt_of_le (h.p.uu b hb).1 hg.size, hN b (h.p.uu b hb).2 (h.p.uu b hb).1⟩, fun m hm1 hm2 => hm (h.p.rest m hm1 hm2) fun b hb e => by
      have := (h.p.o1.block_lt e).1; have := RowB.lt h0 hm2 hb; omega, fun m hm1 => (h.p.done m hm1).keep (fun _ h => h) (hs U fun b hb => ⟨(h.p.uu b hb).1, (h.p.uu b hb).2.1⟩) (fun x hx => by
      rw [List.getElem?_append_left (by omega)]; exact hx) (fun _ h => h), hown, hm h.p.o2 fun b hb e => h.p.ne b e hb, fun b hb e => ?_⟩, by simp [hl1], h.l2, hm h.cur fun b hb => (h.cU b hb).2.1, h.cF, fun b hb => ⟨(h.cU b hb).1, hN b (h.cU b hb).2 (h.cur.block_lt hb).2⟩, h.bs.keep hCS hC, fun _ => ⟨v, by rw [List.getElem?_append_right (by omega), hl1]; simp, ?_⟩⟩
  · rcases hat with e1 | e1 <;> rw [e1] at hb
    · exact h.p.ne b hb e
    · simp only [Option.some.injEq] at hb; have := (h.p.o2.block_lt e).2; omega
  · exact h.cur.rd.keep (fun b hb => hCS b ⟨hb.1, (h.cU b hb.2.symm).2⟩) (hs _ fun b hb => ⟨hb.1, (h.cU b hb.2.symm).2.1⟩)
/-- .. and the row is put by. -/
theorem In2.put2 (h0 : Rows0 k e base N vs ks w0) (h : In2 k e eS base N vs ks mk w0 wr n (ks n + 70) true v v1 v2 U L1 L2) (hown : Own Rep.val eS w' w0.heap.size nob v' (L2 ++ [[v]])) (hg : wr.grownBy w' v2.ownBlock)
    (hat : v'.ownBlock = v2.ownBlock ∨ v'.ownBlock = some wr.heap.size) : Ph2 k e eS base N vs ks mk w0 w' (n + 1) (n + 1) v1 v' (fun b => b < w'.heap.size ∧ Not2 N (n + 1) vs v1 v' b) L1 (L2 ++ [[v]]) := by
  have hl2 := h.l2
  have hN : ∀ {lo : Nat} b, Not2 N lo vs v1 v2 b → b < wr.heap.size → Not2 N lo vs v1 v' b := fun b hb hlt => ⟨hb.1, by
    rcases hat with e | e <;> rw [e]
    · exact hb.2.1
    · simp only [ne_eq, Option.some.injEq]; omega, hb.2.2⟩
  have hm : ∀ {α : Type} {r : Rep α} {e : TypeId} {base : Nat} {v3 : Value} {l : List α}, Own r e wr base nob v3 l → (∀ b, v3.ownBlock = some b → v2.ownBlock ≠ some b) → Own r e w' base nob v3 l := fun h3 hne => h3.mono hg (by
    cases h4 : Value.ownBlock ‹_› with
    | none => exact .inl rfl
    | some b => exact .inr fun e => hne b h4 e.symm) fun _ h => h.elim
  have hs : ∀ S : Blocks, (∀ b, S b → b < wr.heap.size ∧ v2.ownBlock ≠ some b) → Same S wr w' := fun S hS b hb => hg.block b (hS b hb).1 fun e => (hS b hb).2 e.symm
  have hC : Same (fun b => b < wr.heap.size ∧ Not2 N (n + 1) vs v1 v2 b) wr w' := hs _ fun b hb => ⟨hb.1, hb.2.2.1⟩
  have hCS : ∀ b, (b < wr.heap.size ∧ Not2 N (n + 1) vs v1 v2 b) → b < w'.heap.size ∧ Not2 N (n + 1) vs v1 v' b := fun b hb => ⟨Nat.lt_of_lt_of_le hb.1 hg.size, hN b hb.2 hb.1⟩
  have hUS : ∀ b, U b → b < w'.heap.size ∧ Not2 N (n + 1) vs v1 v' b := fun b hb => ⟨Nat.lt_of_lt_of_le (h.p.uu b hb).1 hg.size, by
    have h3 := hN b (h.p.uu b hb).2 (h.p.uu b hb).1
    exact ⟨h3.1, h3.2.1, fun m hm1 hm2 => h3.2.2 m (by omega) hm2⟩⟩
  refine ⟨h.p.only.grown hg fun b hb => .inr (h.p.o2.block_lt hb.symm).1, fun b hb => hb, fun m hm1 hm2 => hm (h.p.rest m hm1 hm2) fun b hb e => by
      have := (h.p.o2.block_lt e).1; have := RowB.lt h0 hm2 hb; omega, fun m hm1 => ?_, hm h.p.o1 fun b hb => h.p.ne b hb, hown, fun b hb e => ?_⟩
  · rcases Nat.lt_or_ge m n with h' | h'
    · exact (h.p.done m h').keep hUS (hs U fun b hb => ⟨(h.p.uu b hb).1, (h.p.uu b hb).2.2.1⟩) (fun _ h => h) (fun x hx => by
        rw [List.getElem?_append_left (by omega)]; exact hx)
    · obtain rfl : m = n := by omega
      obtain ⟨x, h1, h2⟩ := h.on rfl
      exact ⟨h.bs.keep hCS hC, ⟨x, h1, h2.keep hCS hC⟩, v, by rw [List.getElem?_append_right (by omega), hl2]; simp, h.cur.rd.keep (fun b hb => hCS b ⟨hb.1, (h.cU b hb.2.symm).2⟩) (hs _ fun b hb => ⟨hb.1, (h.cU b hb.2.symm).2.2.1⟩)⟩
  · rcases hat with e1 | e1 <;> rw [e1] at e
    · exact h.p.ne b hb e
    · simp only [Option.some.injEq] at e; have := (h.p.o1.block_lt hb).2; omega
end
end
/-! ### What a walk takes of them -/
theorem SliceAt.newOne {α : Type} (r : Rep α) (w : World) (e : TypeId) (cs : Array Value) (x : α) (q : Nat) (h : r.is w nob cs.toList x) (hq : q = w.heap.size) :
    SliceAt r (w.alloc (.cells cs e)) (fun b => b = w.heap.size ∨ nob b) (some ⟨q, 0, none⟩) 1 [x] := by
  subst hq; exact SliceAt.new1 r w e cs x nob h (fun _ h => h.elim)
theorem Own.set1 {e : TypeId} {w : World} {base g n c : Nat} {l : List (List Value)} (h : Own (Rep.raw 1) e w base nob (.slice (some ⟨g, 0, none⟩) n c) l) {i : Nat} (hi : i < l.length) {u : Value} (hu : u.oneCell' = true) : Own (Rep.raw 1) e (w.setCell ⟨g, i, none⟩ u) base nob (.slice (some ⟨g, 0, none⟩) n c) (l.set i [u]) := by
  have := h.setAt hi (zs := [u]) (x := [u]) ⟨rfl, rfl, by simpa using hu⟩
  rw [show i * (Rep.raw 1).n = i from Nat.mul_one i] at this
  exact this
/-- A cell of what reads as rows of one cell. -/
theorem Rd.cell1 {w : World} {S : Blocks} {v : Value} {l : List (List Value)} (h : Rd (Rep.raw 1) w S v l) {i : Nat} (hi : i < l.length) {x : Value} (hx : l[i] = [x]) : ∃ g c, v = .slice (some ⟨g, 0, none⟩) l.length c ∧ l.length ≤ c ∧ c ≤ 9223372036854775807 ∧ w.cell? ⟨g, i, none⟩ = some x := by
  obtain ⟨A, c, rfl, h0, hs⟩ := h
  obtain ⟨g, o, cs, rfl, -, hc, hr⟩ := hs.at_ hi
  obtain rfl : o = 0 := h0 _ rfl
  obtain ⟨rfl, -, -⟩ := hr
  rw [hx] at hc
  have := hc.one
  rw [show (Rep.raw 1).n = 1 from rfl, Nat.mul_one, Nat.zero_add] at this
  exact ⟨g, c, rfl, hs.len, hs.max, this⟩
/-- .. and of what is owned. -/
theorem Own.cell1 {e : TypeId} {w : World} {base : Nat} {v : Value} {l : List (List Value)} (h : Own (Rep.raw 1) e w base nob v l) {i : Nat} (hi : i < l.length) {x : Value} (hx : l[i]? = some [x]) : ∃ g c, v = .slice (some ⟨g, 0, none⟩) l.length c ∧ l.length ≤ c ∧ c ≤ 9223372036854775807 ∧ w.cell? ⟨g, i, none⟩ = some x :=
  h.rd.cell1 hi (by rw [List.getElem?_eq_getElem hi] at hx; simpa using hx)
/-- .. of any number of cells. -/
theorem Rd.cells {k : Nat} {w : World} {S : Blocks} {v : Value} {l : List (List Value)} (h : Rd (Rep.raw k) w S v l) {i : Nat} (hi : i < l.length) : ∃ g c, v = .slice (some ⟨g, 0, none⟩) l.length c ∧ l.length ≤ c ∧ c ≤ 9223372036854775807 ∧ CellsAt w g (i * k) l[i] := by
  obtain ⟨A, c, rfl, h0, hs⟩ := h
  obtain ⟨g, o, cs, rfl, -, hc, hr⟩ := hs.at_ hi
  obtain rfl : o = 0 := h0 _ rfl
  obtain ⟨rfl, -, -⟩ := hr
  rw [Nat.zero_add] at hc
  exact ⟨g, c, rfl, hs.len, hs.max, hc⟩
theorem Rd.form {α : Type} {r : Rep α} {w : World} {S : Blocks} {A : Option Addr} {n c : Nat} {l : List α} (h : Rd r w S (.slice A n c) l) : n = l.length ∧ n ≤ c ∧ c ≤ 9223372036854775807 := by
  obtain ⟨A', c', e, _, hs⟩ := h
  simp only [Value.slice.injEq] at e
  obtain ⟨rfl, rfl, rfl⟩ := e
  exact ⟨rfl, hs.len, hs.max⟩
theorem Rd.form' {α : Type} {r : Rep α} {w : World} {S : Blocks} {v : Value} {l : List α} (h : Rd r w S v l) {n : Nat} (hn : l.length = n) : ∃ A c, v = .slice A n c ∧ n ≤ c ∧ c ≤ 9223372036854775807 := by
  subst hn
  obtain ⟨A', c', rfl, _, hs⟩ := h
  exact ⟨A', c', rfl, hs.len, hs.max⟩
/-- A slice's parts. -/
abbrev Ent := Option Addr × Nat × Nat
def Ent.v (x : Ent) : Value := .slice x.1 x.2.1 x.2.2
def entA (es : List Ent) (m : Nat) : Option Addr := (es.getD m (none, 0, 0)).1
def entN (es : List Ent) (m : Nat) : Nat := (es.getD m (none, 0, 0)).2.1
def entC (es : List Ent) (m : Nat) : Nat := (es.getD m (none, 0, 0)).2.2
theorem ent_v (es : List Ent) {m : Nat} (h : m < es.length) : Value.slice (entA es m) (entN es m) (entC es m) = es[m].v := by
  simp [entA, entN, entC, Ent.v, List.getD_eq_getElem?_getD, h]
/-- Rows, each of the run's own, each in a block of its own. -/
theorem rows0_of {α : Type} {r : Rep α} {e : TypeId} {w : World} {base : Nat} {es : List Ent} (hown : ∀ x ∈ es, ∃ l : List α, Own r e w base nob (Ent.v x) l) (hd : es.Pairwise fun a b => ∀ q, (Ent.v a).ownBlock = some q → (Ent.v b).ownBlock ≠ some q) :
    Rows0 r.n e base es.length (fun m => .slice (entA es m) (entN es m) (entC es m)) (entN es) w := by
  refine ⟨fun m hm => ?_, fun m m' hm hm' hne b hb hb' => ?_⟩
  · obtain ⟨l, hl⟩ := hown es[m] (List.getElem_mem hm)
    obtain ⟨L, hL, ho⟩ := hl.raw
    refine ⟨L, ?_, by rw [ent_v es hm]; exact ho⟩
    obtain ⟨A, n, c, he, hn, -, -⟩ := ho.form
    rw [← ent_v es hm] at he
    simp only [Value.slice.injEq] at he
    rw [he.2.1, hn.out]
  · simp only [ent_v es hm, ent_v es hm'] at hb hb'
    rcases Nat.lt_or_ge m m' with h | h
    · exact List.pairwise_iff_getElem.1 hd m m' hm hm' h b hb hb'
    · exact List.pairwise_iff_getElem.1 hd m' m hm' hm (by omega) b hb' hb
end Go.Proofs.YtncpeogkccjmcaaGreatDoor
