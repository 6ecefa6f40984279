/- A bag of rows of any kinds: what it is, how it stays, and the look at shared memory, whatever kinds it holds (printed by gen/bagg.py). Conditions: rows of the run's own, each in a block of its own; room. -/
import Derived.Test.YtmjagjcaepbklaaDoorBag
namespace Go.Proofs.YtmjagjcaepbklaaDoor
open Go.RowKit

/-- The type of an element of a kind of rows, of a row, of the rows; how many cells an element has; the look at the kind. -/
def kE : Nat → TypeId
  | 0 => 5
  | 1 => 3
  | 2 => 4
  | 3 => 9
  | 4 => 95
  | 5 => 98
  | 6 => 101
  | 7 => 105
  | 8 => 109
  | 9 => 112
  | 10 => 115
  | 11 => 118
  | 12 => 38
  | 13 => 68
  | 14 => 90
  | 15 => 96
  | 16 => 123
  | 17 => 126
  | _ => 133
def kS : Nat → TypeId
  | 0 => 68
  | 1 => 90
  | 2 => 91
  | 3 => 22
  | 4 => 93
  | 5 => 96
  | 6 => 99
  | 7 => 102
  | 8 => 106
  | 9 => 110
  | 10 => 113
  | 11 => 116
  | 12 => 23
  | 13 => 43
  | 14 => 44
  | 15 => 48
  | 16 => 121
  | 17 => 124
  | _ => 127
def kF : Nat → FuncId
  | 0 => 35
  | 1 => 36
  | 2 => 37
  | 3 => 38
  | 4 => 39
  | 5 => 40
  | 6 => 41
  | 7 => 42
  | 8 => 43
  | 9 => 44
  | 10 => 45
  | 11 => 46
  | 12 => 47
  | 13 => 48
  | 14 => 49
  | 15 => 50
  | 16 => 51
  | 17 => 52
  | _ => 53
def kN : Nat → Nat
  | 0 => 1
  | 1 => 1
  | 2 => 1
  | 3 => 1
  | 4 => 2
  | 5 => 2
  | 6 => 2
  | 7 => 4
  | 8 => 9
  | 9 => 7
  | 10 => 2
  | 11 => 3
  | 12 => 2
  | 13 => 1
  | 14 => 1
  | 15 => 1
  | 16 => 2
  | 17 => 4
  | _ => 272
theorem kN_is : ∀ k, k < 19 → (Tryd.prog.info? (kE k)).map (·.size) = some (kN k) := by decide +kernel
theorem kE_ne : ∀ j, j < 19 → ∀ k, k < 19 → j ≠ k → kE j ≠ kE k := by decide +kernel
theorem kE_bag : ∀ k, k < 19 → kE k ≠ 63 := by decide +kernel
theorem kS_bag : ∀ k, k < 19 → kS k ≠ 63 := by decide +kernel
theorem kS_ne : ∀ j, j < 19 → ∀ k, k < 19 → j ≠ k → kS j ≠ kS k := by decide +kernel
/-- A kind of rows whose elements are no rows: its element is no row's type. -/
theorem kE_kS : ∀ k, k < 19 → k ≠ 13 → k ≠ 14 → k ≠ 15 → ∀ j, j < 19 → kE k ≠ kS j := by decide +kernel
abbrev bagG (vs : Nat → Value) : Obj := .cells #[vs 0, vs 1, vs 2, vs 3, vs 4, vs 5, vs 6, vs 7, vs 8, vs 9, vs 10, vs 11, vs 12, vs 13, vs 14, vs 15, vs 16, vs 17, vs 18] 63
/-- A bag as it stands: its rows' values by kind, the rows in them. -/
structure BagG (w : World) (base gb : Nat) (vs : Nat → Value) (es : Nat → List Ent) : Prop where
  blk : w.heap[gb]? = some (bagG vs)
  own : ∀ k, k < 19 → Own Rep.val (kS k) w base nob (vs k) ((es k).map fun y => [Ent.v y])
  nil : ∀ k, k < 19 → es k = [] → vs k = .slice none 0 0
  hb : base ≤ gb
  ent : ∀ k, k < 19 → ∀ x ∈ es k, ∃ L : List (List Value), Own (Rep.raw (kN k)) (kE k) w base nob (Ent.v x) L
  len : ∀ k, k < 19 → ∀ x ∈ es k, x.2.1 ≤ 1099511627776
  num : ∀ k, k < 19 → (es k).length ≤ 400
  dist : ∀ k, k < 19 → (es k).Pairwise fun a b => ∀ q, (Ent.v a).ownBlock = some q → (Ent.v b).ownBlock ≠ some q
  sep : ∀ k, k < 19 → ∀ x ∈ es k, ∀ q, (Ent.v x).ownBlock = some q → ∀ j, j < 19 → (vs j).ownBlock ≠ some q
/-- What such a bag turns while it grows. -/
def GF (gb : Nat) (vs : Nat → Value) : Blocks := fun b => b = gb ∨ ∃ j, j < 19 ∧ (vs j).ownBlock = some b
/-- The blocks of the rows in it. -/
def GE (es : Nat → List Ent) (n : Nat) : Blocks := fun b => ∃ k, k < n ∧ ∃ x ∈ es k, (Ent.v x).ownBlock = some b
section
variable {w w' : World} {base gb : Nat} {vs : Nat → Value} {es : Nat → List Ent}
theorem BagG.gb_lt (h : BagG w base gb vs es) : gb < w.heap.size := (Array.getElem?_eq_some_iff.1 h.blk).1
theorem BagG.base_le (h : BagG w base gb vs es) : base ≤ w.heap.size := Nat.le_trans h.hb (Nat.le_of_lt h.gb_lt)
theorem BagG.own_ne (h : BagG w base gb vs es) {k : Nat} (hk : k < 19) : (vs k).ownBlock ≠ some gb := (h.own k hk).ne_block h.blk (kS_bag k hk)
theorem BagG.gf_ge (h : BagG w base gb vs es) {b : Nat} (hb : GF gb vs b) : base ≤ b := by
  rcases hb with rfl | ⟨j, hj, hb⟩
  · exact h.hb
  · exact ((h.own j hj).block_lt hb).1
theorem BagG.ge_ge (h : BagG w base gb vs es) {n : Nat} (hn : n ≤ 19) {b : Nat} (hb : GE es n b) : base ≤ b := by
  obtain ⟨k, hk, x, hx, hb⟩ := hb
  obtain ⟨L, hL⟩ := h.ent k (by omega) x hx
  exact (hL.block_lt hb).1
theorem BagG.ge_gf (h : BagG w base gb vs es) {n : Nat} (hn : n ≤ 19) {b : Nat} (hb : GE es n b) : ¬ GF gb vs b := by
  obtain ⟨k, hk, x, hx, hb⟩ := hb
  rintro (rfl | ⟨j, hj, e⟩)
  · obtain ⟨L, hL⟩ := h.ent k (by omega) x hx
    exact hL.ne_block h.blk (kE_bag k (by omega)) hb
  · exact h.sep k (by omega) x hx b hb j hj e
/-- It stays, where neither it nor what is in it has turned. -/
theorem BagG.only {F : Blocks} (h : BagG w base gb vs es) (ho : Only F w w') (h1 : ∀ b, F b → ¬ GF gb vs b) (h2 : ∀ b, F b → ¬ GE es 19 b) : BagG w' base gb vs es :=
  ⟨(ho.block gb h.gb_lt fun e => h1 gb e (.inl rfl)).trans h.blk, fun k hk => (h.own k hk).only ho fun b hb e => h1 b e (.inr ⟨k, hk, hb⟩), h.nil, h.hb, fun k hk x hx => by
    obtain ⟨L, hL⟩ := h.ent k hk x hx
    exact ⟨L, hL.only ho fun b hb e => h2 b e ⟨k, hk, x, hx, hb⟩⟩, h.len, h.num, h.dist, h.sep⟩
theorem BagG.far (h : BagG w base gb vs es) (hb : Below w.heap.size w w') : BagG w' base gb vs es :=
  h.only (F := nob) (Only.of_below hb nob) (fun _ h => h.elim) (fun _ h => h.elim)
theorem BagG.start (w : World) (base : Nat) (hb : base ≤ w.heap.size) : BagG (w.alloc (bagG fun _ => .slice none 0 0)) base w.heap.size (fun _ => .slice none 0 0) (fun _ => []) :=
  ⟨heap_alloc_new _ _, fun _ _ => Own.nil _ _ _ _, fun _ _ _ => rfl, hb, fun _ _ _ h => (List.not_mem_nil h).elim, fun _ _ _ h => (List.not_mem_nil h).elim, fun _ _ => Nat.zero_le _, fun _ _ => List.Pairwise.nil, fun _ _ _ h => (List.not_mem_nil h).elim⟩
/-- A row of another type than the bag's: none of the bag's. -/
theorem BagG.notF (h : BagG w base gb vs es) {α : Type} {r : Rep α} {e : TypeId} {b2 : Nat} {x : Value} {l : List α} (ho : Own r e w b2 nob x l) (he : e ≠ 63) (he2 : ∀ j, j < 19 → e ≠ kS j) {b : Nat} (hb : x.ownBlock = some b) : ¬ GF gb vs b := by
  rintro (rfl | ⟨j, hj, e1⟩)
  · exact ho.ne_block h.blk he hb
  · exact ho.ne_type (h.own j hj) (he2 j hj) hb e1
theorem BagG.below (h : BagG w base gb vs es) (ho : Only (GF gb vs) w w') : Below base w w' := ho.below h.base_le fun _ hb => h.gf_ge hb
/-- One more row of a kind. -/
def addE (es : Nat → List Ent) (k : Nat) (x : Ent) : Nat → List Ent := fun j => if j = k then (if (es k).length < 400 then es k ++ [x] else es k) else es j
def setV (vs : Nat → Value) (k : Nat) (v : Value) : Nat → Value := fun j => if j = k then v else vs j
/-- What a row must be to be put in: of the run's own, in a block of its own. -/
structure Fits (w : World) (base gb : Nat) (vs : Nat → Value) (es : Nat → List Ent) (k : Nat) (x : Ent) : Prop where
  own : ∃ L : List (List Value), Own (Rep.raw (kN k)) (kE k) w base nob (Ent.v x) L
  len : x.2.1 ≤ 1099511627776
  dist : ∀ q, (Ent.v x).ownBlock = some q → ∀ y ∈ es k, (Ent.v y).ownBlock ≠ some q
  sep : ∀ q, (Ent.v x).ownBlock = some q → ∀ j, j < 19 → (vs j).ownBlock ≠ some q
theorem Fits.of (h : BagG w base gb vs es) {k : Nat} (hk : k < 19) (h13 : k ≠ 13) (h14 : k ≠ 14) (h15 : k ≠ 15) {α : Type} {r : Rep α} {b2 : Nat} {A : Option Addr} {n c : Nat} {l : List α} (ho : Own r (kE k) w b2 nob (.slice A n c) l) (hb : base ≤ b2) (hr : r.n = kN k) (hl : n ≤ 1099511627776)
    (hd : ∀ q, (Value.slice A n c).ownBlock = some q → ∀ y ∈ es k, (Ent.v y).ownBlock ≠ some q) : Fits w base gb vs es k (A, n, c) := by
  obtain ⟨L, -, hL⟩ := ho.raw
  rw [hr] at hL
  refine ⟨⟨L, ?_⟩, hl, hd, fun q hq j hj e => ?_⟩
  · obtain ⟨xs, ⟨h1, h2⟩, h3⟩ := hL
    refine ⟨xs, ⟨h1, ?_⟩, h3⟩
    rcases h2 with h2 | ⟨g, cap, cur, e1, hb', h4⟩
    · exact .inl h2
    · exact .inr ⟨g, cap, cur, e1, Nat.le_trans hb hb', h4⟩
  · exact ho.ne_type (h.own j hj) (kE_kS k hk h13 h14 h15 j hj) hq e
/-- What AddX leaves. -/
def Added (w : World) (base gb : Nat) (vs : Nat → Value) (es : Nat → List Ent) (k : Nat) (x : Ent) (w' : World) : Prop :=
  ∃ v', BagG w' base gb (setV vs k v') (addE es k x) ∧ Only (GF gb vs) w w' ∧ ∀ b, v'.ownBlock = some b → (vs k).ownBlock = some b ∨ w.heap.size ≤ b
theorem BagG.full (h : BagG w base gb vs es) {k : Nat} (hk : k < 19) (hf : 400 ≤ (es k).length) (x : Ent) : Added w base gb vs es k x w := by
  have e1 : setV vs k (vs k) = vs := by funext j; unfold setV; split <;> simp_all
  have e2 : addE es k x = es := by
    funext j
    unfold addE
    by_cases e : j = k
    · subst e; rw [if_pos rfl, if_neg (by omega)]
    · rw [if_neg e]
  exact ⟨vs k, by rw [e1, e2]; exact h, Only.refl _ _, fun b hb => .inl hb⟩
/-- .. behind the append and the store. -/
theorem BagG.added (h : BagG w base gb vs es) {k : Nat} (hk : k < 19) (hf : (es k).length < 400) {x : Ent} (hx : Fits w base gb vs es k x) {o : Obj} {w3 : World} {v' : Value}
    (hown : Own Rep.val (kS k) w3 base nob v' ((es k).map (fun y => [Ent.v y]) ++ [[Ent.v x]])) (hg : (w.alloc o).grownBy w3 (vs k).ownBlock) (hat : v'.ownBlock = (vs k).ownBlock ∨ v'.ownBlock = some (w.alloc o).heap.size)
    (hblk : (w3.setCell ⟨gb, k, none⟩ v').heap[gb]? = some (bagG (setV vs k v'))) : Added w base gb vs es k x (w3.setCell ⟨gb, k, none⟩ v') := by
  have hgl := h.gb_lt
  have hne : v'.ownBlock ≠ some gb := by
    rcases hat with e | e <;> rw [e]
    · exact h.own_ne hk
    · simp; omega
  have hkk := h.own k hk
  have honly : Only (fun b => b = gb ∨ (vs k).ownBlock = some b) w (w3.setCell ⟨gb, k, none⟩ v') := (((Only.refl _ w).alloc _).grown hg fun b hb => .inl (.inr hb.symm)).setCell (.inl (.inl rfl)) _
  have hF : ∀ b, (b = gb ∨ (vs k).ownBlock = some b) → GF gb vs b := fun b hb => hb.imp id fun e => ⟨k, hk, e⟩
  have hae : ∀ j, j ≠ k → addE es k x j = es j := fun j hj => by unfold addE; rw [if_neg hj]
  have hak : addE es k x k = es k ++ [x] := by unfold addE; rw [if_pos rfl, if_pos hf]
  have hsv : ∀ j, j ≠ k → setV vs k v' j = vs j := fun j hj => by unfold setV; rw [if_neg hj]
  have hsk : setV vs k v' k = v' := by unfold setV; rw [if_pos rfl]
  have hnew : ∀ b, v'.ownBlock = some b → (vs k).ownBlock = some b ∨ w.heap.size ≤ b := fun b hb => by
    rcases hat with e | e
    · exact .inl (e ▸ hb)
    · rw [e] at hb; simp at hb; exact .inr (by omega)
  have hEnt : ∀ j, j < 19 → ∀ y ∈ addE es k x j, (∃ L : List (List Value), Own (Rep.raw (kN j)) (kE j) w base nob (Ent.v y) L) ∧ y.2.1 ≤ 1099511627776 ∧ ∀ q, (Ent.v y).ownBlock = some q → ∀ i, i < 19 → (vs i).ownBlock ≠ some q := fun j hj y hy => by
    by_cases e : j = k
    · subst e
      rw [hak, List.mem_append, List.mem_singleton] at hy
      rcases hy with hy | rfl
      · exact ⟨h.ent j hj y hy, h.len j hj y hy, h.sep j hj y hy⟩
      · exact ⟨hx.own, hx.len, hx.sep⟩
    · rw [hae j e] at hy
      exact ⟨h.ent j hj y hy, h.len j hj y hy, h.sep j hj y hy⟩
  refine ⟨v', ⟨hblk, fun j hj => ?_, fun j hj hn => ?_, h.hb, fun j hj y hy => ?_, fun j hj y hy => (hEnt j hj y hy).2.1, fun j hj => ?_, fun j hj => ?_, fun j hj y hy q hq i hi => ?_⟩, honly.mono hF, hnew⟩
  · by_cases e : j = k
    · subst e
      rw [hak, hsk, List.map_append]
      exact hown.mono (setCell_grown gb w3 j _) (.inr hne) (fun _ h => h.elim)
    · rw [hae j e, hsv j e]
      refine (h.own j hj).only honly fun b hb => ?_
      rintro (rfl | e2)
      · exact h.own_ne hj hb
      · exact (h.own j hj).ne_type hkk (kS_ne j hj k hk e) hb e2
  · by_cases e : j = k
    · subst e; rw [hak] at hn; simp at hn
    · rw [hae j e] at hn; rw [hsv j e]; exact h.nil j hj hn
  · obtain ⟨⟨L, hL⟩, -, hs⟩ := hEnt j hj y hy
    refine ⟨L, hL.only honly fun b hb => ?_⟩
    rintro (rfl | e2)
    · exact hL.ne_block h.blk (kE_bag j hj) hb
    · exact hs b hb k hk e2
  · by_cases e : j = k
    · subst e; rw [hak]; simp; omega
    · rw [hae j e]; exact h.num j hj
  · by_cases e : j = k
    · subst e
      rw [hak]
      refine List.pairwise_append.2 ⟨h.dist j hj, List.pairwise_singleton _ _, fun a ha b hb q hq hq' => ?_⟩
      rw [List.mem_singleton] at hb
      subst hb
      exact hx.dist q hq' a ha hq
    · rw [hae j e]; exact h.dist j hj
  · obtain ⟨⟨L, hL⟩, -, hs⟩ := hEnt j hj y hy
    by_cases e : i = k
    · subst e
      rw [hsk]
      intro e2
      rcases hnew q e2 with e3 | e3
      · exact hs q hq i hi e3
      · have := (hL.block_lt hq).2; omega
    · rw [hsv i e]; exact hs q hq i hi
/-! ### The look -/
/-- A kind whose look is walked. -/
def Looked (Q : World → Prop) (k : Nat) : Prop := ∀ (gb gB cB N : Nat) (As : Nat → Option Addr) (ks cs : Nat → Nat) (w : World) (base : Nat),
  w.cell? ⟨gb, k, none⟩ = some (.slice (some ⟨gB, 0, none⟩) N cB) → N ≤ 65536 → N ≤ cB → cB ≤ 9223372036854775807 →
    (∀ m, m < N → w.cell? ⟨gB, m, none⟩ = some (.slice (As m) (ks m) (cs m))) → Rows0 (kN k) (kE k) base N (fun m => .slice (As m) (ks m) (cs m)) ks w →
    base ≤ w.heap.size → ¬ RowB N (fun m => .slice (As m) (ks m) (cs m)) gb → ¬ RowB N (fun m => .slice (As m) (ks m) (cs m)) gB → (∀ m, m < N → ks m ≤ 1099511627776) → (∀ W, Below base w W → Q W) →
    Calls Tryd.prog (kF k) #[.pointer (some ⟨gb, 0, none⟩)] w fun e w' => e = .returned (.bool true) ∧ Only (RowB N (fun m => .slice (As m) (ks m) (cs m))) w w'
theorem look_nil (k : Nat) (hk : k < 19) (gb : Nat) (w : World) (h : w.cell? ⟨gb, k, none⟩ = some (.slice none 0 0)) : Calls Tryd.prog (kF k) #[.pointer (some ⟨gb, 0, none⟩)] w fun e w' => e = .returned (.bool true) ∧ w = w' := by
  match k, hk with
  | 0, _ => exact apartBytes_nil gb w h
  | 1, _ => exact apartInts_nil gb w h
  | 2, _ => exact apartBools_nil gb w h
  | 3, _ => exact apartTexts_nil gb w h
  | 4, _ => exact apartMarks_nil gb w h
  | 5, _ => exact apartSpans_nil gb w h
  | 6, _ => exact apartRuns_nil gb w h
  | 7, _ => exact apartClasses_nil gb w h
  | 8, _ => exact apartNodes_nil gb w h
  | 9, _ => exact apartInstrs_nil gb w h
  | 10, _ => exact apartFaults_nil gb w h
  | 11, _ => exact apartNotes_nil gb w h
  | 12, _ => exact apartParts_nil gb w h
  | 13, _ => exact apartRows_nil gb w h
  | 14, _ => exact apartIntss_nil gb w h
  | 15, _ => exact apartSpanss_nil gb w h
  | 16, _ => exact apartPieces_nil gb w h
  | 17, _ => exact apartFiles_nil gb w h
  | 18, _ => exact apartCmds_nil gb w h
  | _ + 19, hk => exact absurd hk (by omega)
theorem bagG_cell {gb : Nat} {vs : Nat → Value} {w : World} (h : w.heap[gb]? = some (bagG vs)) {k : Nat} (hk : k < 19) : w.cell? ⟨gb, k, none⟩ = some (vs k) := by
  match k, hk with
  | 0, _ => exact cell_of_row w gb 0 _ _ (0, 0) h
  | 1, _ => exact cell_of_row w gb 1 _ _ (0, 0) h
  | 2, _ => exact cell_of_row w gb 2 _ _ (0, 0) h
  | 3, _ => exact cell_of_row w gb 3 _ _ (0, 0) h
  | 4, _ => exact cell_of_row w gb 4 _ _ (0, 0) h
  | 5, _ => exact cell_of_row w gb 5 _ _ (0, 0) h
  | 6, _ => exact cell_of_row w gb 6 _ _ (0, 0) h
  | 7, _ => exact cell_of_row w gb 7 _ _ (0, 0) h
  | 8, _ => exact cell_of_row w gb 8 _ _ (0, 0) h
  | 9, _ => exact cell_of_row w gb 9 _ _ (0, 0) h
  | 10, _ => exact cell_of_row w gb 10 _ _ (0, 0) h
  | 11, _ => exact cell_of_row w gb 11 _ _ (0, 0) h
  | 12, _ => exact cell_of_row w gb 12 _ _ (0, 0) h
  | 13, _ => exact cell_of_row w gb 13 _ _ (0, 0) h
  | 14, _ => exact cell_of_row w gb 14 _ _ (0, 0) h
  | 15, _ => exact cell_of_row w gb 15 _ _ (0, 0) h
  | 16, _ => exact cell_of_row w gb 16 _ _ (0, 0) h
  | 17, _ => exact cell_of_row w gb 17 _ _ (0, 0) h
  | 18, _ => exact cell_of_row w gb 18 _ _ (0, 0) h
  | _ + 19, hk => exact absurd hk (by omega)
theorem look_step {Q : World → Prop} (h : BagG w base gb vs es) (hQ : ∀ W, Below base w W → Q W) (k : Nat) (hk : k < 19) (H : es k ≠ [] → Looked Q k) (W : World) (ho : Only (GE es k) w W) :
    Calls Tryd.prog (kF k) #[.pointer (some ⟨gb, 0, none⟩)] W fun e w' => e = .returned (.bool true) ∧ Only (GE es (k + 1)) w w' := by
  have hge : ∀ b, GE es k b → GE es (k + 1) b := fun b ⟨j, hj, hr⟩ => ⟨j, by omega, hr⟩
  have hblk : W.heap[gb]? = some (bagG vs) := (ho.block gb h.gb_lt fun e => h.ge_gf (by omega) e (.inl rfl)).trans h.blk
  have hz := ho.size
  by_cases hn : es k = []
  · have hc := bagG_cell hblk hk
    rw [h.nil k hk hn] at hc
    exact (look_nil k hk gb W hc).mono fun e w' hh => ⟨hh.1, hh.2 ▸ ho.mono hge⟩
  · have hent : ∀ x ∈ es k, ∃ L : List (List Value), Own (Rep.raw (kN k)) (kE k) W base nob (Ent.v x) L := fun x hx => by
      obtain ⟨L, hL⟩ := h.ent k hk x hx
      refine ⟨L, hL.only ho fun b hb e => ?_⟩
      obtain ⟨j, hj, y, hy, hq⟩ := e
      obtain ⟨L2, hL2⟩ := h.ent j (by omega) y hy
      exact hL.ne_type hL2 (kE_ne k hk j (by omega) (by omega)) hb hq
    have hR := rows0_of hent (h.dist k hk)
    have hPo : Own Rep.val (kS k) W base nob (vs k) ((es k).map fun y => [Ent.v y]) := (h.own k hk).only ho fun b hb e => h.ge_gf (by omega) e (.inr ⟨k, hk, hb⟩)
    have hc := bagG_cell hblk hk
    have hnew := h.own_ne hk
    obtain ⟨vk, hvk⟩ : ∃ v, v = vs k := ⟨_, rfl⟩
    have hsep := h.sep k hk
    rw [← hvk] at hPo hc
    obtain ⟨xs, hx, hrest⟩ := id hPo
    rcases hx.2 with ⟨rfl, h00⟩ | ⟨gB, c, cur, rfl, hbB, hgB, hle, hmax, -⟩
    · rw [List.length_map] at h00
      exact absurd (List.eq_nil_of_length_eq_zero h00) hn
    · have e1 : ((es k).map fun y => [Ent.v y]).length = (es k).length := by simp
      rw [e1] at hle
      simp only [e1] at hc hPo
      have hrow : ∀ m, m < (es k).length → W.cell? ⟨gB, m, none⟩ = some (.slice (entA (es k) m) (entN (es k) m) (entC (es k) m)) := fun m hm => by
        obtain ⟨g', c', he, -, -, hq⟩ := hPo.cell1 (i := m) (by simpa using hm) (x := Ent.v (es k)[m]) (by simp [hm])
        simp only [Value.slice.injEq, Option.some.injEq, Addr.mk.injEq] at he
        obtain ⟨⟨rfl, -⟩, -, -⟩ := he
        rw [ent_v (es k) hm]
        exact hq
      have hr : ∀ b, RowB (es k).length (fun m => .slice (entA (es k) m) (entN (es k) m) (entC (es k) m)) b → GE es (k + 1) b := fun b ⟨m, hm, hb⟩ => ⟨k, by omega, (es k)[m], List.getElem_mem hm, by simp only [ent_v (es k) hm] at hb; exact hb⟩
      refine (H hn gb gB c (es k).length (entA (es k)) (entN (es k)) (entC (es k)) W base hc (by have := h.num k hk; omega) hle hmax hrow hR (by have := h.base_le; omega) (fun e => h.ge_gf (by omega) (hr _ e) (.inl rfl)) (fun e => h.ge_gf (by omega) (hr _ e) (.inr ⟨k, hk, by rw [← hvk]; rfl⟩)) (fun m hm => ?_) fun W2 hW2 => hQ W2 ((ho.below h.base_le fun _ hb => h.ge_ge (by omega) hb).trans hW2)).mono fun e w' hh => ⟨hh.1, (ho.mono hge).trans hh.2 fun b hb => .inl (hr b hb)⟩
      have := h.len k hk (es k)[m] (List.getElem_mem hm)
      simpa [entN, List.getD_eq_getElem?_getD, hm] using this
/-- The look at a bag. -/
theorem apart_G {Q : World → Prop} (h : BagG w base gb vs es) (hQ : ∀ W, Below base w W → Q W) (H : ∀ k, k < 19 → es k ≠ [] → Looked Q k) :
    Calls Tryd.prog 19 #[.pointer (some ⟨gb, 0, none⟩)] w fun e w' => e = .returned (.bool true) ∧ Only (GE es 19) w w' :=
  apart_all gb (fun i W => Only (GE es i) w W) w (Only.refl _ _)
    (Lib.hid fun W ho => look_step h hQ 0 (by omega) (H 0 (by omega)) W ho)
    (Lib.hid fun W ho => look_step h hQ 1 (by omega) (H 1 (by omega)) W ho)
    (Lib.hid fun W ho => look_step h hQ 2 (by omega) (H 2 (by omega)) W ho)
    (Lib.hid fun W ho => look_step h hQ 3 (by omega) (H 3 (by omega)) W ho)
    (Lib.hid fun W ho => look_step h hQ 4 (by omega) (H 4 (by omega)) W ho)
    (Lib.hid fun W ho => look_step h hQ 5 (by omega) (H 5 (by omega)) W ho)
    (Lib.hid fun W ho => look_step h hQ 6 (by omega) (H 6 (by omega)) W ho)
    (Lib.hid fun W ho => look_step h hQ 7 (by omega) (H 7 (by omega)) W ho)
    (Lib.hid fun W ho => look_step h hQ 8 (by omega) (H 8 (by omega)) W ho)
    (Lib.hid fun W ho => look_step h hQ 9 (by omega) (H 9 (by omega)) W ho)
    (Lib.hid fun W ho => look_step h hQ 10 (by omega) (H 10 (by omega)) W ho)
    (Lib.hid fun W ho => look_step h hQ 11 (by omega) (H 11 (by omega)) W ho)
    (Lib.hid fun W ho => look_step h hQ 12 (by omega) (H 12 (by omega)) W ho)
    (Lib.hid fun W ho => look_step h hQ 13 (by omega) (H 13 (by omega)) W ho)
    (Lib.hid fun W ho => look_step h hQ 14 (by omega) (H 14 (by omega)) W ho)
    (Lib.hid fun W ho => look_step h hQ 15 (by omega) (H 15 (by omega)) W ho)
    (Lib.hid fun W ho => look_step h hQ 16 (by omega) (H 16 (by omega)) W ho)
    (Lib.hid fun W ho => look_step h hQ 17 (by omega) (H 17 (by omega)) W ho)
    (Lib.hid fun W ho => look_step h hQ 18 (by omega) (H 18 (by omega)) W ho)
theorem apart_Gb {Q : World → Prop} (h : BagG w base gb vs es) (hQ : ∀ W, Below base w W → Q W) (H : ∀ k, k < 19 → es k ≠ [] → Looked Q k) :
    Calls Tryd.prog 19 #[.pointer (some ⟨gb, 0, none⟩)] w fun e w' => e = .returned (.bool true) ∧ Below base w w' :=
  (apart_G h hQ H).mono fun _ _ hh => ⟨hh.1, hh.2.below h.base_le fun _ hb => h.ge_ge (Nat.le_refl _) hb⟩
end
end Go.Proofs.YtmjagjcaepbklaaDoor
