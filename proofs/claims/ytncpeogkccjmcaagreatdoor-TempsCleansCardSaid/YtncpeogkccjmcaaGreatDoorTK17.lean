/- Texts that lead to the claim, one behind the other: A disk with files: the walks of disk.From and disk.New. Conditions: the files' bytes are below 2^40 each. -/
import Derived.Test.YtncpeogkccjmcaaGreatDoorTK16
import Derived.Test.YtncpeogkccjmcaaGreatDoorTK1
namespace Go.Proofs.YtncpeogkccjmcaaGreatDoor
open Go.RowKit Go.ChangeShapes Go.WideShapes Go.Deep

/-- Files in memory, as they are handed in. -/
def Rep.fin : Rep Disk.Fin_ where
  n := 4
  is := fun w S cs f => ∃ A c, cs = [sv f.name, .slice A f.bytes.length c, .int .i64 f.syn, .bool f.bad] ∧ SliceAt Rep.byte w S A c f.bytes ∧ f.name.length ≤ maxLen ∧ (Lit.int .i64 f.syn).wf = true
  size := by rintro _ _ _ _ ⟨_, _, rfl, _⟩; rfl
  keep := by rintro _ _ _ _ _ _ ⟨A, c, rfl, h, h2⟩ hS hk; exact ⟨A, c, rfl, h.keep hS hk, h2⟩
  one := by rintro _ _ _ _ ⟨_, _, rfl, _⟩; simp [Value.oneCell', sv]
/-- What From leaves. -/
def FromPost (w : World) (room : Int) (fs : List Disk.Fin_) (e : Ending) (w' : World) : Prop :=
  (Disk.fromErr room fs ≠ 0 ∧ e = .returned (.tuple #[.pointer none, .int .i64 (Disk.fromErr room fs)]) ∧ Below w.heap.size w w') ∨
    (Disk.fromErr room fs = 0 ∧ ∃ d, e = .returned (.tuple #[.pointer (some ⟨d, 0, none⟩), .int .i64 0]) ∧ DiskAt w' (btw w.heap.size w'.heap.size) d (Disk.fromSt room fs) ∧ Below w.heap.size w w')
theorem fromPost_bad {w w' : World} {room : Int} {fs : List Disk.Fin_} {q : Int} (h : Disk.fromErr room fs = q) (h0 : q ≠ 0) (hb : Below w.heap.size w w') : FromPost w room fs (.returned (.tuple #[.pointer none, .int .i64 q])) w' :=
  .inl ⟨by rw [h]; exact h0, by rw [h], hb⟩
/-- The disk that is being made: its block, its map, its files, whose bytes are still those that were handed in. -/
structure Making (w0 : World) (S : Blocks) (w : World) (room : Int) (fs : List Disk.Fin_) (b0 m0 : Nat) (loc : Nat → Nat) : Prop where
  hd : w.heap[b0]? = some (.cells #[.map (some m0), .map none, .slice none 0 0, .bool true, .bool true, .int .i64 room, .slice none 0 0, .int .i64 0, .int .i64 0] 40 (0, 0))
  map_ : Fol w m0 fs.length (Disk.nowOf fs) loc
  files : ∀ i f, fs[i]? = some f → ∃ A c, w.heap[loc i]? = some (.cells #[.slice A f.bytes.length c, .int .i64 f.syn, .bool f.bad] 84 (0, 0)) ∧ SliceAt Rep.byte w0 S A c f.bytes
  inj : ∀ i j, i < fs.length → j < fs.length → loc i = loc j → i = j
  low : w0.heap.size ≤ b0 ∧ w0.heap.size ≤ m0 ∧ ∀ i, i < fs.length → w0.heap.size ≤ loc i
  below : Below w0.heap.size w0 w
theorem run_makeMap_0 {P : Program} {t k e : TypeId} (_ : P.underlying t = some (.map k e)) (w : World) : (Instr.makeMap t none).run P w = .ok (.map (some w.heap.size)) (w.alloc (.map #[] 0)) := by
  simp [Instr.makeMap, Result.andThen]
theorem CellsAt.four {w : World} {g o : Nat} {u v x y : Value} (h : CellsAt w g o [u, v, x, y]) : w.cell? ⟨g, o, none⟩ = some u ∧ w.cell? ⟨g, o + 1, none⟩ = some v ∧ w.cell? ⟨g, o + 2, none⟩ = some x ∧ w.cell? ⟨g, o + 3, none⟩ = some y := ⟨h 0 u rfl, h 1 v rfl, h 2 x rfl, h 3 y rfl⟩
theorem going_map {w : World} {b r n q : Nat} {l : Disk.Fo} {loc : Nat → Nat} {seen : List Disk.Nm} (h : Goi w b r n l loc seen q) (es : Array MapEntry) (c : Nat) : w.heap[r]? ≠ some (.map es c) := by
  obtain ⟨D, left, ⟨_, _, _, _, _, _, _, _, _, hit, _⟩, _⟩ := h
  rw [hit]
  intro e; cases e
theorem Making.far {w0 w w' : World} {S : Blocks} {room : Int} {fs : List Disk.Fin_} {b0 m0 : Nat} {loc : Nat → Nat} (h : Making w0 S w room fs b0 m0 loc) (hb : Below w.heap.size w w') : Making w0 S w' room fs b0 m0 loc := by
  refine ⟨(hb.block b0 (Array.getElem?_eq_some_iff.1 h.hd).1).trans h.hd, h.map_.same (hb.block m0 h.map_.lt), fun i f hi => ?_, h.inj, h.low, h.below.trans (hb.mono h.below.size)⟩
  obtain ⟨A, c, h1, h2⟩ := h.files i f hi
  exact ⟨A, c, (hb.block _ (Array.getElem?_eq_some_iff.1 h1).1).trans h1, h2⟩
/-- One file more. -/
theorem Making.step {w0 w w2 : World} {S : Blocks} {room : Int} {fs : List Disk.Fin_} {b0 m0 : Nat} {loc : Nat → Nat} {f : Disk.Fin_} {A : Option Addr} {c : Nat} (h : Making w0 S w room fs b0 m0 loc) (hs : SliceAt Rep.byte w0 S A c f.bytes) {n : Nat}
    (hF : Fol w2 m0 n (Disk.put (Disk.nowOf fs) f.name fs.length) fun i => if i = fs.length then w.heap.size else loc i) (hT : ((w.alloc (.cells #[.slice A f.bytes.length c, .int .i64 f.syn, .bool f.bad] 84)).drew).mapTurned w2 m0) (hn : n = fs.length + 1) :
    Making w0 S w2 room (fs ++ [f]) b0 m0 fun i => if i = fs.length then w.heap.size else loc i := by
  have hO := only_turned hT
  obtain ⟨es, cl, hmp⟩ := folder_map h.map_
  have hml := h.map_.lt
  have hoth : ∀ b, b ≠ m0 → b < w.heap.size → w2.heap[b]? = w.heap[b]? := fun b hb hlt => by
    rw [hO.block b (by simp; omega) hb]
    exact Below.heap_alloc w _ b hlt
  have hnew : w2.heap[w.heap.size]? = some (.cells #[.slice A f.bytes.length c, .int .i64 f.syn, .bool f.bad] 84 (0, 0)) := by
    rw [hO.block _ (by simp) (by omega)]
    exact heap_alloc_new w _
  refine ⟨(hoth b0 (fun e => NoMap.one h.hd m0 e.symm _ _ hmp) (Array.getElem?_eq_some_iff.1 h.hd).1).trans h.hd, ?_, fun i g hi => ?_, fun i j hi hj e => ?_, ⟨h.low.1, h.low.2.1, fun i hi => ?_⟩, ?_⟩
  · rw [Disk.nowOf_snoc, List.length_append, List.length_singleton, ← hn]; exact hF
  · rcases Nat.lt_or_ge i fs.length with hl | hl
    · rw [List.getElem?_append_left hl] at hi
      rw [if_neg (Nat.ne_of_lt hl)]
      obtain ⟨A', c', h1, h2⟩ := h.files i g hi
      exact ⟨A', c', (hoth _ (fun e => NoMap.one h1 m0 e.symm _ _ hmp) (Array.getElem?_eq_some_iff.1 h1).1).trans h1, h2⟩
    · rw [List.getElem?_append_right hl] at hi
      have h0 : i - fs.length < 1 := by have := (List.getElem?_eq_some_iff.1 hi).1; simpa using this
      obtain rfl : i = fs.length := by omega
      rw [Nat.sub_self] at hi
      simp only [List.getElem?_cons_zero, Option.some.injEq] at hi
      subst hi
      rw [if_pos rfl]
      exact ⟨A, c, hnew, hs⟩
  · simp only [List.length_append, List.length_singleton] at hi hj
    have hlt : ∀ i, i < fs.length → loc i < w.heap.size := fun i hi => by
      obtain ⟨A', c', h1, -⟩ := h.files i fs[i] (List.getElem?_eq_getElem hi)
      exact (Array.getElem?_eq_some_iff.1 h1).1
    split at e <;> split at e
    · omega
    · have := hlt j (by omega); omega
    · have := hlt i (by omega); omega
    · exact h.inj i j (by omega) (by omega) e
  · simp only [List.length_append, List.length_singleton] at hi
    split
    · exact h.below.size
    · exact h.low.2.2 i (by omega)
  · exact h.below.trans (((Below.alloc (Below.refl w.heap.size w) (Nat.le_refl _) _).drew.mono h.below.size).trans (hO.below (by have := h.below.size; simp; omega) fun b hb => by rw [hb]; exact h.low.2.1))
/-- The disk whose files get bytes of their own: those whose names have come have them. -/
structure Cloning (w0 : World) (S : Blocks) (w : World) (room : Int) (fs : List Disk.Fin_) (b0 m0 nm : Nat) (loc : Nat → Nat) (blk : Nat → Option Nat) (seen : List Disk.Nm) : Prop where
  hd : w.heap[b0]? = some (.cells #[.map (some m0), .map none, .slice none 0 0, .bool true, .bool true, .int .i64 room, .slice none 0 0, .int .i64 0, .int .i64 0] 40 (0, 0))
  map_ : Fol w m0 nm (Disk.nowOf fs) loc
  fin_ : ∀ i f, fs[i]? = some f → f.name ∈ seen → FileAt w (loc i) (blk i) f.nd
  raw : ∀ i f, fs[i]? = some f → f.name ∉ seen → blk i = none ∧ ∃ A c, w.heap[loc i]? = some (.cells #[.slice A f.bytes.length c, .int .i64 f.syn, .bool f.bad] 84 (0, 0)) ∧ SliceAt Rep.byte w0 S A c f.bytes
  blow : ∀ i b, blk i = some b → w0.heap.size ≤ b ∧ b < w.heap.size
  binj : ∀ i j b, blk i = some b → blk j = some b → i = j
  inj : ∀ i j, i < fs.length → j < fs.length → loc i = loc j → i = j
  low : w0.heap.size ≤ b0 ∧ w0.heap.size ≤ m0 ∧ ∀ i, i < fs.length → w0.heap.size ≤ loc i
  below : Below w0.heap.size w0 w
section
variable {w0 w w' : World} {S : Blocks} {room : Int} {fs : List Disk.Fin_} {b0 m0 nm : Nat} {loc : Nat → Nat} {blk : Nat → Option Nat} {seen : List Disk.Nm}
theorem Making.cloning (h : Making w0 S w room fs b0 m0 loc) : Cloning w0 S w room fs b0 m0 fs.length loc (fun _ => none) [] :=
  ⟨h.hd, h.map_, fun _ _ _ h => by simp at h, fun i f hi _ => ⟨rfl, h.files i f hi⟩, fun _ _ h => by simp at h, fun _ _ _ h => by simp at h, h.inj, h.low, h.below⟩
theorem Cloning.keep (h : Cloning w0 S w room fs b0 m0 nm loc blk seen) (hb : Below w0.heap.size w0 w') (hs : w.heap.size ≤ w'.heap.size) (hk : ∀ b, b < w.heap.size → (∀ cs t f, w.heap[b]? = some (.cells cs t f) → w'.heap[b]? = w.heap[b]?) ∧ (∀ es c, w.heap[b]? = some (.map es c) → w'.heap[b]? = w.heap[b]?)) : Cloning w0 S w' room fs b0 m0 nm loc blk seen := by
  have hc : ∀ {b : Nat} {cs : Array Value} {t : TypeId} {f : Nat × Nat}, w.heap[b]? = some (.cells cs t f) → w'.heap[b]? = w.heap[b]? := fun {b} {cs} {t} {f} hx => (hk b (Array.getElem?_eq_some_iff.1 hx).1).1 cs t f hx
  refine ⟨(hc h.hd).trans h.hd, ?_, fun i f hi hn => ?_, fun i f hi hn => ?_, fun i b hb' => ⟨(h.blow i b hb').1, Nat.lt_of_lt_of_le (h.blow i b hb').2 hs⟩, h.binj, h.inj, h.low, hb⟩
  · obtain ⟨es, c, hm⟩ := folder_map h.map_
    exact h.map_.same ((hk m0 h.map_.lt).2 es c hm)
  · obtain ⟨A, c, h1, h2⟩ := h.fin_ i f hi hn
    exact FileAt.same ⟨A, c, h1, h2⟩ (hc h1) fun x hx => by
      obtain ⟨cur, hcur⟩ := h2.ty hx
      exact hc hcur
  · obtain ⟨h0, A, c, h1, h2⟩ := h.raw i f hi hn
    exact ⟨h0, A, c, (hc h1).trans h1, h2⟩
theorem Cloning.far (h : Cloning w0 S w room fs b0 m0 nm loc blk seen) (hb : Below w.heap.size w w') : Cloning w0 S w' room fs b0 m0 nm loc blk seen :=
  h.keep (h.below.trans (hb.mono h.below.size)) hb.size fun b hlt => ⟨fun _ _ _ _ => hb.block b hlt, fun _ _ _ => hb.block b hlt⟩
/-- One file gets bytes of its own. -/
theorem Cloning.step (h : Cloning w0 S w room fs b0 m0 nm loc blk seen) (hok : Disk.allOk fs = true) {i n : Nat} {f : Disk.Fin_} {A : Option Addr} {c B : Nat} (hi : fs[i]? = some f) (hn : f.name ∉ seen) (hown : Own Rep.byte 5 w B nob (.slice A n c) f.bytes) (hB : w0.heap.size ≤ B) (hnew : ∀ j b, blk j = some b → b < B) :
    Cloning w0 S (w.setCell ⟨loc i, 0, none⟩ (.slice A n c)) room fs b0 m0 nm loc (fun j => if j = i then (Value.slice A n c).ownBlock else blk j) (seen ++ [f.name]) := by
  obtain ⟨-, A0, c0, h1, -⟩ := h.raw i f hi hn
  obtain ⟨hlen, hrow, hge⟩ := RowT.of_own hown
  have hil : i < fs.length := (List.getElem?_eq_some_iff.1 hi).1
  have hoth : ∀ b, b ≠ loc i → (w.setCell ⟨loc i, 0, none⟩ (.slice A n c)).heap[b]? = w.heap[b]? := fun b hb => Below.heap_setCell w ⟨loc i, 0, none⟩ _ b hb
  have hsz : (w.setCell ⟨loc i, 0, none⟩ (.slice A n c)).heap.size = w.heap.size := by simp [World.setCell]
  have hother : ∀ j g, fs[j]? = some g → j ≠ i → loc j ≠ loc i := fun j g hj hne e => hne (h.inj j i (List.getElem?_eq_some_iff.1 hj).1 hil e)
  have hnames : ∀ j g, fs[j]? = some g → g.name = f.name → j = i := fun j g hj e => by
    have a := (Disk.find_nowOf hok f.name j).2 ⟨g, hj, e⟩
    have b := (Disk.find_nowOf hok f.name i).2 ⟨f, hi, rfl⟩
    rw [a] at b; cases b; rfl
  refine ⟨(hoth b0 (ne_cells h.hd h1 (by decide))).trans h.hd, ?_, fun j g hj hm => ?_, fun j g hj hm => ?_, fun j b hb => ?_, fun j k b hj hk => ?_, h.inj, h.low, ?_⟩
  · obtain ⟨es, cl, hm⟩ := folder_map h.map_
    exact h.map_.same (hoth m0 fun e => NoMap.one h1 m0 e _ _ hm)
  · by_cases e : j = i
    · subst e
      rw [hi] at hj; cases hj
      rw [if_pos rfl]
      have hsyn : (0 : Int) ≤ f.syn := by
        have := Disk.allOk_at hok hil
        rw [List.getElem?_eq_getElem hil] at hi
        cases hi
        simp only [Disk.okF, Bool.and_eq_true, decide_eq_true_eq] at this
        omega
      refine ⟨A, c, ?_, hrow.same fun b hb => ?_⟩
      · have : (f.syn.toNat : Int) = f.syn := Int.toNat_of_nonneg hsyn
        simp [World.setCell, Array.getElem?_modify, h1, Disk.Fin_.nd, this, hlen]
      · obtain ⟨cur, hcur⟩ := hrow.ty hb
        exact hoth b (ne_cells hcur h1 (by decide))
    · rw [if_neg e]
      have hm' : g.name ∈ seen := by
        rcases List.mem_append.1 hm with hm | hm
        · exact hm
        · exact absurd (hnames j g hj (List.mem_singleton.1 hm)) e
      obtain ⟨A', c', g1, g2⟩ := h.fin_ j g hj hm'
      exact FileAt.same ⟨A', c', g1, g2⟩ (hoth _ (hother j g hj e)) fun b hb => by
        obtain ⟨cur, hcur⟩ := g2.ty hb
        exact hoth b (ne_cells hcur h1 (by decide))
  · have hm' : g.name ∉ seen := fun hh => hm (List.mem_append.2 (.inl hh))
    have e : j ≠ i := by
      rintro rfl
      rw [hi] at hj; cases hj
      exact hm (List.mem_append.2 (.inr (List.mem_singleton.2 rfl)))
    rw [if_neg e]
    obtain ⟨a0, A', c', g1, g2⟩ := h.raw j g hj hm'
    exact ⟨a0, A', c', (hoth _ (hother j g hj e)).trans g1, g2⟩
  · rw [hsz]
    split at hb
    · exact ⟨Nat.le_trans hB (hge b hb), hrow.lt hb⟩
    · exact h.blow j b hb
  · split at hj <;> split at hk
    · omega
    · have := hnew k b hk; have := hge b hj; omega
    · have := hnew j b hj; have := hge b hk; omega
    · exact h.binj j k b hj hk
  · exact h.below.setCell (h.low.2.2 i hil) _
end
section
variable {w : World}
set_option maxRecDepth 100000 in
set_option maxHeartbeats 8000000 in
theorem from_any (room : Int) (A : Option Addr) (n c : Nat) (fs : List Disk.Fin_) (S : Blocks) (hn : Hid (n = fs.length)) (hl : Hid (SliceAt Rep.fin w S A c fs)) (hS : Hid (∀ b, S b → b < w.heap.size)) (hbs : Hid (∀ f ∈ fs, f.bytes.length ≤ 1099511627776)) :
    Calls Tryz.prog 5 #[.int .i64 room, .slice A n c] w (FromPost w room fs) := by
  have hnc : n ≤ c := by rw [hn.out]; exact hl.out.len
  have hcm := hl.out.max
  by_cases hr0 : room < 0
  · have hE := Lib.hid (show Disk.fromErr room fs = 1 from by unfold Disk.fromErr; rw [if_pos (.inl hr0)])
    go_enter Tryz.func5, Tryz.ntmps5
    go_wp2_with fail
    go_ret2
    exact fromPost_bad hE.out (by decide) (Below.refl _ _)
  by_cases hr1 : 16777216 < room
  · have hE := Lib.hid (show Disk.fromErr room fs = 1 from by unfold Disk.fromErr; rw [if_pos (.inr (.inl hr1))])
    go_enter Tryz.func5, Tryz.ntmps5
    go_wp2_with fail
    go_ret2
    exact fromPost_bad hE.out (by decide) (Below.refl _ _)
  by_cases hn1 : 64 < n
  · have hE := Lib.hid (show Disk.fromErr room fs = 1 from by unfold Disk.fromErr; rw [if_pos (.inr (.inr (by rw [← hn.out]; exact hn1)))])
    go_enter Tryz.func5, Tryz.ntmps5
    go_wp2_with fail
    go_ret2
    exact fromPost_bad hE.out (by decide) (Below.refl _ _)
  have hr0' : 0 ≤ room := by omega
  have hr1' : room ≤ 16777216 := by omega
  have hn1' : n ≤ 64 := by omega
  have hE1 : Hid (Disk.fromErr room fs = if Disk.allOk fs = false then 1 else if room < Disk.total fs then 22 else 0) := Lib.hid (by
    unfold Disk.fromErr
    rw [if_neg (by rw [← hn.out]; omega)])
  go_enter Tryz.func5, Tryz.ntmps5
  have hmm := fun w => run_makeMap_0 (P := Tryz.prog) Tryz.underlying34 w
  go_wp2_with fail
  obtain ⟨w1, hw1⟩ : ∃ W, W = (w.alloc (.cells #[.map (some (w.heap.size + 1)), .map none, .slice none 0 0, .bool true, .bool true, .int .i64 room, .slice none 0 0, .int .i64 0, .int .i64 0] 40)).alloc (.map #[] 0) := ⟨_, rfl⟩
  have hM1 : Hid (Making w S w1 room (fs.take 0) w.heap.size (w.heap.size + 1) (fun _ => 0)) := Lib.hid (by
    have hb : Below w.heap.size w w1 := by
      rw [hw1]
      exact ((Below.refl _ w).alloc (Nat.le_refl _) _).alloc (by simp) _
    refine ⟨?_, ?_, fun i f hi => by simp at hi, fun i j hi => by simp at hi, ⟨Nat.le_refl _, Nat.le_succ _, fun i hi => by simp at hi⟩, hb⟩
    · rw [hw1]
      rw [Below.heap_alloc _ _ _ (by simp), heap_alloc_new]
    · rw [hw1]
      have h := Disk.Folder.made (w.alloc (.cells #[.map (some (w.heap.size + 1)), .map none, .slice none 0 0, .bool true, .bool true, .int .i64 room, .slice none 0 0, .int .i64 0, .int .i64 0] 40)) Tryz.prog 9 (fun _ => 0)
      have e : (w.alloc (.cells #[.map (some (w.heap.size + 1)), .map none, .slice none 0 0, .bool true, .bool true, .int .i64 room, .slice none 0 0, .int .i64 0, .int .i64 0] 40)).heap.size = w.heap.size + 1 := by simp
      rw [e] at h
      exact h)
  rw [← hw1]
  clear hw1 hmm
  obtain ⟨b0, hb0⟩ : ∃ b, b = w.heap.size := ⟨_, rfl⟩
  rw [← hb0] at hM1
  rw [← hb0]
  have HB0 := Lib.hid hb0
  clear hb0
  go_loopg [8, 9, 10, 34] n (fun q _ _ _ i wr => ∃ (j : Nat) (loc : Nat → Nat), q = n - j ∧ j ≤ n ∧ i = .int .i64 j ∧ Hid (Disk.allOk (fs.take j) = true) ∧ Hid (Making w S wr room (fs.take j) b0 (b0 + 1) loc))
  case atStart => exact ⟨0, _, by omega, by omega, rfl, Lib.hid rfl, hM1⟩
  case round =>
    obtain ⟨j, loc, rfl, hj, rfl, HOK, HM⟩ := hrel
    have c0 : wr.cell? ⟨b0, 0, none⟩ = some (.map (some (b0 + 1))) := (cell_of_row wr b0 0 _ _ (0, 0) HM.out.hd).trans rfl
    have hb0r : b0 < wr.heap.size := (Array.getElem?_eq_some_iff.1 HM.out.hd).1
    by_cases hjn : j < n
    · have hjl : j < fs.length := by rw [← hn.out]; exact hjn
      have htl : (fs.take j).length = j := by rw [List.length_take]; omega
      obtain ⟨g, o, cs, rfl, hg, hc, fA, fc, rfl, hfs, hfn, hfw⟩ := hl.out.at_ hjl
      obtain ⟨f, hfe⟩ : ∃ f, fs[j] = f := ⟨_, rfl⟩
      rw [hfe] at hc hfs hfn hfw
      obtain ⟨k1, k2, k3, k4⟩ := (hc.below HM.out.below (hS.out g hg)).four
      rw [show Rep.fin.n = 4 from rfl] at k1 k2 k3 k4
      obtain ⟨nmv, hnm⟩ : ∃ x : ByteArray, sv f.name = .string x ∧ x.data.toList = f.name ∧ x.size ≤ maxLen := ⟨⟨f.name.toArray⟩, rfl, rfl, by simpa [ByteArray.size] using hfn⟩
      obtain ⟨hnv, hnl, hns⟩ := hnm
      obtain ⟨m, hm⟩ : ∃ m, m = f.bytes.length := ⟨_, rfl⟩
      obtain ⟨sy, hsy⟩ : ∃ x, x = f.syn := ⟨_, rfl⟩
      rw [hnv] at k1
      rw [← hm] at k2
      rw [← hsy] at k3
      have hmb : m ≤ 1099511627776 := by rw [hm]; exact hbs.out f (by rw [← hfe]; exact List.getElem_mem hjl)
      have hgr : g < wr.heap.size := Nat.lt_of_lt_of_le (hS.out g hg) HM.out.below.size
      have hlk := fun (W : World) (hW : Below wr.heap.size wr W) => (HM.out.far hW).map_.look_ok (t := 34) (e := 80) Tryz.underlying9 Tryz.underlying34 (Tryz.zeroValue80 _) nmv hns
      obtain ⟨pp, hpp⟩ : ∃ p, Disk.ptrOf (Disk.nowOf (fs.take j)) loc nmv.data.toList = p := ⟨_, rfl⟩
      obtain ⟨tw, htw⟩ : ∃ b, (Disk.find (Disk.nowOf (fs.take j)) nmv.data.toList).isSome = b := ⟨_, rfl⟩
      rw [hpp, htw] at hlk
      have HLK := Lib.hid hlk
      have HTW : Hid (tw = (fs.take j).any fun g => g.name == f.name) := Lib.hid (by
        rw [← htw, hnl]
        rw [Bool.eq_iff_iff, List.any_eq_true]
        constructor
        · intro h
          obtain ⟨i, hi⟩ := Option.isSome_iff_exists.1 h
          obtain ⟨g, hg1, hg2⟩ := (Disk.find_nowOf HOK.out f.name i).1 hi
          exact ⟨g, List.mem_of_getElem? hg1, by simp [hg2]⟩
        · rintro ⟨g, hg1, hg2⟩
          obtain ⟨i, hi⟩ := List.getElem?_of_mem hg1
          have := (Disk.find_nowOf HOK.out f.name i).2 ⟨g, hi, by simpa using hg2⟩
          rw [this]; rfl)
      have HOKF : Hid (Disk.okF (fs.take j) f = (Disk.isName f.name && decide (0 ≤ sy) && decide (sy ≤ (m : Int)) && !tw)) := Lib.hid (by rw [HTW.out, hsy, hm]; rfl)
      have HFS := Lib.hid hfs
      have HFE := Lib.hid hfe
      have HM_ := Lib.hid hm
      have HSY := Lib.hid hsy
      have HNL := Lib.hid hnl
      clear hc hfs hfe hm hsy hnv hnl hlk hpp htw hfw
      go_wp2_with fail
      obtain ⟨w2, hw2⟩ : ∃ W, W = wr.alloc (.cells #[.string nmv, .slice fA m fc, .int .i64 sy, .bool f.bad] 78) := ⟨_, rfl⟩
      have hb2 : Hid (Below wr.heap.size wr w2) := Lib.hid (by rw [hw2]; exact Below.alloc (Below.refl _ _) (Nat.le_refl _) _)
      have hx2 : Hid (w2.heap[wr.heap.size]? = some (.cells #[.string nmv, .slice fA m fc, .int .i64 sy, .bool f.bad] 78 (0, 0))) := Lib.hid (by rw [hw2]; exact heap_alloc_new wr _)
      rw [← hw2]
      clear hw2
      have HM2 := Lib.hid (HM.out.far hb2.out)
      have c20 : w2.cell? ⟨b0, 0, none⟩ = some (.map (some (b0 + 1))) := (cell_of_row w2 b0 0 _ _ (0, 0) HM2.out.hd).trans rfl
      have x0 : w2.cell? ⟨wr.heap.size, 0, none⟩ = some (.string nmv) := (cell_of_row w2 _ 0 _ _ (0, 0) hx2.out).trans rfl
      clear k1 k2 k3 k4 c0
      have hlk3 : ∀ k, (Instr.lookup 34 (.map (some (b0 + 1))) (.string nmv) true).run Tryz.prog (w2.drewN k) = .ok (.tuple #[pp, .bool tw]) (w2.drewN k) := fun k => HLK.out _ (hb2.out.trans (below_dr _ _))
      go_quiet (fail)
      generalize hW : World.drewN _ _ = w3
      have hb3 : Hid (Below wr.heap.size wr w3) := Lib.hid (by rw [← hW]; exact hb2.out.trans (below_dr _ _))
      have hx3 : Hid (w3.heap[wr.heap.size]? = some (.cells #[.string nmv, .slice fA m fc, .int .i64 sy, .bool f.bad] 78 (0, 0))) := Lib.hid (by rw [← hW]; exact hx2.out)
      clear hW hlk3 c20 x0
      have y0 : w3.cell? ⟨wr.heap.size, 0, none⟩ = some (.string nmv) := (cell_of_row w3 _ 0 _ _ (0, 0) hx3.out).trans rfl
      have hbad : ∀ {q : Bool}, q = false → (Disk.isName f.name && decide (0 ≤ sy) && decide (sy ≤ (m : Int)) && !tw) = q → Hid (Disk.fromErr room fs = 1) := fun h1 h2 => Lib.hid (by
        rw [hE1.out, if_pos (Disk.allOk_bad hjl (by rw [HFE.out, HOKF.out, h2, h1]))])
      have HBAD := Lib.hid (fun (h : (Disk.isName f.name && decide (0 ≤ sy) && decide (sy ≤ (m : Int)) && !tw) = false) => hbad rfl h)
      clear hbad
      cases tw
      · obtain ⟨q, hq⟩ : ∃ q, Disk.isName nmv.data.toList = q := ⟨_, rfl⟩
        have HQ := Lib.hid hq
        clear hq
        cases q
        · have hE := HBAD.out (by rw [← HNL.out, HQ.out]; simp)
          go_wp2_with (go_at_call 19; refine (isName_any nmv _ hns).mono ?_; rintro e w4 ⟨rfl, hb4⟩; have HB4 := Lib.hid hb4; clear hb4; rw [HQ.out])
          go_ret2
          exact fromPost_bad hE.out (by decide) (HM.out.below.trans ((hb3.out.trans (HB4.out.mono hb3.out.size)).mono HM.out.below.size))
        · by_cases hs0 : sy < 0
          · have hE := HBAD.out (by rw [decide_eq_false (show ¬ (0 : Int) ≤ sy by omega)]; simp)
            have y2 : w3.cell? ⟨wr.heap.size, 2, none⟩ = some (.int .i64 sy) := (cell_of_row w3 _ 2 _ _ (0, 0) hx3.out).trans rfl
            go_wp2_with (go_at_call 19; refine (isName_any nmv _ hns).mono ?_; rintro e w4 ⟨rfl, hb4⟩; have HB4 := Lib.hid hb4; have z2 : w4.cell? ⟨wr.heap.size, 2, none⟩ = some (.int .i64 sy) := (hb4.cell (p := ⟨wr.heap.size, 2, none⟩) (World.block_lt_of_cell? w3 _ y2)).trans y2; clear hb4; rw [HQ.out])
            go_ret2
            exact fromPost_bad hE.out (by decide) (HM.out.below.trans ((hb3.out.trans (HB4.out.mono hb3.out.size)).mono HM.out.below.size))
          · have y1 : w3.cell? ⟨wr.heap.size, 1, none⟩ = some (.slice fA m fc) := (cell_of_row w3 _ 1 _ _ (0, 0) hx3.out).trans rfl
            have y2 : w3.cell? ⟨wr.heap.size, 2, none⟩ = some (.int .i64 sy) := (cell_of_row w3 _ 2 _ _ (0, 0) hx3.out).trans rfl
            have y3 : w3.cell? ⟨wr.heap.size, 3, none⟩ = some (.bool f.bad) := (cell_of_row w3 _ 3 _ _ (0, 0) hx3.out).trans rfl
            have hylt : wr.heap.size < w3.heap.size := World.block_lt_of_cell? w3 _ y2
            by_cases hs1 : (m : Int) < sy
            · have hE := HBAD.out (by rw [decide_eq_false (show ¬ sy ≤ (m : Int) by omega)]; simp)
              go_wp2_with (go_at_call 19; refine (isName_any nmv _ hns).mono ?_; rintro e w4 ⟨rfl, hb4⟩; have HB4 := Lib.hid hb4; have z2 : w4.cell? ⟨wr.heap.size, 2, none⟩ = some (.int .i64 sy) := (hb4.cell (p := ⟨wr.heap.size, 2, none⟩) hylt).trans y2; have z1 : w4.cell? ⟨wr.heap.size, 1, none⟩ = some (.slice fA m fc) := (hb4.cell (p := ⟨wr.heap.size, 1, none⟩) hylt).trans y1; clear hb4; rw [HQ.out])
              go_ret2
              exact fromPost_bad hE.out (by decide) (HM.out.below.trans ((hb3.out.trans (HB4.out.mono hb3.out.size)).mono HM.out.below.size))
            · have HOK2 : Hid (Disk.allOk (fs.take (j + 1)) = true) := Lib.hid (by
                rw [Disk.allOk_snoc hjl, HOK.out, HFE.out, HOKF.out, ← HNL.out, HQ.out, decide_eq_true (show (0 : Int) ≤ sy by omega), decide_eq_true (show sy ≤ (m : Int) by omega)]
                rfl)
              have HM3 := Lib.hid (HM.out.far hb3.out)
              have hb03 : b0 < w3.heap.size := Nat.lt_of_lt_of_le hb0r hb3.out.size
              have y9 : w3.cell? ⟨b0, 0, none⟩ = some (.map (some (b0 + 1))) := (cell_of_row w3 b0 0 _ _ (0, 0) HM3.out.hd).trans rfl
              clear hx2 HM2
              go_wp2_with (go_at_call 19; refine (isName_any nmv _ hns).mono ?_; rintro e w4 ⟨rfl, hb4⟩; have HB4 := Lib.hid hb4; have z2 : w4.cell? ⟨wr.heap.size, 2, none⟩ = some (.int .i64 sy) := (hb4.cell (p := ⟨wr.heap.size, 2, none⟩) hylt).trans y2; have z1 : w4.cell? ⟨wr.heap.size, 1, none⟩ = some (.slice fA m fc) := (hb4.cell (p := ⟨wr.heap.size, 1, none⟩) hylt).trans y1; have z0 : w4.cell? ⟨wr.heap.size, 0, none⟩ = some (.string nmv) := (hb4.cell (p := ⟨wr.heap.size, 0, none⟩) hylt).trans y0; have z3 : w4.cell? ⟨wr.heap.size, 3, none⟩ = some (.bool f.bad) := (hb4.cell (p := ⟨wr.heap.size, 3, none⟩) hylt).trans y3; have z9 : w4.cell? ⟨b0, 0, none⟩ = some (.map (some (b0 + 1))) := (hb4.cell (p := ⟨b0, 0, none⟩) hb03).trans y9; clear hb4 y0 y1 y2 y3 y9; rw [HQ.out])
              have HM4 := Lib.hid (HM3.out.far HB4.out)
              have hwr4 : wr.heap.size < w4.heap.size := Nat.lt_of_lt_of_le hylt HB4.out.size
              have hb04 : b0 < w4.heap.size := Nat.lt_of_lt_of_le hb03 HB4.out.size
              have hmlt := HM4.out.map_.lt
              have htl : (fs.take j).length = j := by rw [List.length_take]; omega
              have hwne : wr.heap.size ≠ w4.heap.size := by omega
              have hbne : b0 ≠ w4.heap.size := by omega
              have HFO : Hid (∀ ob, Fol (w4.alloc ob).drew (b0 + 1) j (Disk.nowOf (fs.take j)) fun i => if i = j then w4.heap.size else loc i) := Lib.hid fun ob => by
                have h1 := HM4.out.map_
                rw [htl] at h1
                refine (h1.same (w' := (w4.alloc ob).drew) (Below.heap_alloc w4 ob _ hmlt)).reloc fun i hi => ?_
                have := Disk.ids_nowOf HOK.out hi
                rw [htl] at this
                exact if_neg (Nat.ne_of_lt this)
              obtain ⟨w6, hrun, hf6, ht6⟩ := (HFO.out (.cells #[.slice fA m fc, .int .i64 sy, .bool f.bad] 84)).store (t := 34) (e := 80) (Disk.rising_nowOf _) Tryz.underlying9 Tryz.underlying34 (by simp only [maxLen]; omega) nmv hns j
              rw [if_pos rfl] at hrun
              have HF6 := Lib.hid hf6
              have HT6 := Lib.hid ht6
              clear hf6 ht6
              go_region
              all_goals
                go_wp2_with fail
                go_roundg (n - (j + 1))
                case measure => omega
                case rel =>
                  refine ⟨j + 1, _, by omega, by omega, by go_num, HOK2, Lib.hid (?_ : Making w S w6 room (fs.take (j + 1)) b0 (b0 + 1) fun i => if i = (fs.take j).length then w4.heap.size else loc i)⟩
                  rw [List.take_succ_eq_append_getElem hjl, HFE.out]
                  refine HM4.out.step (n := j + 1) HFS.out ?_ ?_ (by rw [htl])
                  · rw [htl, ← HNL.out]; exact HF6.out
                  · rw [← HM_.out, ← HSY.out]; exact HT6.out
      · have hE := HBAD.out (by simp)
        go_wp2_with fail
        go_ret2
        exact fromPost_bad hE.out (by decide) (HM.out.below.trans (hb3.out.mono HM.out.below.size))
    · obtain rfl : j = n := by omega
      have htk : fs.take j = fs := by rw [hn.out, List.take_length]
      rw [htk] at HOK HM
      have hE2 : Hid (Disk.fromErr room fs = if room < Disk.total fs then 22 else 0) := Lib.hid (by rw [hE1.out, HOK.out, if_neg (by decide)])
      have hl64 : fs.length ≤ 64 := by rw [← hn.out]; exact hn1'
      have hnl : (Disk.nowOf fs).length ≤ 64 := Nat.le_trans (Disk.len_nowOf fs) hl64
      have hfilt : Hid (∀ i ∈ Disk.ids (Disk.nowOf fs), loc i < wr.heap.size ∧ ∃ A c, wr.cell? ⟨loc i, 0, none⟩ = some (.slice A (szOf (Disk.fromSt room fs) i) c)) := Lib.hid fun i hi => by
        have hil := Disk.ids_nowOf HOK.out hi
        obtain ⟨A', c', h1, -⟩ := HM.out.files i fs[i] (List.getElem?_eq_getElem hil)
        refine ⟨(Array.getElem?_eq_some_iff.1 h1).1, A', c', ?_⟩
        have : szOf (Disk.fromSt room fs) i = fs[i].bytes.length := by simp [szOf, Disk.fromSt, hil, Disk.Fin_.nd]
        rw [this]
        exact (cell_of_row wr _ 0 _ _ (0, 0) h1).trans rfl
      have hsle : ∀ k, szAt (Disk.nowOf fs) (szOf (Disk.fromSt room fs)) k ≤ 1099511627776 := fun k => by
        unfold szAt szOf
        cases e : Disk.find (Disk.nowOf fs) k with
        | none => simp
        | some i =>
          have hil := Disk.ids_nowOf HOK.out (List.mem_map.2 ⟨_, Disk.mem_of_find e, rfl⟩)
          simp only [Option.map_some, Option.getD_some, Disk.fromSt, List.getElem?_map, List.getElem?_eq_getElem hil, Disk.Fin_.nd]
          exact hbs.out _ (List.getElem_mem hil)
      have hsb : Hid (∀ seen : List Disk.Nm, seen.Nodup → (∀ k ∈ seen, k ∈ Disk.keys (Disk.nowOf fs)) → (seen.map (szAt (Disk.nowOf fs) (szOf (Disk.fromSt room fs)))).sum ≤ 4611686018427387904) := Lib.hid fun seen hnd hm => by
        have h1 : seen.length ≤ 64 := by
          have h := hnd.length_le_of_subset (l₂ := Disk.keys (Disk.nowOf fs)) hm
          have : (Disk.keys (Disk.nowOf fs)).length = (Disk.nowOf fs).length := by simp [Disk.keys]
          omega
        have h2 : ∀ l : List Disk.Nm, (l.map (szAt (Disk.nowOf fs) (szOf (Disk.fromSt room fs)))).sum ≤ l.length * 1099511627776 := by
          intro l
          induction l with
          | nil => simp
          | cons k l ih =>
            have := hsle k
            simp only [List.map_cons, List.sum_cons, List.length_cons]
            omega
        have := h2 seen
        omega
      obtain ⟨tt, htt⟩ : ∃ x, x = Disk.total fs := ⟨_, rfl⟩
      have HTT := Lib.hid htt
      have HSUM : Hid (Calls Tryz.prog 20 #[.pointer (some ⟨b0, 0, none⟩)] wr fun e w' => e = .returned (.int .i64 (tt : Nat)) ∧ Below wr.heap.size wr w') := Lib.hid (by
        refine (sum_any b0 (b0 + 1) _ (Disk.nowOf fs) loc (szOf (Disk.fromSt room fs)) wr (Lib.hid HM.out.map_) c0 hfilt hb0r hsb).mono ?_
        rintro e w' ⟨seen, a1, a2, a3, rfl, hb⟩
        refine ⟨?_, hb⟩
        have : (seen.map (szAt (Disk.nowOf fs) (szOf (Disk.fromSt room fs)))).sum = tt := by
          rw [htt, ← Disk.size_from HOK.out room, ← Disk.sum_size (Disk.rising_nowOf fs) a1 a2 a3]
          congr 1
          refine List.map_congr_left fun k _ => ?_
          unfold szAt Disk.sizeAt szOf
          cases Disk.find (Disk.nowOf fs) k <;> rfl
        rw [this])
      clear htt hfilt hsle hsb htk
      by_cases hfull : room < (tt : Int)
      · have hE3 := Lib.hid (show Disk.fromErr room fs = 22 from by rw [hE2.out, if_pos (by rw [← HTT.out]; exact hfull)])
        go_wp2_with fail
        refine HSUM.out.mono ?_
        rintro e w5 ⟨rfl, hb5⟩
        have HB5 := Lib.hid hb5
        clear hb5
        go_wp2_with fail
        go_ret2
        exact fromPost_bad hE3.out (by decide) (HM.out.below.trans (HB5.out.mono HM.out.below.size))
      · have hE3 := Lib.hid (show Disk.fromErr room fs = 0 from by rw [hE2.out, if_neg (by rw [← HTT.out]; exact hfull)])
        go_wp2_with fail
        refine HSUM.out.mono ?_
        rintro e w5 ⟨rfl, hb5⟩
        have HM5 := Lib.hid (HM.out.far hb5)
        clear hb5 c0 HM HSUM
        have c50 : w5.cell? ⟨b0, 0, none⟩ = some (.map (some (b0 + 1))) := (cell_of_row w5 b0 0 _ _ (0, 0) HM5.out.hd).trans rfl
        go_wp2_with (at_range; refine Disk.wpList_range_folder rfl (.tmp 95) 34 rfl 9 80 Tryz.underlying9 Tryz.underlying34 (b0 + 1) _ (Disk.nowOf fs) loc rfl HM5.out.map_ ?_; intro w6 hg6 hgr6 hs6; have HG6 := Lib.hid hg6; have HGR6 := Lib.hid hgr6; have HS6 := Lib.hid hs6; clear hg6 hgr6 hs6)
        have HCL6 : Hid (Cloning w S w6 room fs b0 (b0 + 1) fs.length loc (fun _ => none) []) := Lib.hid (HM5.out.cloning.far ⟨HGR6.out.os, HGR6.out.tape, HGR6.out.output, HGR6.out.size, fun x hx => HGR6.out.block x hx (by simp)⟩)
        go_frame
        obtain ⟨r0, hr0⟩ : ∃ r, r = w5.heap.size := ⟨_, rfl⟩
        rw [← hr0] at HG6
        rw [← hr0]
        have hr0b : Hid (w.heap.size ≤ r0) := Lib.hid (by rw [hr0]; exact HM5.out.below.size)
        clear hr0 HM5 HGR6 HS6
        go_loopg [12] (Disk.nowOf fs).length (fun j _ wr => ∃ (q : Nat) (seen : List Disk.Nm) (blk : Nat → Option Nat), j = q ∧ Hid (Goi wr (b0 + 1) r0 fs.length (Disk.nowOf fs) loc seen q) ∧ Hid (Cloning w S wr room fs b0 (b0 + 1) fs.length loc blk seen))
        case atStart => exact ⟨_, [], _, rfl, HG6, HCL6⟩
        case round =>
          obtain ⟨q, seen, blk, hj, HG, HC⟩ := hrel
          have c0 : wr.cell? ⟨b0, 0, none⟩ = some (.map (some (b0 + 1))) := (cell_of_row wr b0 0 _ _ (0, 0) HC.out.hd).trans rfl
          have hnlen : (Disk.nowOf fs).length ≤ fs.length := Disk.len_nowOf fs
          go_wp2_with (first
            | (at_next; refine Disk.wpList_next_folder rfl (.tmp 96) rfl 9 Tryz.underlying9 (b0 + 1) r0 fs.length (Disk.nowOf fs) loc seen q rfl HG.out (fun h0 ha => ?_) (fun s i w7 cnt2 hss hfi hns hg7 hlt hgr hsz7 hen => ?_)
               all_goals try (
                 have HC7 : Hid (Cloning w S w7 room fs b0 (b0 + 1) fs.length loc blk seen) := Lib.hid (HC.out.keep (HC.out.below.grown hgr HC.out.below.size (fun x hx => by cases hx; exact hr0b.out)) hgr.size fun b hlt => ⟨fun cs t f hb => hgr.block b hlt (by intro e; cases e; exact going_iter HG.out _ _ _ hb), fun es cl hb => hgr.block b hlt (by intro e; cases e; exact going_map HG.out _ _ hb)⟩)
                 have hfd := Lib.hid hfi
                 obtain ⟨f, hf, hfn⟩ := (Disk.find_nowOf HOK.out _ _).1 hfi
                 have HF7 := Lib.hid hf
                 have HFN := Lib.hid hfn
                 have HNS := Lib.hid (show f.name ∉ seen from by rw [hfn]; exact hns)
                 obtain ⟨fA, fc, hh, hfs⟩ := (HC7.out.raw i f hf HNS.out).2
                 obtain ⟨m, hm⟩ : ∃ m, m = f.bytes.length := ⟨_, rfl⟩
                 rw [← hm] at hh
                 have HH := Lib.hid hh
                 have k0 : w7.cell? ⟨loc i, 0, none⟩ = some (.slice fA m fc) := (cell_of_row w7 _ 0 _ _ (0, 0) hh).trans rfl
                 have hli : loc i < w7.heap.size := (Array.getElem?_eq_some_iff.1 hh).1
                 have HMM := Lib.hid hm
                 have HFS := Lib.hid hfs
                 have hmb : m ≤ 1099511627776 := by rw [hm]; exact hbs.out f (List.mem_of_getElem? hf)
                 have HG7 := Lib.hid hg7
                 clear hg7 hgr hfi hns hf hfn hh hm hfs hsz7))
            | (go_at_call 21; refine (cloneBytes fA m fc f.bytes _ S HMM (Lib.hid (HFS.out.keep (fun _ h => h) (Same.of_below HC7.out.below hS.out))) (Lib.hid fun b hb => Nat.lt_of_lt_of_le (hS.out b hb) HC7.out.below.size) hmb).mono ?_; rintro e w8 ⟨A', c', rfl, h1, h2, hown, hb8⟩; have HOWN := Lib.hid hown; have HB8 := Lib.hid hb8; have k8 : w8.cell? ⟨loc i, 0, none⟩ = some (.slice fA m fc) := (hb8.cell (p := ⟨loc i, 0, none⟩) hli).trans k0; have f8 : w8.frozen? ⟨loc i, 0, none⟩ = false := (by simp [World.frozen?, hb8.block _ hli, HH.out]); clear hown hb8))
          · have hall : Hid (∀ i nd, (Disk.fromSt room fs).all[i]? = some nd → FileAt wr (loc i) (blk i) nd) := Lib.hid fun i nd hi => by
              simp only [Disk.fromSt, List.getElem?_map, Option.map_eq_some_iff] at hi
              obtain ⟨f, hf, rfl⟩ := hi
              refine HC.out.fin_ i f hf (ha _ ?_)
              have := (Disk.find_nowOf HOK.out f.name i).2 ⟨f, hf, rfl⟩
              exact Disk.mem_keys.2 (by rw [this]; rfl)
            refine (settled_any b0 (b0 + 1) fs.length (Disk.nowOf fs) loc _ wr (Lib.hid HC.out.map_) (Lib.hid (Disk.rising_nowOf fs)) (by omega) (Lib.hid HC.out.hd) (Lib.hid rfl) (Lib.hid (by simp))).mono ?_
            rintro e w9 ⟨rfl, b2, n2, hb2, hf2, hd2, ho2⟩
            have HF2 := Lib.hid hf2
            have HD2 := Lib.hid hd2
            have HO2 := Lib.hid ho2
            have HB2 := Lib.hid hb2
            clear hb2 hf2 hd2 ho2
            go_wp2_with fail
            go_ret2
            have hb0w := HC.out.low.1
            have hbw : Below w.heap.size w w9 := HC.out.below.trans (HO2.out.below HC.out.below.size fun b hb => by rw [hb]; exact hb0w)
            have hdisk : DiskB w9 (btw w.heap.size w9.heap.size) b0 (Disk.fromSt room fs) loc blk (b0 + 1) b2 (.slice none 0 0) none 0 := {
              hd := HD2.out.trans rfl
              now := (folder_o HC.out.map_ HO2.out (.one HC.out.hd)).tight
              old := HF2.out.tight
              ne := fun e => by have := HC.out.map_.lt; have := HB2.out; omega
              row := Own.nil _ _ _ _
              plan := .inl ⟨rfl, by simp [maxLen], fun _ => rfl⟩
              files := fun i nd hi => by
                obtain ⟨A', c', g1, g2⟩ := hall.out i nd hi
                exact FileAt.same ⟨A', c', g1, g2⟩ (HO2.out.block _ (Array.getElem?_eq_some_iff.1 g1).1 (ne_cells g1 HC.out.hd (by decide))) fun x hx => by
                  obtain ⟨cur, hcur⟩ := g2.ty hx
                  exact HO2.out.block x (g2.lt hx) (ne_cells hcur HC.out.hd (by decide))
              inj := fun i j hi hj => HC.out.inj i j (by simpa [Disk.fromSt] using hi) (by simpa [Disk.fromSt] using hj)
              binj := fun i j b _ _ => HC.out.binj i j b
              Fd := ⟨hb0w, (Array.getElem?_eq_some_iff.1 HD2.out).1⟩
              Fn := ⟨HC.out.low.2.1, Nat.lt_of_lt_of_le HC.out.map_.lt HO2.out.size⟩
              Fo := ⟨Nat.le_trans HC.out.below.size HB2.out, HF2.out.lt⟩
              Fr := fun b hb => by simp [Value.ownBlock] at hb
              Fp := fun b h0 => absurd rfl h0
              Fl := fun i hi => by
                have hil : i < fs.length := by simpa [Disk.fromSt] using hi
                obtain ⟨A', c', g1, -⟩ := hall.out i _ (List.getElem?_eq_getElem hi)
                exact ⟨HC.out.low.2.2 i hil, Nat.lt_of_lt_of_le (Array.getElem?_eq_some_iff.1 g1).1 HO2.out.size⟩
              Fb := fun i b _ hb => ⟨(HC.out.blow i b hb).1, Nat.lt_of_lt_of_le (HC.out.blow i b hb).2 HO2.out.size⟩
              lt := fun b hb => hb.2 }
            exact .inr ⟨hE3.out, b0, rfl, hdisk.at_, hbw⟩
          · go_roundg cnt2
            case measure => omega
            case rel =>
              have hC8 := HC7.out.far HB8.out
              have hst := hC8.step HOK.out HF7.out HNS.out HOWN.out HC7.out.below.size (fun j b hb => (HC7.out.blow j b hb).2)
              rw [HFN.out] at hst
              have hlr := HG7.out.lt
              have hlf := HG7.out.folder.lt
              have hoth : ∀ b, b ≠ loc i → b < w7.heap.size → (w8.setCell ⟨loc i, 0, none⟩ (.slice A' m c')).heap[b]? = w7.heap[b]? := fun b hb hlt => (Below.heap_setCell w8 ⟨loc i, 0, none⟩ _ b hb).trans (HB8.out.block b hlt)
              refine ⟨cnt2, _, _, rfl, Lib.hid (HG7.out.same (hoth _ ?_ hlf) (hoth _ ?_ hlr)), Lib.hid hst⟩
              · intro e
                obtain ⟨es, cl, hmp⟩ := folder_map HC7.out.map_
                rw [e] at hmp
                rw [HH.out] at hmp; cases hmp
              · intro e
                exact going_iter HG7.out _ _ _ (by rw [e]; exact HH.out)
end
end Go.Proofs.YtncpeogkccjmcaaGreatDoor
