/- Texts that lead to the claim, one behind the other: A disk in memory: its own block, its two maps, its files, its rows; what stays while memory turns. Conditions: none. -/
import Derived.Test.YtncpeogkccjmcaaGreatDoorTK3
import Derived.Test.YtncpeogkccjmcaaGreatDoorTK5
import Derived.Test.YtncpeogkccjmcaaGreatDoorTK1
import Derived.Test.YtncpeogkccjmcaaGreatDoorTK6
namespace Go.Proofs.YtncpeogkccjmcaaGreatDoor
open Go.RowKit Go.ChangeShapes Go.WideShapes Go.Deep

theorem Disk.Folder.tight {P : Program} {k : TypeId} {w : World} {b n : Nat} {l : Disk.Fo} {loc : Nat → Nat} (h : Disk.Folder P k w b n l loc) : Disk.Folder P k w b l.length l loc := by
  obtain ⟨D, ⟨es, clock, h1, h2, h3, h4⟩, hm⟩ := h
  refine ⟨D, ⟨es, clock, h1, h2, ?_, h4⟩, hm⟩
  rw [← hm.size, h4]
  simp [Maps.size, length_sorted]

def sv (l : List UInt8) : Value := .string ⟨l.toArray⟩
def ptrTo (loc : Nat → Nat) (c : Disk.Chg) : Value := .pointer (if c.dst = [] then none else some ⟨loc c.id, 0, none⟩)
def Rep.chg (loc : Nat → Nat) : Rep Disk.Chg where
  n := 3
  is := fun _ _ cs c => cs = [sv c.src, sv c.dst, ptrTo loc c] ∧ c.src.length ≤ maxLen ∧ c.dst.length ≤ maxLen
  size := by rintro _ _ _ _ ⟨rfl, _⟩; rfl
  keep := by rintro _ _ _ _ _ _ ⟨rfl, h⟩ _ _; exact ⟨rfl, h⟩
  one := by rintro _ _ _ _ ⟨rfl, _⟩; simp [Value.oneCell', sv, ptrTo]
def Rep.fault : Rep (Int × Int) where
  n := 2
  is := fun _ _ cs c => cs = [.int .i64 c.1, .int .i64 c.2] ∧ (Lit.int .i64 c.1).wf = true ∧ (Lit.int .i64 c.2).wf = true
  size := by rintro _ _ _ _ ⟨rfl, _⟩; rfl
  keep := by rintro _ _ _ _ _ _ ⟨rfl, h⟩ _ _; exact ⟨rfl, h⟩
  one := by rintro _ _ _ _ ⟨rfl, _⟩; simp [Value.oneCell']

/-- A file in memory: its block, its bytes. -/
def FileAt (w : World) (b : Nat) (blk : Option Nat) (nd : Disk.Nd) : Prop :=
  ∃ A c, w.heap[b]? = some (.cells #[.slice A nd.bytes.length c, .int .i64 nd.syn, .bool nd.bad] 84 (0, 0)) ∧ RowT 5 w A c blk nd.bytes

/-- A plan in memory: a row of the disk's own, or nothing. -/
def PlanAt (w : World) (A : Option Addr) (c : Nat) (l : List (Int × Int)) : Prop := (l = [] ∧ c ≤ maxLen ∧ (A = none → c = 0)) ∨ Own Rep.fault 123 w 0 nob (.slice A l.length c) l

/-- A disk in memory, its parts by name. -/
structure DiskB (w : World) (F : Blocks) (d : Nat) (s : Disk.St) (loc : Nat → Nat) (blk : Nat → Option Nat) (bn bo : Nat) (rowv : Value) (pA : Option Addr) (pC : Nat) : Prop where
  hd : w.heap[d]? = some (.cells #[.map (some bn), .map (some bo), rowv, .bool true, .bool s.on, .int .i64 s.room, .slice pA s.plan.length pC, .int .i64 s.tries, .int .i64 s.done] 40 (0, 0))
  now : Fol w bn s.now.length s.now loc
  old : Fol w bo s.old.length s.old loc
  ne : bn ≠ bo
  row : Own (Rep.chg loc) 121 w 0 nob rowv s.row
  plan : PlanAt w pA pC s.plan
  files : ∀ i nd, s.all[i]? = some nd → FileAt w (loc i) (blk i) nd
  inj : ∀ i j, i < s.all.length → j < s.all.length → loc i = loc j → i = j
  binj : ∀ i j b, i < s.all.length → j < s.all.length → blk i = some b → blk j = some b → i = j
  Fd : F d
  Fn : F bn
  Fo : F bo
  Fr : ∀ b, rowv.ownBlock = some b → F b
  Fp : ∀ b, s.plan ≠ [] → (Value.slice pA s.plan.length pC).ownBlock = some b → F b
  Fl : ∀ i, i < s.all.length → F (loc i)
  Fb : ∀ i b, i < s.all.length → blk i = some b → F b
  lt : ∀ b, F b → b < w.heap.size

/-- A disk in memory: F are its blocks. -/
def DiskL (w : World) (F : Blocks) (d : Nat) (s : Disk.St) (loc : Nat → Nat) : Prop := ∃ blk bn bo rowv pA pC, DiskB w F d s loc blk bn bo rowv pA pC
def DiskAt (w : World) (F : Blocks) (d : Nat) (s : Disk.St) : Prop := ∃ loc, DiskL w F d s loc
/-- The disk's blocks behind a call. -/
def grow (F : Blocks) (w w' : World) : Blocks := fun b => F b ∨ (w.heap.size ≤ b ∧ b < w'.heap.size)

section
variable {w w' : World} {F G : Blocks} {d : Nat} {s : Disk.St} {loc : Nat → Nat} {blk : Nat → Option Nat} {bn bo : Nat} {rowv : Value} {pA : Option Addr} {pC : Nat}

theorem FileAt.same {b : Nat} {bk : Option Nat} {nd : Disk.Nd} (h : FileAt w b bk nd) (h1 : w'.heap[b]? = w.heap[b]?) (h2 : ∀ x, bk = some x → w'.heap[x]? = w.heap[x]?) : FileAt w' b bk nd := by
  obtain ⟨A, c, h3, h4⟩ := h
  exact ⟨A, c, h1.trans h3, h4.same h2⟩
theorem PlanAt.only {A : Option Addr} {c : Nat} {l : List (Int × Int)} (h : PlanAt w A c l) (ho : Only G w w') (hG : ∀ b, l ≠ [] → (Value.slice A l.length c).ownBlock = some b → ¬ G b) : PlanAt w' A c l := by
  rcases h with h | h
  · exact .inl h
  · rcases Decidable.em (l = []) with e | e
    · subst e
      obtain ⟨A', n', c', e0, hn, h1, h2⟩ := h.form
      simp only [Value.slice.injEq] at e0
      obtain ⟨rfl, -, rfl⟩ := e0
      refine .inl ⟨rfl, by simp only [maxLen]; omega, fun hA => ?_⟩
      obtain ⟨A'', c'', e1, hs⟩ := h.slice
      simp only [Value.slice.injEq] at e1
      obtain ⟨rfl, -, rfl⟩ := e1
      exact hs.2.2.1 hA
    · exact .inr (h.only ho fun b hb => hG b e hb)
theorem PlanAt.slice {A : Option Addr} {c : Nat} {l : List (Int × Int)} (h : PlanAt w A c l) : SliceAt Rep.fault w (fun b => l ≠ [] ∧ (Value.slice A l.length c).ownBlock = some b) A c l := by
  rcases h with ⟨rfl, h1, h2⟩ | h
  · exact ⟨by simp, h1, h2, fun i hi => absurd hi (by simp)⟩
  · obtain ⟨A', c', e, hs⟩ := h.slice
    simp only [Value.slice.injEq] at e
    obtain ⟨rfl, -, rfl⟩ := e
    refine ⟨hs.1, hs.2.1, hs.2.2.1, fun i hi => ?_⟩
    obtain ⟨g, o, cs, e, hb, hc, hr⟩ := hs.2.2.2 i hi
    refine ⟨g, o, cs, e, ⟨fun h0 => by subst h0; simp at hi, ?_⟩, hc, Rep.fault.keep hr (fun b hb => ?_) (Same.refl _ _)⟩
    · rcases hb with hb | hb
      · exact hb.2.2.symm
      · exact hb.elim
    · rcases hb with hb | hb
      · exact ⟨fun h0 => by subst h0; simp at hi, hb.2.2.symm⟩
      · exact hb.elim

/-- A disk none of whose blocks have turned. -/
theorem DiskB.only (h : DiskB w F d s loc blk bn bo rowv pA pC) (ho : Only G w w') (hG : ∀ b, F b → ¬ G b) : DiskB w' F d s loc blk bn bo rowv pA pC := by
  have hs : ∀ b, F b → w'.heap[b]? = w.heap[b]? := fun b hb => ho.block b (h.lt b hb) (hG b hb)
  exact { hd := (hs d h.Fd).trans h.hd, now := h.now.same (hs bn h.Fn), old := h.old.same (hs bo h.Fo), ne := h.ne, row := h.row.only ho fun b hb => hG b (h.Fr b hb), plan := h.plan.only ho fun b h0 hb => hG b (h.Fp b h0 hb),
          files := fun i nd hi => (h.files i nd hi).same (hs _ (h.Fl i (List.getElem?_eq_some_iff.1 hi).1)) fun x hx => hs x (h.Fb i x (List.getElem?_eq_some_iff.1 hi).1 hx),
          inj := h.inj, binj := h.binj, Fd := h.Fd, Fn := h.Fn, Fo := h.Fo, Fr := h.Fr, Fp := h.Fp, Fl := h.Fl, Fb := h.Fb, lt := fun b hb => Nat.lt_of_lt_of_le (h.lt b hb) ho.size }
theorem DiskB.up (h : DiskB w F d s loc blk bn bo rowv pA pC) (hF : ∀ b, F b → G b) (hl : ∀ b, G b → b < w.heap.size) : DiskB w G d s loc blk bn bo rowv pA pC :=
  { h with Fd := hF _ h.Fd, Fn := hF _ h.Fn, Fo := hF _ h.Fo, Fr := fun b hb => hF b (h.Fr b hb), Fp := fun b h0 hb => hF b (h.Fp b h0 hb), Fl := fun i hi => hF _ (h.Fl i hi), Fb := fun i b hi hb => hF b (h.Fb i b hi hb), lt := hl }
theorem DiskB.far (h : DiskB w F d s loc blk bn bo rowv pA pC) (hb : Below w.heap.size w w') : DiskB w' F d s loc blk bn bo rowv pA pC := h.only (Only.of_below hb nob) fun _ _ h => h
theorem grow_lt (h : ∀ b, F b → b < w.heap.size) (hs : w.heap.size ≤ w'.heap.size) : ∀ b, grow F w w' b → b < w'.heap.size := fun b hb => by
  rcases hb with hb | hb
  · exact Nat.lt_of_lt_of_le (h b hb) hs
  · exact hb.2

/-! ### blocks of unlike kinds -/
theorem Own.content {α : Type} {r : Rep α} {e : TypeId} {base : Nat} {v : Value} {l : List α} (h : Own r e w base nob v l) {b : Nat} (hb : v.ownBlock = some b) : ∃ cur, w.heap[b]? = some (.cells cur e (0, 0)) := by
  obtain ⟨xs, hx, _⟩ := h
  rcases hx.2 with ⟨rfl, _⟩ | ⟨g', cap, cur, rfl, _, hg', _⟩
  · simp [Value.ownBlock] at hb
  simp [Value.ownBlock] at hb
  subst hb
  exact ⟨_, hg'⟩
theorem ne_cells {t t' : TypeId} {a b : Nat} {cs cs' : Array Value} {f f' : Nat × Nat} (h : w.heap[a]? = some (.cells cs t f)) (h' : w.heap[b]? = some (.cells cs' t' f')) (hne : t ≠ t') : a ≠ b := by
  rintro rfl
  rw [h] at h'
  injection h' with h'
  injection h' with _ e
  exact hne e
/-- No block of G is of such cells, a map. -/
def Other (w : World) (G : Blocks) (t : TypeId) : Prop := ∀ b, G b → ∀ cs f, w.heap[b]? ≠ some (.cells cs t f)
def NoMap (w : World) (G : Blocks) : Prop := ∀ b, G b → ∀ es c, w.heap[b]? ≠ some (.map es c)
theorem Other.one {b : Nat} {cs : Array Value} {t t' : TypeId} {f : Nat × Nat} (h : w.heap[b]? = some (.cells cs t f)) (hne : t ≠ t') : Other w (fun x => x = b) t' := by
  rintro _ rfl cs' f' h'
  rw [h] at h'
  injection h' with h'
  injection h' with _ e
  exact hne e
theorem Other.own {α : Type} {r : Rep α} {e t' : TypeId} {base : Nat} {v : Value} {l : List α} (h : Own r e w base nob v l) (hne : e ≠ t') : Other w (fun x => some x = v.ownBlock) t' := by
  intro b hb
  obtain ⟨cur, hc⟩ := h.content hb.symm
  exact Other.one hc hne b rfl
theorem Other.map {b : Nat} {es : Array MapEntry} {c : Nat} (h : w.heap[b]? = some (.map es c)) (t' : TypeId) : Other w (fun x => x = b) t' := by
  rintro _ rfl cs' f' h'
  rw [h] at h'
  cases h'
theorem NoMap.one {b : Nat} {cs : Array Value} {t : TypeId} {f : Nat × Nat} (h : w.heap[b]? = some (.cells cs t f)) : NoMap w (fun x => x = b) := by
  rintro _ rfl cs' f' h'
  rw [h] at h'
  cases h'
theorem NoMap.own {α : Type} {r : Rep α} {e : TypeId} {base : Nat} {v : Value} {l : List α} (h : Own r e w base nob v l) : NoMap w (fun x => some x = v.ownBlock) := by
  intro b hb
  obtain ⟨cur, hc⟩ := h.content hb.symm
  exact NoMap.one hc b rfl
theorem Other.or {G' : Blocks} {t : TypeId} (h : Other w G t) (h' : Other w G' t) : Other w (fun x => G x ∨ G' x) t := fun b hb => hb.elim (h b) (h' b)
theorem NoMap.or {G' : Blocks} (h : NoMap w G) (h' : NoMap w G') : NoMap w (fun x => G x ∨ G' x) := fun b hb => hb.elim (h b) (h' b)
theorem Other.row {blk : Option Nat} {t : TypeId} {A : Option Addr} {c : Nat} {l : List UInt8} (h : RowT 5 w A c blk l) (hne : 5 ≠ t) : Other w (fun x => some x = blk) t := fun b hb => by
  obtain ⟨cur, hc⟩ := h.ty hb.symm
  exact Other.one hc hne b rfl
theorem NoMap.row {blk : Option Nat} {A : Option Addr} {c : Nat} {l : List UInt8} (h : RowT 5 w A c blk l) : NoMap w (fun x => some x = blk) := fun b hb => by
  obtain ⟨cur, hc⟩ := h.ty hb.symm
  exact NoMap.one hc b rfl
theorem folder_map {b n : Nat} {l : Disk.Fo} (h : Fol w b n l loc) : ∃ es c, w.heap[b]? = some (.map es c) := by
  obtain ⟨D, ⟨es, clock, h1, _⟩, _⟩ := h
  exact ⟨es, clock, h1⟩
theorem folder_o {b n : Nat} {l : Disk.Fo} (h : Fol w b n l loc) (ho : Only G w w') (hG : NoMap w G) : Fol w' b n l loc := by
  obtain ⟨es, c, hm⟩ := folder_map h
  exact h.same (ho.block b h.lt fun hb => hG b hb es c hm)
theorem DiskB.row_o (h : DiskB w F d s loc blk bn bo rowv pA pC) (ho : Only G w w') (hG : Other w G 121) : Own (Rep.chg loc) 121 w' 0 nob rowv s.row :=
  h.row.only ho fun b hb hGb => by
    obtain ⟨cur, hc⟩ := h.row.content hb
    exact hG b hGb _ _ hc
theorem PlanAt.other {A : Option Addr} {c : Nat} {l : List (Int × Int)} (h : PlanAt w A c l) (ho : Only G w w') (hG : Other w G 123) : PlanAt w' A c l :=
  h.only ho fun b h0 hb hGb => by
    rcases h with h | h
    · exact h0 h.1
    · obtain ⟨cur, hc⟩ := h.content hb
      exact hG b hGb _ _ hc
theorem DiskB.files_o (h : DiskB w F d s loc blk bn bo rowv pA pC) (ho : Only G w w') (hG : Other w G 84) (hG' : Other w G 5) : ∀ i nd, s.all[i]? = some nd → FileAt w' (loc i) (blk i) nd := by
  intro i nd hi
  obtain ⟨A, c, h1, h2⟩ := h.files i nd hi
  refine FileAt.same ⟨A, c, h1, h2⟩ (ho.block _ (Array.getElem?_eq_some_iff.1 h1).1 fun hb => hG _ hb _ _ h1) fun x hx => ?_
  obtain ⟨cur, hc⟩ := h2.ty hx
  exact ho.block _ (Array.getElem?_eq_some_iff.1 hc).1 fun hb => hG' _ hb _ _ hc

/-! ### what turns -/
/-- The disk's own block. -/
theorem DiskB.header (h : DiskB w F d s loc blk bn bo rowv pA pC) {t : Disk.St} (ho : Only (fun x => x = d) w w')
    (hd : w'.heap[d]? = some (.cells #[.map (some bn), .map (some bo), rowv, .bool true, .bool t.on, .int .i64 t.room, .slice pA t.plan.length pC, .int .i64 t.tries, .int .i64 t.done] 40 (0, 0)))
    (e1 : t.all = s.all) (e2 : t.now = s.now) (e3 : t.old = s.old) (e4 : t.row = s.row) (e5 : t.plan = s.plan) : DiskB w' F d t loc blk bn bo rowv pA pC :=
  { hd := hd, now := by rw [e2]; exact folder_o h.now ho (.one h.hd), old := by rw [e3]; exact folder_o h.old ho (.one h.hd), ne := h.ne, row := by rw [e4]; exact h.row_o ho (.one h.hd (by decide)),
    plan := by rw [e5]; exact h.plan.other ho (.one h.hd (by decide)), files := by rw [e1]; exact h.files_o ho (.one h.hd (by decide)) (.one h.hd (by decide)), inj := by rw [e1]; exact h.inj, binj := by rw [e1]; exact h.binj,
    Fd := h.Fd, Fn := h.Fn, Fo := h.Fo, Fr := h.Fr, Fp := by rw [e5]; exact h.Fp, Fl := by rw [e1]; exact h.Fl, Fb := by rw [e1]; exact h.Fb, lt := fun b hb => Nat.lt_of_lt_of_le (h.lt b hb) ho.size }
/-- A new plan. -/
theorem DiskB.newPlan (h : DiskB w F d s loc blk bn bo rowv pA pC) {t : Disk.St} {A : Option Addr} {c : Nat} (ho : Only (fun x => x = d) w w')
    (hd : w'.heap[d]? = some (.cells #[.map (some bn), .map (some bo), rowv, .bool true, .bool t.on, .int .i64 t.room, .slice A t.plan.length c, .int .i64 t.tries, .int .i64 t.done] 40 (0, 0)))
    (e1 : t.all = s.all) (e2 : t.now = s.now) (e3 : t.old = s.old) (e4 : t.row = s.row) (hp : PlanAt w' A c t.plan) (hpF : ∀ b, t.plan ≠ [] → (Value.slice A t.plan.length c).ownBlock = some b → w.heap.size ≤ b ∧ b < w'.heap.size) :
    DiskB w' (grow F w w') d t loc blk bn bo rowv A c :=
  { hd := hd, now := by rw [e2]; exact folder_o h.now ho (.one h.hd), old := by rw [e3]; exact folder_o h.old ho (.one h.hd), ne := h.ne, row := by rw [e4]; exact h.row_o ho (.one h.hd (by decide)),
    plan := hp, files := by rw [e1]; exact h.files_o ho (.one h.hd (by decide)) (.one h.hd (by decide)), inj := by rw [e1]; exact h.inj, binj := by rw [e1]; exact h.binj,
    Fd := .inl h.Fd, Fn := .inl h.Fn, Fo := .inl h.Fo, Fr := fun b hb => .inl (h.Fr b hb), Fp := fun b h0 hb => .inr (hpF b h0 hb), Fl := by rw [e1]; exact fun i hi => .inl (h.Fl i hi), Fb := by rw [e1]; exact fun i b hi hb => .inl (h.Fb i b hi hb), lt := grow_lt h.lt ho.size }
/-- A file of the disk. -/
theorem DiskB.file (h : DiskB w F d s loc blk bn bo rowv pA pC) {i : Nat} {nd : Disk.Nd} (hi : s.all[i]? = some nd) (f : Disk.Nd → Disk.Nd) (ho : Only (fun x => x = loc i ∨ some x = blk i) w w') {blk' : Option Nat} (hf : FileAt w' (loc i) blk' (f nd))
    (hb : blk' = blk i ∨ ∃ b, blk' = some b ∧ w.heap.size ≤ b ∧ b < w'.heap.size) : DiskB w' (grow F w w') d (s.setNd i f) loc (fun j => if j = i then blk' else blk j) bn bo rowv pA pC := by
  have hil : i < s.all.length := (List.getElem?_eq_some_iff.1 hi).1
  obtain ⟨A, c, h1, h2⟩ := h.files i nd hi
  have hlen : (s.setNd i f).all.length = s.all.length := by simp [Disk.St.setNd]
  have hO : ∀ t, 84 ≠ t → 5 ≠ t → Other w (fun x => x = loc i ∨ some x = blk i) t := fun t a b => (Other.one h1 a).or (Other.row h2 b)
  have hM : NoMap w (fun x => x = loc i ∨ some x = blk i) := (NoMap.one h1).or (NoMap.row h2)
  have hold : ∀ j, j < s.all.length → j ≠ i → ∀ b, blk j = some b → blk' ≠ some b := by
    rintro j hj hji b hjb e
    rcases hb with hb | ⟨b', hb, hb1, hb2⟩
    · exact hji (h.binj j i b hj hil hjb (hb ▸ e))
    · rw [hb] at e; cases e
      have := h.lt b (h.Fb j b hj hjb); omega
  refine { hd := (ho.block d (Array.getElem?_eq_some_iff.1 h.hd).1 fun e => hO _ (by decide) (by decide) d e _ _ h.hd).trans h.hd, now := folder_o h.now ho hM, old := folder_o h.old ho hM, ne := h.ne, row := h.row_o ho (hO _ (by decide) (by decide)), plan := h.plan.other ho (hO _ (by decide) (by decide)),
           files := fun j nd' hj => ?_, inj := by rw [hlen]; exact h.inj, binj := fun j k b hj hk ha hb' => ?_,
           Fd := .inl h.Fd, Fn := .inl h.Fn, Fo := .inl h.Fo, Fr := fun b hb => .inl (h.Fr b hb), Fp := fun b h0 hb => .inl (h.Fp b h0 hb), Fl := by rw [hlen]; exact fun j hj => .inl (h.Fl j hj), Fb := fun j b hj hjb => ?_, lt := grow_lt h.lt ho.size }
  · simp only [Disk.St.setNd, List.getElem?_modify] at hj
    split at hj
    · rename_i e
      subst e
      rw [hi] at hj
      obtain rfl : f nd = nd' := by simpa using hj
      rw [if_pos rfl]
      exact hf
    · rename_i e
      have hj' : s.all[j]? = some nd' := by simpa using hj
      have hjl : j < s.all.length := (List.getElem?_eq_some_iff.1 hj').1
      have hji : j ≠ i := fun h => e h.symm
      rw [if_neg hji]
      obtain ⟨A', c', g1, g2⟩ := h.files j nd' hj'
      refine FileAt.same ⟨A', c', g1, g2⟩ (ho.block _ (Array.getElem?_eq_some_iff.1 g1).1 ?_) fun x hx => ?_
      · rintro (e | e)
        · exact hji (h.inj j i hjl hil e)
        · exact Other.row h2 (by decide) _ e _ _ g1
      · obtain ⟨cur, hc⟩ := g2.ty hx
        refine ho.block _ (Array.getElem?_eq_some_iff.1 hc).1 ?_
        rintro (e | e)
        · exact Other.one h1 (by decide) _ e _ _ hc
        · exact hji (h.binj j i x hjl hil hx e.symm)
  · rw [hlen] at hj hk
    split at ha
    · rename_i e; subst e
      split at hb'
      · rename_i e; exact e.symm
      · rename_i e; exact absurd ha (hold k hk e b hb')
    · rename_i e
      split at hb'
      · exact absurd hb' (hold j hj e b ha)
      · exact h.binj j k b hj hk ha hb'
  · rw [hlen] at hj
    split at hjb
    · rename_i e; subst e
      rcases hb with hb | ⟨b', hb, hb1, hb2⟩
      · exact .inl (h.Fb j b hj (hb ▸ hjb))
      · rw [hb] at hjb; cases hjb; exact .inr ⟨hb1, hb2⟩
    · exact .inl (h.Fb j b hj hjb)
theorem Rep.chg_loc {loc g : Nat → Nat} {e : TypeId} {base : Nat} {v : Value} {l : List Disk.Chg} (h : Own (Rep.chg loc) e w base nob v l) (hg : ∀ c ∈ l, c.dst ≠ [] → g c.id = loc c.id) : Own (Rep.chg g) e w base nob v l := by
  obtain ⟨xs, hx, hS, h1, hr⟩ := h
  refine ⟨xs, hx, hS, h1, fun i hi => ?_⟩
  obtain ⟨a, b⟩ := hr i hi
  refine ⟨a.trans ?_, b⟩
  have : ptrTo loc l[i] = ptrTo g l[i] := by
    unfold ptrTo
    split
    · rfl
    · rename_i hd; rw [hg _ (List.getElem_mem hi) hd]
  rw [this]
/-- A new file. -/
theorem DiskB.newFile (h : DiskB w F d s loc blk bn bo rowv pA pC) (hs : Disk.Fine s) (hw : w' = w.alloc (.cells #[.slice none 0 0, .int .i64 0, .bool false] 84)) :
    DiskB w' (grow F w w') d { s with all := s.all ++ [⟨[], 0, false⟩] } (fun j => if j = s.all.length then w.heap.size else loc j) (fun j => if j = s.all.length then none else blk j) bn bo rowv pA pC := by
  subst hw
  have hf := h.far (w' := w.alloc (.cells #[.slice none 0 0, .int .i64 0, .bool false] 84)) (Below.alloc (Below.refl _ _) (Nat.le_refl _) _)
  have hsz : w.heap.size ≤ (w.alloc (.cells #[.slice none 0 0, .int .i64 0, .bool false] 84)).heap.size := by simp
  have hne : ∀ j, j < s.all.length → j ≠ s.all.length := fun j hj => Nat.ne_of_lt hj
  refine { hd := hf.hd, now := hf.now.reloc fun i hi => if_neg (hne i (hs.nowI i hi)), old := hf.old.reloc fun i hi => if_neg (hne i (hs.oldI i hi)), ne := h.ne, row := Rep.chg_loc hf.row fun c hc hd => if_neg (hne _ (hs.rowI c hc hd)), plan := hf.plan,
           files := fun i nd hi => ?_, inj := fun i j hi hj e => ?_, binj := fun i j b hi hj e e' => ?_, Fd := .inl h.Fd, Fn := .inl h.Fn, Fo := .inl h.Fo, Fr := fun b hb => .inl (h.Fr b hb), Fp := fun b h0 hb => .inl (h.Fp b h0 hb), Fl := fun i hi => ?_, Fb := fun i b hi hb => ?_, lt := grow_lt h.lt hsz }
  · rcases Nat.lt_or_ge i s.all.length with hl | hl
    · rw [List.getElem?_append_left hl] at hi
      rw [if_neg (hne i hl), if_neg (hne i hl)]
      exact hf.files i nd hi
    · rw [List.getElem?_append_right hl] at hi
      have h0 : i - s.all.length = 0 := by
        have := (List.getElem?_eq_some_iff.1 hi).1
        simp at this; omega
      obtain rfl : i = s.all.length := by omega
      rw [h0] at hi
      simp only [List.getElem?_cons_zero, Option.some.injEq] at hi
      subst hi
      rw [if_pos rfl, if_pos rfl]
      exact ⟨none, 0, heap_alloc_new w _, .none_ _ _ _⟩
  · simp only [List.length_append, List.length_cons, List.length_nil] at hi hj
    split at e <;> split at e
    · omega
    · have := h.lt _ (h.Fl j (by omega)); omega
    · have := h.lt _ (h.Fl i (by omega)); omega
    · exact h.inj i j (by omega) (by omega) e
  · simp only [List.length_append, List.length_cons, List.length_nil] at hi hj
    split at e
    · cases e
    · split at e'
      · cases e'
      · exact h.binj i j b (by omega) (by omega) e e'
  · simp only [List.length_append, List.length_cons, List.length_nil] at hi
    split
    · exact .inr ⟨Nat.le_refl _, by simp⟩
    · exact .inl (h.Fl i (by omega))
  · simp only [List.length_append, List.length_cons, List.length_nil] at hi
    split at hb
    · cases hb
    · exact .inl (h.Fb i b (by omega) hb)
/-- A change of the folder: the map and the row written. -/
theorem DiskB.changed (h : DiskB w F d s loc blk bn bo rowv pA pC) (c : Disk.Chg) {n : Nat} {rowv' : Value} (ho : Only (fun x => (x = bn ∨ some x = rowv.ownBlock) ∨ x = d) w w')
    (hd : w'.heap[d]? = some (.cells #[.map (some bn), .map (some bo), rowv', .bool true, .bool s.on, .int .i64 s.room, .slice pA s.plan.length pC, .int .i64 s.tries, .int .i64 s.done] 40 (0, 0)))
    (hm : Fol w' bn n (Disk.behind s.now c) loc) (hr : Own (Rep.chg loc) 121 w' 0 nob rowv' (s.row ++ [c])) (hb : rowv'.ownBlock = rowv.ownBlock ∨ ∃ b, rowv'.ownBlock = some b ∧ w.heap.size ≤ b ∧ b < w'.heap.size) :
    DiskB w' (grow F w w') d (s.changes c) loc blk bn bo rowv' pA pC := by
  obtain ⟨es, cl, hmap⟩ := folder_map h.now
  obtain ⟨es', cl', hmap'⟩ := folder_map h.old
  have hO : ∀ t, 121 ≠ t → 40 ≠ t → Other w (fun x => (x = bn ∨ some x = rowv.ownBlock) ∨ x = d) t := fun t a b => ((Other.map hmap t).or (Other.own h.row a)).or (Other.one h.hd b)
  refine { hd := hd, now := hm.tight, old := h.old.same (ho.block bo h.old.lt ?_), ne := h.ne, row := hr, plan := h.plan.other ho (hO _ (by decide) (by decide)), files := h.files_o ho (hO _ (by decide) (by decide)) (hO _ (by decide) (by decide)), inj := h.inj, binj := h.binj,
           Fd := .inl h.Fd, Fn := .inl h.Fn, Fo := .inl h.Fo, Fr := fun b hb' => ?_, Fp := fun b h0 hb => .inl (h.Fp b h0 hb), Fl := fun i hi => .inl (h.Fl i hi), Fb := fun i b hi hb => .inl (h.Fb i b hi hb), lt := grow_lt h.lt ho.size }
  · rintro ((e | e) | e)
    · exact h.ne e.symm
    · exact NoMap.own h.row _ e _ _ hmap'
    · exact NoMap.one h.hd _ e _ _ hmap'
  · rcases hb with hb | ⟨b', hb, hb1, hb2⟩
    · exact .inl (h.Fr b (hb ▸ hb'))
    · rw [hb] at hb'; cases hb'; exact .inr ⟨hb1, hb2⟩
/-- The folder settled: a new map, no row. -/
theorem DiskB.set_ (h : DiskB w F d s loc blk bn bo rowv pA pC) {b2 n2 : Nat} (ho : Only (fun x => x = d) w w')
    (hd : w'.heap[d]? = some (.cells #[.map (some bn), .map (some b2), .slice none 0 0, .bool true, .bool s.on, .int .i64 s.room, .slice pA s.plan.length pC, .int .i64 s.tries, .int .i64 s.done] 40 (0, 0)))
    (hm : Fol w' b2 n2 s.now loc) (hb : w.heap.size ≤ b2) : DiskB w' (grow F w w') d s.settled loc blk bn b2 (.slice none 0 0) pA pC :=
  { hd := hd, now := folder_o h.now ho (.one h.hd), old := hm.tight, ne := fun e => by have := h.now.lt; omega, row := Own.nil _ _ _ _,
    plan := h.plan.other ho (.one h.hd (by decide)), files := h.files_o ho (.one h.hd (by decide)) (.one h.hd (by decide)), inj := h.inj, binj := h.binj,
    Fd := .inl h.Fd, Fn := .inl h.Fn, Fo := .inr ⟨hb, hm.lt⟩, Fr := fun b hb => by simp [Value.ownBlock] at hb, Fp := fun b h0 hb => .inl (h.Fp b h0 hb), Fl := fun i hi => .inl (h.Fl i hi), Fb := fun i b hi hb => .inl (h.Fb i b hi hb), lt := grow_lt h.lt ho.size }
/-- What a call reads off the disk. -/
theorem DiskB.cell (h : DiskB w F d s loc blk bn bo rowv pA pC) (k : Nat) (v : Value) (hv : (#[.map (some bn), .map (some bo), rowv, .bool true, .bool s.on, .int .i64 s.room, .slice pA s.plan.length pC, .int .i64 s.tries, .int .i64 s.done] : Array Value)[k]? = some v) : w.cell? ⟨d, k, none⟩ = some v :=
  (cell_of_row w d k _ _ (0, 0) h.hd).trans hv
theorem DiskB.frozen (h : DiskB w F d s loc blk bn bo rowv pA pC) (k : Nat) : w.frozen? ⟨d, k, none⟩ = false := by simp [World.frozen?, h.hd]
end
end Go.Proofs.YtncpeogkccjmcaaGreatDoor
