/- A disk with files, in lists: when there is one, and which. No program in sight. No conditions. -/
import Derived.Test.YtncpeogkccjmcaaDiskFine
namespace Go.Proofs.Ytncpeogkccjmcaa
namespace Disk

/-- A file as it is handed in. -/
structure Fin_ where
  name : Nm
  bytes : List UInt8
  syn : Int
  bad : Bool
def Fin_.nd (f : Fin_) : Nd := ⟨f.bytes, f.syn.toNat, f.bad⟩
def nowGo : Nat → Fo → List Fin_ → Fo
  | _, l, [] => l
  | i, l, f :: r => nowGo (i + 1) (put l f.name i) r
/-- The folder of these files. -/
def nowOf (fs : List Fin_) : Fo := nowGo 0 [] fs
theorem nowGo_snoc (f : Fin_) : ∀ (fs : List Fin_) (i : Nat) (l : Fo), nowGo i l (fs ++ [f]) = put (nowGo i l fs) f.name (i + fs.length)
  | [], i, l => rfl
  | g :: fs, i, l => by
    rw [List.cons_append, nowGo, nowGo_snoc f fs, nowGo, List.length_cons]
    congr 1; omega
theorem nowOf_snoc (fs : List Fin_) (f : Fin_) : nowOf (fs ++ [f]) = put (nowOf fs) f.name fs.length := by
  unfold nowOf; rw [nowGo_snoc, Nat.zero_add]
/-- May it be taken behind these? -/
def okF (fs : List Fin_) (f : Fin_) : Bool := isName f.name && decide (0 ≤ f.syn) && decide (f.syn ≤ f.bytes.length) && !fs.any fun g => g.name == f.name
def okGo : List Fin_ → List Fin_ → Bool
  | _, [] => true
  | a, f :: r => okF a f && okGo (a ++ [f]) r
def allOk (fs : List Fin_) : Bool := okGo [] fs
theorem okGo_append (b : List Fin_) : ∀ a c, okGo a (c ++ b) = (okGo a c && okGo (a ++ c) b)
  | a, [] => by simp [okGo]
  | a, f :: c => by
    rw [List.cons_append, okGo, okGo_append b (a ++ [f]) c, okGo, Bool.and_assoc, List.append_assoc]
    rfl
def total (fs : List Fin_) : Nat := (fs.map (·.bytes.length)).sum
/-- What there is to say against it. -/
def fromErr (room : Int) (fs : List Fin_) : Int := if room < 0 ∨ 16777216 < room ∨ 64 < fs.length then 1 else if allOk fs = false then 1 else if room < total fs then 22 else 0
/-- The disk. -/
def fromSt (room : Int) (fs : List Fin_) : St := ⟨room, true, fs.map Fin_.nd, nowOf fs, nowOf fs, [], [], 0, 0⟩

theorem rising_nowOf (fs : List Fin_) : Rising (nowOf fs) := by
  unfold nowOf
  suffices H : ∀ (fs : List Fin_) i l, Rising l → Rising (nowGo i l fs) from H fs 0 [] List.Pairwise.nil
  intro fs
  induction fs with
  | nil => exact fun _ _ h => h
  | cons f r ih => exact fun i l h => ih _ _ (h.put _ _)
theorem allOk_take {fs : List Fin_} (h : allOk fs = true) (j : Nat) : allOk (fs.take j) = true := by
  rw [← List.take_append_drop j fs] at h
  unfold allOk at h ⊢
  rw [okGo_append, Bool.and_eq_true] at h
  exact h.1
theorem allOk_at {fs : List Fin_} (h : allOk fs = true) {j : Nat} (hj : j < fs.length) : okF (fs.take j) fs[j] = true := by
  have h1 := allOk_take h (j + 1)
  rw [List.take_succ_eq_append_getElem hj] at h1
  unfold allOk at h1
  rw [okGo_append, Bool.and_eq_true, List.nil_append] at h1
  have := h1.2
  rw [okGo, Bool.and_eq_true] at this
  exact this.1
theorem allOk_snoc {fs : List Fin_} {j : Nat} (hj : j < fs.length) : allOk (fs.take (j + 1)) = (allOk (fs.take j) && okF (fs.take j) fs[j]) := by
  rw [List.take_succ_eq_append_getElem hj]
  unfold allOk
  rw [okGo_append, List.nil_append, okGo, okGo, Bool.and_true]
theorem allOk_bad {fs : List Fin_} {j : Nat} (hj : j < fs.length) (h : okF (fs.take j) fs[j] = false) : allOk fs = false := by
  cases e : allOk fs with
  | false => rfl
  | true => rw [allOk_at e hj] at h; cases h
/-- What a look in the folder of some files finds. -/
theorem find_nowOf {fs : List Fin_} (h : allOk fs = true) : ∀ (k : Nm) (i : Nat), find (nowOf fs) k = some i ↔ ∃ f, fs[i]? = some f ∧ f.name = k := by
  suffices H : ∀ j, j ≤ fs.length → ∀ (k : Nm) (i : Nat), find (nowOf (fs.take j)) k = some i ↔ ∃ f, (fs.take j)[i]? = some f ∧ f.name = k by
    have := H fs.length (Nat.le_refl _)
    rwa [List.take_length] at this
  intro j
  induction j with
  | zero => intro _ k i; simp [nowOf, nowGo, find]
  | succ j ih =>
    intro hj k i
    have hjl : j < fs.length := hj
    have ih := ih (by omega)
    have hok := allOk_at h hjl
    rw [List.take_succ_eq_append_getElem hjl, nowOf_snoc]
    have hlen : (fs.take j).length = j := by rw [List.length_take]; omega
    rw [hlen]
    have hnew : ∀ f ∈ fs.take j, f.name ≠ fs[j].name := by
      intro f hf e
      have : ((fs.take j).any fun g => g.name == fs[j].name) = true := List.any_eq_true.2 ⟨f, hf, by simp [e]⟩
      simp [okF, this] at hok
    by_cases e : k = fs[j].name
    · subst e
      rw [find_put_same (rising_nowOf _)]
      constructor
      · intro hi; cases hi
        exact ⟨fs[j], by rw [List.getElem?_append_right (by omega), hlen, Nat.sub_self]; rfl, rfl⟩
      · rintro ⟨f, hf, hn⟩
        by_cases hij : i < j
        · rw [List.getElem?_append_left (by omega)] at hf
          exact absurd hn (hnew f (List.mem_of_getElem? hf))
        · rw [List.getElem?_append_right (by omega), hlen] at hf
          have : i - j < 1 := by have := (List.getElem?_eq_some_iff.1 hf).1; simpa using this
          congr 1; omega
    · rw [find_put_other (rising_nowOf _) j e, ih]
      constructor
      · rintro ⟨f, hf, hn⟩
        exact ⟨f, by rw [List.getElem?_append_left (List.getElem?_eq_some_iff.1 hf).1]; exact hf, hn⟩
      · rintro ⟨f, hf, hn⟩
        by_cases hij : i < j
        · rw [List.getElem?_append_left (by omega)] at hf
          exact ⟨f, hf, hn⟩
        · rw [List.getElem?_append_right (by omega), hlen] at hf
          have h1 : i - j < 1 := by have := (List.getElem?_eq_some_iff.1 hf).1; simpa using this
          have h0 : i - j = 0 := by omega
          rw [h0] at hf
          simp only [List.getElem?_cons_zero, Option.some.injEq] at hf
          subst hf
          exact absurd hn.symm e
theorem ids_nowOf {fs : List Fin_} (h : allOk fs = true) {i : Nat} (hi : i ∈ ids (nowOf fs)) : i < fs.length := by
  obtain ⟨⟨k, j⟩, hp, rfl⟩ := List.mem_map.1 hi
  obtain ⟨f, hf, -⟩ := (find_nowOf h k j).1 (find_of_mem (rising_nowOf _) hp)
  exact (List.getElem?_eq_some_iff.1 hf).1
theorem len_nowOf (fs : List Fin_) : (nowOf fs).length ≤ fs.length := by
  suffices H : ∀ (fs : List Fin_) i l, Rising l → (nowGo i l fs).length ≤ l.length + fs.length by
    have := H fs 0 [] List.Pairwise.nil
    simpa [nowOf] using this
  intro fs
  induction fs with
  | nil => intro i l _; exact Nat.le_refl _
  | cons f r ih =>
    intro i l hl
    have h1 := ih (i + 1) (put l f.name i) (hl.put _ _)
    have h2 := len_put hl f.name i
    rw [nowGo, List.length_cons]
    split at h2 <;> omega
theorem nodup_nowOf {fs : List Fin_} (h : allOk fs = true) : (ids (nowOf fs)).Nodup := by
  suffices H : ∀ j, j ≤ fs.length → (ids (nowOf (fs.take j))).Nodup by
    have := H fs.length (Nat.le_refl _)
    rwa [List.take_length] at this
  intro j
  induction j with
  | zero => intro _; simp [nowOf, nowGo, ids]
  | succ j ih =>
    intro hj
    have hjl : j < fs.length := hj
    rw [List.take_succ_eq_append_getElem hjl, nowOf_snoc]
    have hlen : (fs.take j).length = j := by rw [List.length_take]; omega
    refine nodup_put_new _ (ih (by omega)) fun i hi => ?_
    have := ids_nowOf (allOk_take h j) hi
    omega
theorem total_le {fs : List Fin_} {f : Fin_} (h : f ∈ fs) : f.bytes.length ≤ total fs := by
  obtain ⟨a, b, rfl⟩ := List.append_of_mem h
  simp only [total, List.map_append, List.map_cons, List.sum_append, List.sum_cons]
  omega
/-- Such a disk is as every disk. -/
theorem fine_from {room : Int} {fs : List Fin_} (h : fromErr room fs = 0) : Fine (fromSt room fs) := by
  unfold fromErr at h
  split at h
  · cases h
  rename_i h1
  split at h
  · cases h
  rename_i h2
  have h2 : allOk fs = true := by simpa using h2
  split at h
  · cases h
  rename_i h3
  have hat : ∀ k, (fromSt room fs).at_ k = nowOf fs := fun k => by simp [fromSt, St.at_]
  refine ⟨⟨?_, rising_nowOf _, fun k => ?_, fun k i hi => ?_, fun d hd => ?_, fun c hc => by simp [fromSt] at hc⟩, fun c hc => by simp [fromSt] at hc, fun k => ?_, fun d hd => ?_, ?_⟩
  · simp [fromSt]
  · have := nodup_nowOf h2
    simpa [fromSt] using this
  · have hi : i ∈ ids (nowOf fs) := by simpa [fromSt] using hi
    have := ids_nowOf h2 hi
    simpa [fromSt] using this
  · obtain ⟨f, hf, rfl⟩ := List.mem_map.1 hd
    obtain ⟨j, hj, rfl⟩ := List.getElem_of_mem hf
    have := allOk_at h2 hj
    simp only [okF, Bool.and_eq_true, decide_eq_true_eq] at this
    simp only [Fin_.nd]
    omega
  · rw [hat]
    have := len_nowOf fs
    omega
  · obtain ⟨f, hf, rfl⟩ := List.mem_map.1 hd
    have := total_le hf
    simp only [Fin_.nd]
    omega
  · simp only [fromSt]; omega
/-- The bytes of its folder are those of all files. -/
theorem size_from {fs : List Fin_} (h : allOk fs = true) (room : Int) : (fromSt room fs).size (nowOf fs) = total fs := by
  have hp : ((ids (nowOf fs)).map fun i => ((fs.map Fin_.nd)[i]?.map (·.bytes.length)).getD 0).sum = total fs := by
    have hperm : (ids (nowOf fs)).Perm (List.range fs.length) := by
      rw [List.perm_ext_iff_of_nodup (nodup_nowOf h) List.nodup_range]
      intro i
      rw [List.mem_range]
      refine ⟨ids_nowOf h, fun hi => ?_⟩
      have := (find_nowOf h fs[i].name i).2 ⟨fs[i], List.getElem?_eq_getElem hi, rfl⟩
      exact List.mem_map.2 ⟨_, mem_of_find this, rfl⟩
    rw [(hperm.map _).sum_nat]
    unfold total
    congr 1
    apply List.ext_getElem
    · simp
    · intro i h1 h2
      simp at h1 h2
      simp [h1, Fin_.nd]
  unfold St.size
  rw [← hp]
  unfold ids
  rw [List.map_map]
  rfl
end Disk
end Go.Proofs.Ytncpeogkccjmcaa
