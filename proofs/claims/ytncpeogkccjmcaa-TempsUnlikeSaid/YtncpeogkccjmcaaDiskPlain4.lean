/- A disk of files: the names behind a loss of power (DiskNames), the files behind one (DiskTails). No program in sight. No conditions. -/
import Derived.Test.YtncpeogkccjmcaaDiskPlain3
namespace Go.Proofs.Ytncpeogkccjmcaa
namespace Disk

/-- What a call does to the folder and its changes. -/
def Still (s t : St) : Prop := t.row = s.row ∧ t.old = s.old ∧ t.now = s.now
def One (s t : St) : Prop := ∃ c, t.row = s.row ++ [c] ∧ t.old = s.old
def Set_ (s t : St) : Prop := t.row = [] ∧ t.old = s.now
def Step (s t : St) : Prop := (Still s t ∨ One s t ∨ Set_ s t) ∧ (s.on = true → t.on = false → Still s t)

theorem Step.still {s t : St} (h : Still s t) : Step s t := ⟨.inl h, fun _ _ => h⟩
theorem Step.of_on {s t : St} (h : One s t ∨ Set_ s t) (hon : t.on = s.on) : Step s t := ⟨.inr h, fun h1 h2 => by rw [hon, h1] at h2; cases h2⟩
theorem still_tried (s : St) : Still s s.tried.1 := by
  obtain ⟨h1, _, _, h4, h5, _⟩ := tried_kept s
  exact ⟨h1, h5, h4⟩
theorem tried_on {s : St} (h : s.tried.2 ≠ 24) : s.tried.1.on = s.on := (tried_kept s).2.2.2.2.2.2.1 h

theorem step_call {s : St} {names : List Nm} {has : Nm} {f : St → St × Int} (hf : ∀ t, (Still t (f t).1 ∨ One t (f t).1 ∨ Set_ t (f t).1) ∧ (f t).1.on = t.on) : Step s (s.call names has f).1 := by
  unfold St.call
  split
  · exact .still ⟨rfl, rfl, rfl⟩
  · split
    · exact .still ⟨rfl, rfl, rfl⟩
    · split
      · exact .still (still_tried s)
      · rename_i h0
        have h24 : s.tried.2 ≠ 24 := by
          intro e
          rw [e] at h0
          exact h0 (by decide)
        have hon := tried_on h24
        obtain ⟨a, b, c⟩ := still_tried s
        obtain ⟨h1, h2⟩ := hf s.tried.1
        rcases h1 with ⟨x, y, z⟩ | ⟨ch, x, y⟩ | ⟨x, y⟩
        · exact .still ⟨x.trans a, y.trans b, z.trans c⟩
        · exact .of_on (.inl ⟨ch, by rw [x, a], y.trans b⟩) (h2.trans hon)
        · exact .of_on (.inr ⟨x, y.trans c⟩) (h2.trans hon)

theorem act_step (s : St) (o : Do) (h1 : o ≠ .off) (h2 : ∀ d k, o ≠ .start d k) : Step s (s.act o).1 := by
  cases o with
  | make n =>
    refine step_call fun t => ?_
    split
    · exact ⟨.inl ⟨rfl, rfl, rfl⟩, rfl⟩
    · exact ⟨.inr (.inl ⟨_, rfl, rfl⟩), rfl⟩
  | append n b =>
    refine step_call fun t => ?_
    split
    · exact ⟨.inl ⟨rfl, rfl, rfl⟩, rfl⟩
    · exact ⟨.inl ⟨rfl, rfl, rfl⟩, rfl⟩
  | sync n => exact step_call fun t => ⟨.inl ⟨rfl, rfl, rfl⟩, rfl⟩
  | rename n m =>
    refine step_call fun t => ?_
    split
    · exact ⟨.inl ⟨rfl, rfl, rfl⟩, rfl⟩
    · exact ⟨.inr (.inl ⟨_, rfl, rfl⟩), rfl⟩
  | remove n =>
    show Step s (s.remove n).1
    unfold St.remove
    split
    · exact .still ⟨rfl, rfl, rfl⟩
    · split
      · exact .still ⟨rfl, rfl, rfl⟩
      · split
        · exact .still (still_tried s)
        · rename_i h0
          obtain ⟨a, b, c⟩ := still_tried s
          exact .of_on (.inl ⟨⟨n, [], 0⟩, by show s.tried.1.row ++ _ = _; rw [a], b⟩) (tried_on h0)
  | syncDir => exact step_call fun t => ⟨.inr (.inr ⟨rfl, rfl⟩), rfl⟩
  | read n => exact .still ⟨rfl, rfl, rfl⟩
  | spoil n b =>
    show Step s (s.spoil n b).1
    unfold St.spoil
    split
    · exact .still ⟨rfl, rfl, rfl⟩
    · exact .still ⟨rfl, rfl, rfl⟩
  | plan l =>
    show Step s (s.plan_ l).1
    unfold St.plan_
    split
    · exact .still ⟨rfl, rfl, rfl⟩
    · exact .still ⟨rfl, rfl, rfl⟩
  | off => exact absurd rfl h1
  | start d k => exact absurd rfl (h2 d k)
  | none => exact .still ⟨rfl, rfl, rfl⟩

/-- The names by how many changes were pending. -/
def St.rows (s : St) : List (List Nm) := (List.range (s.row.length + 1)).map fun k => keys (s.at_ k)

theorem rows_len (s : St) : s.rows.length = s.row.length + 1 := by simp [St.rows]
theorem rows_still {s t : St} (h : Still s t) : t.rows = s.rows := by
  obtain ⟨a, b, c⟩ := h
  unfold St.rows St.at_
  rw [a, b]
theorem rows_at {s : St} {k : Nat} (h : k ≤ s.row.length) : s.rows[k]? = some (keys (s.at_ k)) := by
  simp [St.rows, List.getElem?_range (show k < s.row.length + 1 by omega)]
/-- Behind a call that left the power on: the rows, one more laid where the changes end. -/
theorem rows_step {s t : St} (ht : Good t) (h : Step s t) : t.row.length ≤ s.rows.length ∧ s.rows.take t.row.length ++ [keys t.now] = t.rows := by
  have hlast : ∀ u : St, Good u → u.rows = (u.rows.take u.row.length) ++ [keys u.now] := fun u hu => by
    have e1 : u.rows = u.rows.take u.row.length ++ [keys (u.at_ u.row.length)] := by
      unfold St.rows
      rw [List.range_succ, List.map_append]
      simp
    rw [hu.at_all] at e1
    exact e1
  rw [hlast t ht, rows_len]
  rcases h.1 with h | ⟨c, h1, h2⟩ | ⟨h1, h2⟩
  · rw [rows_still h, h.1]
    exact ⟨by omega, by rw [h.2.2]⟩
  · have e : t.row.length = s.row.length + 1 := by rw [h1]; simp
    refine ⟨by omega, ?_⟩
    congr 1
    rw [e]
    unfold St.rows
    apply List.ext_getElem?
    intro k
    rw [List.getElem?_take, List.getElem?_take]
    split
    · rename_i hk
      simp only [List.getElem?_map, e, List.getElem?_range hk, List.getElem?_range (show k < s.row.length + 1 + 1 by omega), Option.map_some]
      unfold St.at_
      rw [h1, h2, List.take_append_of_le_length (by omega)]
    · rfl
  · rw [h1]
    exact ⟨by simp, by simp⟩

/-- .. and behind a loss of power, started again. -/
theorem names_start {s : St} (dir : Int) (keep : List Int) (hoff : s.on = false) : (s.start dir keep).on = true ∧ (s.start dir keep).row = [] ∧ some (s.start dir keep).names = s.rows[St.left dir s.row.length]? := by
  unfold St.start
  rw [hoff]
  refine ⟨rfl, rfl, ?_⟩
  rw [rows_at (by unfold St.left; omega)]
  rfl

/-! ### files -/
theorem cuts_len (keep : List Int) : ∀ (l : Fo) (i : Nat) (a : List Nd), (St.cuts keep i l a).length = a.length
  | [], _, _ => rfl
  | p :: r, i, a => by unfold St.cuts; rw [cuts_len keep r]; simp
theorem cuts_other (keep : List Int) : ∀ (l : Fo) (i : Nat) (a : List Nd) (j : Nat), j ∉ ids l → (St.cuts keep i l a)[j]? = a[j]?
  | [], _, _, _, _ => rfl
  | p :: r, i, a, j, h => by
    have h' : j ≠ p.2 ∧ j ∉ ids r := by simpa [ids] using h
    unfold St.cuts
    rw [cuts_other keep r _ _ j h'.2, List.getElem?_modify]
    simp [show p.2 ≠ j from fun e => h'.1 e.symm]
theorem cuts_at (keep : List Int) : ∀ (l : Fo) (i : Nat) (a : List Nd), (ids l).Nodup → ∀ (m : Nat) (p : Nm × Nat), l[m]? = some p → (St.cuts keep i l a)[p.2]? = a[p.2]?.map fun d => St.cutNd d keep[i + m]?
  | [], _, _, _, _, _, h => by simp at h
  | q :: r, i, a, hn, m, p, h => by
    have hn' : q.2 ∉ ids r ∧ (ids r).Nodup := by simpa [ids] using hn
    unfold St.cuts
    cases m with
    | zero =>
      obtain rfl : q = p := by simpa using h
      rw [cuts_other keep r _ _ _ hn'.1, List.getElem?_modify]
      simp
    | succ m =>
      have h : r[m]? = some p := by simpa using h
      have hp : p.2 ∈ ids r := List.mem_map.2 ⟨p, List.mem_of_getElem? h, rfl⟩
      have hne : q.2 ≠ p.2 := fun e => hn'.1 (e ▸ hp)
      rw [cuts_at keep r (i + 1) _ hn'.2 m p h, List.getElem?_modify]
      rw [show i + 1 + m = i + (m + 1) by omega]
      simp [hne]

theorem files_len {s : St} (h : s.on = true) : s.files.length = s.now.length := by unfold St.files; rw [if_pos h]; simp
theorem files_at {s : St} (hg : Good s) (h : s.on = true) (m : Nat) : s.files[m]? = s.now[m]?.bind fun p => s.all[p.2]?.map fun d => (p.1, d) := by
  unfold St.files
  rw [if_pos h, List.getElem?_map]
  cases e : s.now[m]? with
  | none => rfl
  | some p =>
    have hp := hg.nowI (List.mem_map.2 ⟨p, List.mem_of_getElem? e, rfl⟩)
    simp [List.getElem?_eq_getElem hp]

/-- Where nothing is pending: every file, cut where it is said. -/
theorem files_start {s t : St} (hg : Good s) (hon : s.on = true) (hr : s.row = []) (dir : Int) (keep : List Int) (ht : t = s.off.start dir keep) :
    t.on = true ∧ t.row = [] ∧ ∀ m : Nat, t.files[m]? = s.files[m]?.map fun (f : Nm × Nd) => (f.1, St.cutNd f.2 keep[m]?) := by
  have hg' : Good t := by rw [ht]; exact good_act (good_act hg .off) (.start dir keep)
  have hold : s.old = s.now := by have := hg.now; rw [hr] at this; exact this.symm
  have e0 : t = { s.off with now := s.now, old := s.now, row := [], on := true, all := St.cuts keep 0 s.now s.all } := by
    rw [ht]
    unfold St.start
    rw [if_neg (by simp [St.off])]
    simp [St.off, hr, hold]
  have hon' : t.on = true := by rw [e0]
  refine ⟨hon', by rw [e0], fun m => ?_⟩
  rw [files_at hg' hon', files_at hg hon]
  have e1 : t.now = s.now := by rw [e0]
  have e2 : t.all = St.cuts keep 0 s.now s.all := by rw [e0]
  rw [e1, e2]
  cases e : s.now[m]? with
  | none => rfl
  | some p =>
    simp only [Option.bind_some]
    rw [cuts_at keep s.now 0 s.all hg.nowN m p e, Nat.zero_add]
    simp [Option.map_map, Function.comp_def]

theorem cut_again (d : Nd) (k : Option Int) : St.cutNd (St.cutNd d k) none = St.cutNd d k := by
  unfold St.cutNd
  simp [List.take_take]

end Disk
end Go.Proofs.Ytncpeogkccjmcaa
