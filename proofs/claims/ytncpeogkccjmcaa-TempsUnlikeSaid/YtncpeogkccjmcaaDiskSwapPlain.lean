/- A file made, appended to, synced and renamed over another one: what is left wherever the power goes. No program in sight. No conditions. -/
import Derived.Test.YtncpeogkccjmcaaDiskPlain4
namespace Go.Proofs.Ytncpeogkccjmcaa
namespace Disk

/-- "file", "new". -/
def nF : Nm := [102, 105, 108, 101]
def nN : Nm := [110, 101, 119]

/-- How far it is. -/
inductive Stage
  | a
  | b (c : List UInt8)
  | y (c : List UInt8)
  | d (c : List UInt8)
  | e (c : List UInt8)

def Stage.is (O : List UInt8) : Stage → St → Prop
  | .a, s => s.all = [⟨O, O.length, false⟩] ∧ s.now = [(nF, 0)] ∧ s.old = [(nF, 0)] ∧ s.row = []
  | .b c, s => s.all = [⟨O, O.length, false⟩, ⟨c, 0, false⟩] ∧ s.now = [(nF, 0), (nN, 1)] ∧ s.old = [(nF, 0)] ∧ s.row = [⟨[], nN, 1⟩]
  | .y c, s => s.all = [⟨O, O.length, false⟩, ⟨c, c.length, false⟩] ∧ s.now = [(nF, 0), (nN, 1)] ∧ s.old = [(nF, 0)] ∧ s.row = [⟨[], nN, 1⟩]
  | .d c, s => s.all = [⟨O, O.length, false⟩, ⟨c, c.length, false⟩] ∧ s.now = [(nF, 1)] ∧ s.old = [(nF, 0)] ∧ s.row = [⟨[], nN, 1⟩, ⟨nN, nF, 1⟩]
  | .e c, s => s.all = [⟨O, O.length, false⟩, ⟨c, c.length, false⟩] ∧ s.now = [(nF, 1)] ∧ s.old = [(nF, 1)] ∧ s.row = []

theorem Stage.same {O : List UInt8} {g : Stage} {s t : St} (h : g.is O s) (h1 : t.all = s.all) (h2 : t.now = s.now) (h3 : t.old = s.old) (h4 : t.row = s.row) : g.is O t := by
  cases g <;> simp only [Stage.is] at h ⊢ <;> rw [h1, h2, h3, h4] <;> exact h
theorem Stage.tried {O : List UInt8} {g : Stage} {s : St} (h : g.is O s) : g.is O s.tried.1 := by
  obtain ⟨h1, h2, h3, h4, h5, h6, h7, h8⟩ := tried_kept s
  exact Stage.same h h3 h4 h5 h1

theorem call_go {s : St} {names : List Nm} {has : Nm} {f : St → St × Int} (h1 : s.looked [] names = 0) (h2 : s.looked has [] = 0) : s.call names has f = if s.tried.2 ≠ 0 then s.tried else f s.tried.1 := by
  unfold St.call
  rw [h1, h2]
  simp
theorem looked_on {s : St} {names : List Nm} (h : s.on = true) (hn : ∀ n ∈ names, isName n = true) : s.looked [] names = 0 := by
  unfold St.looked
  have : names.any (fun n => !isName n) = false := by
    rw [List.any_eq_false]
    intro n hm
    simp [hn n hm]
  simp [h, this]
theorem looked_has {s : St} {n : Nm} {i : Nat} (h : s.on = true) (hn : find s.now n = some i) : s.looked n [] = 0 := by
  unfold St.looked
  simp [h, hn]

/-- A call of the row, done or cut short. -/
def Next (O : List UInt8) (g : Stage) (s : St) (r : St × Int) : Prop :=
  (s.tried.2 ≠ 0 ∧ r = s.tried) ∨ (s.tried.2 = 0 ∧ r.2 = 0 ∧ g.is O r.1 ∧ r.1.on = true ∧ r.1.room = s.room ∧ r.1.tries = s.tries + 1 ∧ r.1.plan = s.plan)
theorem tried_tries (s : St) : s.tried.1.tries = s.tries + 1 ∧ s.tried.1.plan = s.plan := by
  unfold St.tried
  split <;> exact ⟨rfl, rfl⟩

section
variable {O : List UInt8} {s : St}
theorem tried_all (h0 : s.tried.2 = 0) (hon : s.on = true) : s.tried.1.on = true ∧ s.tried.1.room = s.room ∧ s.tried.1.tries = s.tries + 1 ∧ s.tried.1.plan = s.plan := by
  obtain ⟨h1, h2, h3, h4, h5, h6, h7, h8⟩ := tried_kept s
  exact ⟨(h7 (by rw [h0]; decide)).trans hon, h6, (tried_tries s).1, (tried_tries s).2⟩
theorem swap_make (h : Stage.a.is O s) (hon : s.on = true) : Next O (.b []) s (s.make nN) := by
  unfold St.make
  rw [call_go (looked_on hon (by decide)) (looked_on hon (by decide))]
  split
  · rename_i h0; exact .inl ⟨h0, rfl⟩
  · rename_i h0
    have h0 : s.tried.2 = 0 := by simpa using h0
    obtain ⟨a, b, c, d⟩ := tried_all h0 hon
    obtain ⟨e1, e2, e3, e4⟩ := Stage.tried h
    rw [if_neg (by rw [e2]; simp)]
    refine .inr ⟨h0, rfl, ⟨?_, ?_, ?_, ?_⟩, a, b, c, d⟩
    · simp [St.more, St.changes, e1]
    · simp [St.more, St.changes, e1, e2]; rfl
    · simp [St.more, St.changes, e3]
    · simp [St.more, St.changes, e1, e4]
theorem swap_append {c x : List UInt8} (h : (Stage.b c).is O s) (hon : s.on = true) (hr : (O.length + c.length + x.length : Int) ≤ s.room) : Next O (.b (c ++ x)) s (s.append nN x) := by
  unfold St.append
  rw [call_go (looked_on hon (by decide)) (looked_has hon (i := 1) (by rw [h.2.1]; rfl))]
  split
  · rename_i h0; exact .inl ⟨h0, rfl⟩
  · rename_i h0
    have h0 : s.tried.2 = 0 := by simpa using h0
    obtain ⟨a, b, ct, d⟩ := tried_all h0 hon
    obtain ⟨e1, e2, e3, e4⟩ := Stage.tried h
    have hs : s.tried.1.size s.tried.1.now = O.length + c.length := by
      unfold St.size; rw [e1, e2]; simp
    rw [if_neg (by rw [hs, b]; omega)]
    refine .inr ⟨h0, rfl, ⟨?_, ?_, ?_, ?_⟩, a, b, ct, d⟩
    · have : find s.tried.1.now nN = some 1 := by rw [e2]; rfl
      simp [St.more, St.setNd, this, e1]
    · exact e2
    · exact e3
    · exact e4
theorem swap_sync {c : List UInt8} (h : (Stage.b c).is O s) (hon : s.on = true) : Next O (.y c) s (s.sync nN) := by
  unfold St.sync
  rw [call_go (looked_on hon (by decide)) (looked_has hon (i := 1) (by rw [h.2.1]; rfl))]
  split
  · rename_i h0; exact .inl ⟨h0, rfl⟩
  · rename_i h0
    have h0 : s.tried.2 = 0 := by simpa using h0
    obtain ⟨a, b, ct, d⟩ := tried_all h0 hon
    obtain ⟨e1, e2, e3, e4⟩ := Stage.tried h
    refine .inr ⟨h0, rfl, ⟨?_, ?_, ?_, ?_⟩, a, b, ct, d⟩
    · have : find s.tried.1.now nN = some 1 := by rw [e2]; rfl
      simp [St.more, St.setNd, this, e1]
    · exact e2
    · exact e3
    · exact e4
theorem swap_rename {c : List UInt8} (h : (Stage.y c).is O s) (hon : s.on = true) : Next O (.d c) s (s.rename nN nF) := by
  unfold St.rename
  rw [call_go (looked_on hon (by decide)) (looked_has hon (i := 1) (by rw [h.2.1]; rfl))]
  split
  · rename_i h0; exact .inl ⟨h0, rfl⟩
  · rename_i h0
    have h0 : s.tried.2 = 0 := by simpa using h0
    obtain ⟨a, b, ct, d⟩ := tried_all h0 hon
    obtain ⟨e1, e2, e3, e4⟩ := Stage.tried h
    have hf : find s.tried.1.now nN = some 1 := by rw [e2]; rfl
    rw [if_neg (by decide)]
    refine .inr ⟨h0, rfl, ⟨?_, ?_, ?_, ?_⟩, a, b, ct, d⟩
    · exact e1
    · simp [St.more, St.changes, e2]; rfl
    · exact e3
    · simp [St.more, St.changes, hf, e4]
theorem swap_dir {c : List UInt8} (h : (Stage.d c).is O s) (hon : s.on = true) : Next O (.e c) s s.syncDir := by
  unfold St.syncDir
  rw [call_go (looked_on hon (by decide)) (looked_on hon (by decide))]
  split
  · rename_i h0; exact .inl ⟨h0, rfl⟩
  · rename_i h0
    have h0 : s.tried.2 = 0 := by simpa using h0
    obtain ⟨a, b, ct, d⟩ := tried_all h0 hon
    obtain ⟨e1, e2, e3, e4⟩ := Stage.tried h
    exact .inr ⟨h0, rfl, ⟨e1, e2, e2, rfl⟩, a, b, ct, d⟩

/-- What is left: the old bytes or the new ones, and which names. -/
def Ends (O c : List UInt8) (dirDone : Bool) (s : St) : Prop :=
  ∃ b, s.read nF = (b, 0) ∧ (s.names = [nF] ∧ (b = O ∧ dirDone = false ∨ b = c) ∨ s.names = [nF, nN] ∧ b = O ∧ dirDone = false)
end

theorem left_cases (n : Int) (m : Nat) : ∃ k, St.left n m = k ∧ k ≤ m := ⟨_, rfl, by unfold St.left; omega⟩
theorem cut_whole (b : List UInt8) (bad : Bool) (k : Option Int) : St.cutNd ⟨b, b.length, bad⟩ k = ⟨b, b.length, bad⟩ := by
  unfold St.cutNd
  cases k <;> simp [St.left]

theorem read_at {s : St} {n : Nm} {i : Nat} {d : Nd} (hon : s.on = true) (hn : isName n = true) (h : find s.now n = some i) (hd : s.all[i]? = some d) (hb : d.bad = false) : s.read n = (d.bytes, 0) := by
  unfold St.read St.there
  rw [looked_on hon (by simpa using hn), looked_has hon h]
  simp [St.file, h, hd, hb]

theorem swap_end {O c : List UInt8} {g : Stage} {s : St} (h : g.is O s) (hoff : s.on = false) (dir : Int) (keep : List Int) (hc : ∀ c', g = .d c' ∨ g = .e c' → c' = c) :
    Ends O c (match g with | .e _ => true | _ => false) (s.start dir keep) := by
  have hst : s.start dir keep = { s with now := (s.row.take (St.left dir s.row.length)).foldl behind s.old, old := (s.row.take (St.left dir s.row.length)).foldl behind s.old, row := [], on := true, all := St.cuts keep 0 ((s.row.take (St.left dir s.row.length)).foldl behind s.old) s.all } := by
    unfold St.start; simp [hoff]
  generalize hS : s.start dir keep = S at hst ⊢
  have hon : S.on = true := by rw [hst]
  have h1 : S.now = (s.row.take (St.left dir s.row.length)).foldl behind s.old := by rw [hst]
  have h2 : S.all = St.cuts keep 0 S.now s.all := by rw [h1, hst]
  have hnames : S.names = keys S.now := by unfold St.names; rw [if_pos hon]
  obtain ⟨k, hk, hkm⟩ := left_cases dir s.row.length
  rw [hk] at h1
  clear hst hS hk
  have fin0 : ∀ (d1 : List Nd), s.all = ⟨O, O.length, false⟩ :: d1 → S.now = [(nF, 0)] → (∃ b, S.read nF = (b, 0) ∧ S.names = [nF] ∧ b = O) := fun d1 ha hn => by
    refine ⟨O, read_at hon (by decide) (by rw [hn]; rfl) (d := ⟨O, O.length, false⟩) ?_ rfl, by rw [hnames, hn]; rfl, rfl⟩
    rw [h2, hn, ha]; simp [St.cuts, cut_whole]
  have fin1 : ∀ (d1 : Nd), s.all = [⟨O, O.length, false⟩, d1] → S.now = [(nF, 0), (nN, 1)] → (∃ b, S.read nF = (b, 0) ∧ S.names = [nF, nN] ∧ b = O) := fun d1 ha hn => by
    refine ⟨O, read_at hon (by decide) (by rw [hn]; rfl) (d := ⟨O, O.length, false⟩) ?_ rfl, by rw [hnames, hn]; rfl, rfl⟩
    rw [h2, hn, ha]; simp [St.cuts, cut_whole]
  have fin2 : ∀ c', s.all = [⟨O, O.length, false⟩, ⟨c', c'.length, false⟩] → S.now = [(nF, 1)] → (∃ b, S.read nF = (b, 0) ∧ S.names = [nF] ∧ b = c') := fun c' ha hn => by
    refine ⟨c', read_at hon (by decide) (by rw [hn]; rfl) (d := ⟨c', c'.length, false⟩) ?_ rfl, by rw [hnames, hn]; rfl, rfl⟩
    rw [h2, hn, ha]; simp [St.cuts, cut_whole]
  cases g with
  | a =>
    obtain ⟨e1, e2, e3, e4⟩ := h
    obtain ⟨b, x, y, z⟩ := fin0 [] e1 (by rw [h1, e4, e3]; simp)
    exact ⟨b, x, .inl ⟨y, .inl ⟨z, rfl⟩⟩⟩
  | b c' =>
    obtain ⟨e1, e2, e3, e4⟩ := h
    rw [e4] at hkm
    match k, hkm with
    | 0, _ =>
      obtain ⟨b, x, y, z⟩ := fin0 _ e1 (by rw [h1, e4, e3]; rfl)
      exact ⟨b, x, .inl ⟨y, .inl ⟨z, rfl⟩⟩⟩
    | 1, _ =>
      obtain ⟨b, x, y, z⟩ := fin1 _ e1 (by rw [h1, e4, e3]; rfl)
      exact ⟨b, x, .inr ⟨y, z, rfl⟩⟩
  | y c' =>
    obtain ⟨e1, e2, e3, e4⟩ := h
    rw [e4] at hkm
    match k, hkm with
    | 0, _ =>
      obtain ⟨b, x, y, z⟩ := fin0 _ e1 (by rw [h1, e4, e3]; rfl)
      exact ⟨b, x, .inl ⟨y, .inl ⟨z, rfl⟩⟩⟩
    | 1, _ =>
      obtain ⟨b, x, y, z⟩ := fin1 _ e1 (by rw [h1, e4, e3]; rfl)
      exact ⟨b, x, .inr ⟨y, z, rfl⟩⟩
  | d c' =>
    obtain rfl := hc c' (.inl rfl)
    obtain ⟨e1, e2, e3, e4⟩ := h
    rw [e4] at hkm
    match k, hkm with
    | 0, _ =>
      obtain ⟨b, x, y, z⟩ := fin0 _ e1 (by rw [h1, e4, e3]; rfl)
      exact ⟨b, x, .inl ⟨y, .inl ⟨z, rfl⟩⟩⟩
    | 1, _ =>
      obtain ⟨b, x, y, z⟩ := fin1 _ e1 (by rw [h1, e4, e3]; rfl)
      exact ⟨b, x, .inr ⟨y, z, rfl⟩⟩
    | 2, _ =>
      obtain ⟨b, x, y, z⟩ := fin2 _ e1 (by rw [h1, e4, e3]; rfl)
      exact ⟨b, x, .inl ⟨y, .inr z⟩⟩
  | e c' =>
    obtain rfl := hc c' (.inr rfl)
    obtain ⟨e1, e2, e3, e4⟩ := h
    obtain ⟨b, x, y, z⟩ := fin2 _ e1 (by rw [h1, e4, e3]; simp)
    exact ⟨b, x, .inl ⟨y, .inr z⟩⟩

end Disk
end Go.Proofs.Ytncpeogkccjmcaa
