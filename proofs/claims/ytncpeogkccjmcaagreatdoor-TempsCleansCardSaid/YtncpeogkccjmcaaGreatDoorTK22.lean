/- Texts that lead to the claim, one behind the other: Temporary names, in lists: what a Clean makes of a disk, what stays wherever Cleans are cut short. No program in sight. No conditions. -/
import Derived.Test.YtncpeogkccjmcaaGreatDoorTK1
namespace Go.Proofs.YtncpeogkccjmcaaGreatDoor
namespace Disk

def tmpPre : Nm := [46, 103, 97, 108, 108, 101, 121, 45]
/-- Is it a temporary name? -/
def isTmp (n : Nm) : Bool := tmpPre.isPrefixOf n
def St.stale (s : St) : List Nm := s.names.filter isTmp
/-- Names removed, one behind the other, up to the first that is refused. -/
def St.cleanGo (s : St) : List Nm → St × Int
  | [] => (s, 0)
  | n :: r => if (s.remove n).2 = 0 then St.cleanGo (s.remove n).1 r else s.remove n
def St.clean (s : St) : St × Int :=
  if s.on = false then (s, 24)
  else if (s.cleanGo s.stale).2 ≠ 0 then s.cleanGo s.stale
  else if s.stale = [] then (s, 0) else (s.cleanGo s.stale).1.syncDir

theorem mem_stale {s : St} {n : Nm} (h : n ∈ s.stale) : isTmp n = true := (List.mem_filter.1 h).2

def nt (p : Nm × Nat) : Bool := !isTmp p.1
theorem nt_drop (l : Fo) {n : Nm} (h : isTmp n = true) : (drop l n).filter nt = l.filter nt := by
  unfold drop
  rw [List.filter_filter]
  congr 1
  funext p
  by_cases e : p.1 = n
  · simp [nt, e, h]
  · simp [e]
theorem behind_drop (l : Fo) {n : Nm} (h : n ≠ []) (i : Nat) : behind l ⟨n, [], i⟩ = drop l n := by
  unfold behind
  simp [h]
theorem tmp_ne {n : Nm} (h : isTmp n = true) : n ≠ [] := by
  rintro rfl
  simp [isTmp, tmpPre] at h

/-- Whatever Cleans and losses of power have left of a disk. -/
structure Rec (s0 s : St) : Prop where
  good : Good s
  names : ∀ k, (s.at_ k).filter nt = s0.now.filter nt
  sub : ∀ k p, p ∈ s.at_ k → p ∈ s0.now
  files : ∀ (i : Nat) (d : Nd), s.all[i]? = some d → ∃ d0, s0.all[i]? = some d0 ∧ d.bytes <+: d0.bytes ∧ d0.syn ≤ d.syn ∧ d.bad = d0.bad

section
variable {s0 s t : St}
theorem Rec.start_ (h : Good s0) (hr : s0.row = []) : Rec s0 s0 := by
  have e : ∀ k, s0.at_ k = s0.now := fun k => by
    have h1 := h.now
    rw [hr] at h1
    unfold St.at_
    rw [hr, List.take_nil, h1]
  exact ⟨h, fun k => by rw [e], fun k p hp => by rwa [e] at hp, fun i d hd => ⟨d, hd, List.prefix_refl _, Nat.le_refl _, rfl⟩⟩
theorem Rec.same (h : Rec s0 s) (hg : Good t) (h1 : t.row = s.row) (h2 : t.old = s.old) (h3 : t.all = s.all) : Rec s0 t := by
  have e : ∀ k, t.at_ k = s.at_ k := fun k => by unfold St.at_; rw [h1, h2]
  exact ⟨hg, fun k => by rw [e]; exact h.names k, fun k p hp => h.sub k p (by rwa [e] at hp), by rw [h3]; exact h.files⟩
theorem Rec.tried (h : Rec s0 s) : Rec s0 s.tried.1 := by
  obtain ⟨h1, h2, h3, h4, h5, h6, h7, h8⟩ := tried_kept s
  exact h.same (good_tried h.good) h1 h5 h3
theorem Rec.remove (h : Rec s0 s) {n : Nm} (hn : isTmp n = true) : Rec s0 (s.remove n).1 := by
  have hg : Good (s.remove n).1 := good_act h.good (.remove n)
  revert hg
  unfold St.remove
  split
  · exact fun _ => h
  · split
    · exact fun _ => h
    · split
      · exact fun _ => h.tried
      · intro hg
        have ht := h.tried
        have key : ∀ k, ((s.tried.1.changes ⟨n, [], 0⟩).more).at_ k = if k ≤ s.tried.1.row.length then s.tried.1.at_ k else drop (s.tried.1.at_ s.tried.1.row.length) n := fun k => by
          have := at_changes s.tried.1 ⟨n, [], 0⟩ k
          rw [behind_drop _ (tmp_ne hn)] at this
          exact this
        refine ⟨hg, fun k => ?_, fun k p hp => ?_, ht.files⟩
        · rw [key]
          split
          · exact ht.names k
          · rw [nt_drop _ hn]; exact ht.names _
        · rw [key] at hp
          split at hp
          · exact ht.sub k p hp
          · exact ht.sub _ p (List.mem_filter.1 hp).1
theorem Rec.syncDir (h : Rec s0 s) : Rec s0 s.syncDir.1 := by
  have hg : Good s.syncDir.1 := good_act h.good .syncDir
  revert hg
  unfold St.syncDir St.call
  split
  · exact fun _ => h
  · split
    · exact fun _ => h.tried
    · intro hg
      have ht := h.tried
      have e : ∀ k, (s.tried.1.settled.more).at_ k = s.tried.1.at_ s.tried.1.row.length := fun k => by
        rw [ht.good.at_all]
        unfold St.at_ St.settled St.more
        simp
      exact ⟨hg, fun k => by rw [e]; exact ht.names _, fun k p hp => ht.sub _ p (by rwa [e] at hp), ht.files⟩
theorem Rec.plan (h : Rec s0 s) (l : List (Int × Int)) : Rec s0 (s.plan_ l).1 := by
  have hg : Good (s.plan_ l).1 := good_act h.good (.plan l)
  revert hg
  unfold St.plan_
  split
  · exact fun hg => h.same hg rfl rfl rfl
  · exact fun _ => h
theorem Rec.off (h : Rec s0 s) : Rec s0 s.off := h.same (good_act h.good .off) rfl rfl rfl
theorem cuts_all {R : Nat → Nd → Prop} (keep : List Int) (hR : ∀ i d k, R i d → R i (St.cutNd d k)) : ∀ (l : Fo) (j : Nat) (a : List Nd), (∀ i d, a[i]? = some d → R i d) → ∀ i d, (St.cuts keep j l a)[i]? = some d → R i d
  | [], _, _, h => h
  | p :: r, j, a, h => by
    unfold St.cuts
    refine cuts_all keep hR r (j + 1) _ fun i d hd => ?_
    rw [List.getElem?_modify] at hd
    split at hd
    · obtain ⟨e, he, rfl⟩ := Option.map_eq_some_iff.1 hd
      exact hR _ _ _ (h i e he)
    · exact h i d (by simpa using hd)
theorem Rec.begin_ (h : Rec s0 s) (dir : Int) (keep : List Int) : Rec s0 (s.start dir keep) := by
  have hg : Good (s.start dir keep) := good_act h.good (.start dir keep)
  revert hg
  unfold St.start
  split
  · exact fun _ => h
  · intro hg
    refine ⟨hg, fun k => ?_, fun k p hp => h.sub (St.left dir s.row.length) p ?_, ?_⟩
    · have := h.names (St.left dir s.row.length)
      simpa [St.at_] using this
    · simpa [St.at_] using hp
    · have hR := cuts_all (R := fun i d => (∃ d0, s0.all[i]? = some d0 ∧ d.bytes <+: d0.bytes ∧ d0.syn ≤ d.syn ∧ d.bad = d0.bad)) keep (fun i d k hd => by
        obtain ⟨d0, h1, h2, h3, h4⟩ := hd
        refine ⟨d0, h1, (List.take_prefix _ _).trans h2, ?_, h4⟩
        unfold St.cutNd
        dsimp only
        omega) ((s.row.take (St.left dir s.row.length)).foldl behind s.old) 0 s.all h.files
      exact hR
theorem Rec.cleanGo : ∀ (ns : List Nm) {s : St}, Rec s0 s → (∀ n ∈ ns, isTmp n = true) → Rec s0 (s.cleanGo ns).1
  | [], _, h, _ => h
  | n :: r, s, h, hn => by
    have h1 := h.remove (hn n List.mem_cons_self)
    unfold St.cleanGo
    split
    · exact Rec.cleanGo r h1 fun m hm => hn m (List.mem_cons_of_mem _ hm)
    · exact h1
theorem Rec.clean (h : Rec s0 s) : Rec s0 s.clean.1 := by
  have h1 := Rec.cleanGo s.stale h fun n hn => mem_stale hn
  unfold St.clean
  split
  · exact h
  · split
    · exact h1
    · split
      · exact h
      · exact h1.syncDir

/-! ### where nothing is planned -/
theorem tried_free (h : s.plan = []) : s.tried = ({ s with tries := s.tries + 1 }, 0) := by
  unfold St.tried
  rw [h]
  rfl
theorem remove_free (hp : s.plan = []) (hon : s.on = true) {n : Nm} (hn : isName n = true) (hm : n ∈ keys s.now) : (s.remove n).2 = 0 ∧ (s.remove n).1.now = drop s.now n ∧ (s.remove n).1.on = true ∧ (s.remove n).1.plan = [] := by
  have hne := isName_ne hn
  have h1 : s.looked [] [n] = 0 := by simp [St.looked, hon, hn]
  have h2 : s.looked n [] = 0 := by
    have : find s.now n ≠ none := fun e => (find_none.1 e) hm
    simp [St.looked, hon, this]
  unfold St.remove
  rw [if_neg (by simp [h1]), if_neg (by simp [h2]), tried_free hp, if_neg (by simp)]
  refine ⟨rfl, ?_, hon, hp⟩
  show behind s.now ⟨n, [], 0⟩ = _
  exact behind_drop _ hne _
theorem cleanGo_free : ∀ (ns : List Nm) {s : St}, s.plan = [] → s.on = true → ns.Nodup → (∀ n ∈ ns, isName n = true ∧ n ∈ keys s.now) → (s.cleanGo ns).2 = 0 ∧ (s.cleanGo ns).1.on = true ∧ (s.cleanGo ns).1.plan = [] ∧ (∀ p ∈ (s.cleanGo ns).1.now, p ∈ s.now ∧ p.1 ∉ ns)
  | [], s, hp, hon, _, _ => ⟨rfl, hon, hp, fun p h => ⟨h, by simp⟩⟩
  | n :: r, s, hp, hon, hd, hn => by
    obtain ⟨hd1, hd2⟩ := List.nodup_cons.1 hd
    obtain ⟨h1, h2⟩ := hn n List.mem_cons_self
    obtain ⟨a, b, c, d⟩ := remove_free hp hon h1 h2
    have ih := cleanGo_free r d c hd2 fun m hm => by
      obtain ⟨h3, h4⟩ := hn m (List.mem_cons_of_mem _ hm)
      refine ⟨h3, ?_⟩
      have hne : m ≠ n := fun e => hd1 (e ▸ hm)
      rw [b]
      obtain ⟨p, hp, rfl⟩ := List.mem_map.1 h4
      exact List.mem_map.2 ⟨p, List.mem_filter.2 ⟨hp, by simpa using hne⟩, rfl⟩
    unfold St.cleanGo
    rw [if_pos a]
    refine ⟨ih.1, ih.2.1, ih.2.2.1, fun p hp => ?_⟩
    obtain ⟨h3, h4⟩ := ih.2.2.2 p hp
    rw [b] at h3
    obtain ⟨h5, h6⟩ := List.mem_filter.1 h3
    refine ⟨h5, ?_⟩
    rw [List.mem_cons]
    rintro (h | h)
    · simp [h] at h6
    · exact h4 h
theorem keys_nodup {l : Fo} (h : Rising l) : (keys l).Nodup := by
  unfold keys List.Nodup
  rw [List.pairwise_map]
  exact h.imp fun hab e => by rw [e] at hab; exact lt_irrefl _ hab
/-- A Clean that nothing hinders. -/
theorem clean_free (hg : Good s) (hp : s.plan = []) (hon : s.on = true) (hn : ∀ p ∈ s.now, isName p.1 = true) : s.clean.2 = 0 ∧ s.clean.1.on = true ∧ s.clean.1.stale = [] ∧ (s.row = [] → s.clean.1.row = []) := by
  have hns : s.names = keys s.now := by unfold St.names; rw [if_pos hon]
  have hst : s.stale = (keys s.now).filter isTmp := by unfold St.stale; rw [hns]
  obtain ⟨a, b, c, d⟩ := cleanGo_free s.stale hp hon (by rw [hst]; exact (keys_nodup hg.nowR).filter _) fun n hn' => by
    rw [hst] at hn'
    have := (List.mem_filter.1 hn').1
    obtain ⟨p, hp, rfl⟩ := List.mem_map.1 this
    exact ⟨hn p hp, this⟩
  have hno : ∀ t : St, t.on = true → (∀ p ∈ t.now, p ∈ s.now ∧ p.1 ∉ s.stale) → t.stale = [] := fun t ht h => by
    unfold St.stale St.names
    rw [if_pos ht, List.filter_eq_nil_iff]
    intro n hn' e
    obtain ⟨p, hp, rfl⟩ := List.mem_map.1 hn'
    obtain ⟨h1, h2⟩ := h p hp
    apply h2
    rw [hst]
    exact List.mem_filter.2 ⟨List.mem_map.2 ⟨p, h1, rfl⟩, e⟩
  unfold St.clean
  rw [if_neg (by simp [hon]), if_neg (by simp [a])]
  split
  · rename_i h
    exact ⟨rfl, hon, h, fun h => h⟩
  · have e : (s.cleanGo s.stale).1.syncDir = ((s.cleanGo s.stale).1.tried.1.settled.more, 0) := by
      unfold St.syncDir St.call
      rw [if_neg (by simp [St.looked, b]), if_neg (by simp [St.looked, b]), tried_free c, if_neg (by simp)]
    rw [e, tried_free c]
    exact ⟨rfl, b, hno _ b d, fun _ => rfl⟩

/-! ### the theorem -/
theorem row_clean_stale (h : s.stale = []) (hon : s.on = true) : ∀ p ∈ s.now, nt p = true := by
  intro p hp
  unfold St.stale St.names at h
  rw [if_pos hon, List.filter_eq_nil_iff] at h
  have := h p.1 (List.mem_map.2 ⟨p, hp, rfl⟩)
  simpa [nt] using this
/-- What is told of a file. -/
def ntF (p : Nm × Nd) : Bool := !isTmp p.1
theorem files_nt (s : St) (hon : s.on = true) : s.files.filter ntF = (s.now.filter nt).map fun p => (p.1, (s.all[p.2]?).getD ⟨[], 0, false⟩) := by
  unfold St.files
  rw [if_pos hon, List.filter_map]
  rfl
/-- Behind all: no temporary name, the others, at least what was synced of each. -/
theorem recovered (h : Rec s0 s) (hon0 : s0.on = true) (hon : s.on = true) (hst : s.stale = []) (hr : s.row = []) {u : St} (hu : u = s.off.start 0 []) :
    u.files.length = (s0.files.filter ntF).length ∧ ∀ (k : Nat) (f g : Nm × Nd), (s0.files.filter ntF)[k]? = some f → u.files[k]? = some g → g.1 = f.1 ∧ g.2.bad = f.2.bad ∧ g.2.bytes <+: f.2.bytes ∧ f.2.syn ≤ g.2.bytes.length := by
  have hR : Rec s0 u := by rw [hu]; exact h.off.begin_ 0 []
  have hnow : u.now = s.now := by
    have h1 := h.good.now
    rw [hr] at h1
    rw [hu]
    unfold St.start
    rw [if_neg (by simp [St.off])]
    simp [St.off, hr, h1]
  have honu : u.on = true := by
    rw [hu]
    unfold St.start
    rw [if_neg (by simp [St.off])]
  have hfil : u.now = s0.now.filter nt := by
    rw [hnow, ← h.names s.row.length, h.good.at_all, List.filter_eq_self.2 (row_clean_stale hst hon)]
  have hfu : u.files = u.now.map fun p => (p.1, (u.all[p.2]?).getD ⟨[], 0, false⟩) := by unfold St.files; rw [if_pos honu]
  rw [files_nt s0 hon0, hfu, hfil]
  refine ⟨by simp, fun k f g hf hg => ?_⟩
  rw [List.getElem?_map] at hf hg
  obtain ⟨p, hp, rfl⟩ := Option.map_eq_some_iff.1 hf
  obtain ⟨q, hq, rfl⟩ := Option.map_eq_some_iff.1 hg
  rw [hp] at hq
  cases hq
  have hpu : p ∈ u.now := by rw [hfil]; exact List.mem_of_getElem? hp
  have hi := hR.good.nowI (List.mem_map.2 ⟨p, hpu, rfl⟩)
  obtain ⟨d0, e0, h1, h2, h3⟩ := hR.files p.2 _ (List.getElem?_eq_getElem hi)
  have hs := hR.good.sync _ (List.getElem_mem hi)
  simp only [e0, List.getElem?_eq_getElem hi, Option.getD_some]
  exact ⟨trivial, h3, h1, by omega⟩
end
/-- The temporary name of a name. -/
def hasTmp (n : Nm) : Bool := isName n && decide (n.length ≤ 56) && !isTmp n
def tmpOf (n : Nm) : Nm := if hasTmp n then tmpPre ++ n else []
end Disk
end Go.Proofs.YtncpeogkccjmcaaGreatDoor
