/- Texts that lead to the claim, one behind the other: Temporary names, in lists: what a Clean makes of a disk, what stays wherever Cleans are cut short. No program in sight. No conditions. | What Cleans that are cut short leave, in one row: the plain law of TempsRecovers. No program in sight. No conditions. | An edit in place, in lists: what it does of a disk, call by call. No program in sight. No conditions. | What an edit in place keeps of a file: until the rename its old bytes, behind it the new ones. No program in sight. No conditions. | A run of an edit in place: the file's old bytes stay, the temporary file holds what was written. No program in sight. No conditions. | The end of an edit in place: old bytes or new ones, the temporary file gone. No program in sight. No conditions. | The theorems of the edit in place, in lists: whole, refused. No program in sight. No conditions. | An edit in place without a loss of power: what is refused leaves the old bytes and no temporary file. No program in sight. No conditions. | What every call keeps, an edit keeps; the names of a folder; recoveries behind an edit. No program in sight. No conditions. -/
import Derived.Test.YtfommpbblpnljaaWH1
namespace Go.Proofs.Ytfommpbblpnljaa
namespace Disk

def tmpPre : Nm := [46, 103, 97, 108, 108, 101, 121, 45]
/-- Is it a temporary name? -/
def isTmp (n : Nm) : Bool := tmpPre.isPrefixOf n
def St.stale (s : St) : List Nm := s.names.filter isTmp
/-- Names removed, one behind the other, up to the first that is refused. -/
def St.cleanGo (s : St) : List Nm → St × Int
  | [] => (s, 0)
  | n :: r => if (s.remove n).2 = 0 then St.cleanGo (s.remove n).1 r else s.remove n
def St.clean (s : St) : St × Int :=
  if s.on = false then (s, 24)
  else if (s.cleanGo s.stale).2 ≠ 0 then s.cleanGo s.stale
  else if s.stale = [] then (s, 0) else (s.cleanGo s.stale).1.syncDir

theorem mem_stale {s : St} {n : Nm} (h : n ∈ s.stale) : isTmp n = true := (List.mem_filter.1 h).2

def nt (p : Nm × Nat) : Bool := !isTmp p.1
theorem nt_drop (l : Fo) {n : Nm} (h : isTmp n = true) : (drop l n).filter nt = l.filter nt := by
  unfold drop
  rw [List.filter_filter]
  congr 1
  funext p
  by_cases e : p.1 = n
  · simp [nt, e, h]
  · simp [e]
theorem behind_drop (l : Fo) {n : Nm} (h : n ≠ []) (i : Nat) : behind l ⟨n, [], i⟩ = drop l n := by
  unfold behind
  simp [h]
theorem tmp_ne {n : Nm} (h : isTmp n = true) : n ≠ [] := by
  rintro rfl
  simp [isTmp, tmpPre] at h

/-- Whatever Cleans and losses of power have left of a disk. -/
structure Rec (s0 s : St) : Prop where
  good : Good s
  names : ∀ k, (s.at_ k).filter nt = s0.now.filter nt
  sub : ∀ k p, p ∈ s.at_ k → p ∈ s0.now
  files : ∀ (i : Nat) (d : Nd), s.all[i]? = some d → ∃ d0, s0.all[i]? = some d0 ∧ d.bytes <+: d0.bytes ∧ d0.syn ≤ d.syn ∧ d.bad = d0.bad

section
variable {s0 s t : St}
theorem Rec.start_ (h : Good s0) (hr : s0.row = []) : Rec s0 s0 := by
  have e : ∀ k, s0.at_ k = s0.now := fun k => by
    have h1 := h.now
    rw [hr] at h1
    unfold St.at_
    rw [hr, List.take_nil, h1]
  exact ⟨h, fun k => by rw [e], fun k p hp => by rwa [e] at hp, fun i d hd => ⟨d, hd, List.prefix_refl _, Nat.le_refl _, rfl⟩⟩
theorem Rec.same (h : Rec s0 s) (hg : Good t) (h1 : t.row = s.row) (h2 : t.old = s.old) (h3 : t.all = s.all) : Rec s0 t := by
  have e : ∀ k, t.at_ k = s.at_ k := fun k => by unfold St.at_; rw [h1, h2]
  exact ⟨hg, fun k => by rw [e]; exact h.names k, fun k p hp => h.sub k p (by rwa [e] at hp), by rw [h3]; exact h.files⟩
theorem Rec.tried (h : Rec s0 s) : Rec s0 s.tried.1 := by
  obtain ⟨h1, h2, h3, h4, h5, h6, h7, h8⟩ := tried_kept s
  exact h.same (good_tried h.good) h1 h5 h3
theorem Rec.remove (h : Rec s0 s) {n : Nm} (hn : isTmp n = true) : Rec s0 (s.remove n).1 := by
  have hg : Good (s.remove n).1 := good_act h.good (.remove n)
  revert hg
  unfold St.remove
  split
  · exact fun _ => h
  · split
    · exact fun _ => h
    · split
      · exact fun _ => h.tried
      · intro hg
        have ht := h.tried
        have key : ∀ k, ((s.tried.1.changes ⟨n, [], 0⟩).more).at_ k = if k ≤ s.tried.1.row.length then s.tried.1.at_ k else drop (s.tried.1.at_ s.tried.1.row.length) n := fun k => by
          have := at_changes s.tried.1 ⟨n, [], 0⟩ k
          rw [behind_drop _ (tmp_ne hn)] at this
          exact this
        refine ⟨hg, fun k => ?_, fun k p hp => ?_, ht.files⟩
        · rw [key]
          split
          · exact ht.names k
          · rw [nt_drop _ hn]; exact ht.names _
        · rw [key] at hp
          split at hp
          · exact ht.sub k p hp
          · exact ht.sub _ p (List.mem_filter.1 hp).1
theorem Rec.syncDir (h : Rec s0 s) : Rec s0 s.syncDir.1 := by
  have hg : Good s.syncDir.1 := good_act h.good .syncDir
  revert hg
  unfold St.syncDir St.call
  split
  · exact fun _ => h
  · split
    · exact fun _ => h.tried
    · intro hg
      have ht := h.tried
      have e : ∀ k, (s.tried.1.settled.more).at_ k = s.tried.1.at_ s.tried.1.row.length := fun k => by
        rw [ht.good.at_all]
        unfold St.at_ St.settled St.more
        simp
      exact ⟨hg, fun k => by rw [e]; exact ht.names _, fun k p hp => ht.sub _ p (by rwa [e] at hp), ht.files⟩
theorem Rec.plan (h : Rec s0 s) (l : List (Int × Int)) : Rec s0 (s.plan_ l).1 := by
  have hg : Good (s.plan_ l).1 := good_act h.good (.plan l)
  revert hg
  unfold St.plan_
  split
  · exact fun hg => h.same hg rfl rfl rfl
  · exact fun _ => h
theorem Rec.off (h : Rec s0 s) : Rec s0 s.off := h.same (good_act h.good .off) rfl rfl rfl
theorem cuts_all {R : Nat → Nd → Prop} (keep : List Int) (hR : ∀ i d k, R i d → R i (St.cutNd d k)) : ∀ (l : Fo) (j : Nat) (a : List Nd), (∀ i d, a[i]? = some d → R i d) → ∀ i d, (St.cuts keep j l a)[i]? = some d → R i d
  | [], _, _, h => h
  | p :: r, j, a, h => by
    unfold St.cuts
    refine cuts_all keep hR r (j + 1) _ fun i d hd => ?_
    rw [List.getElem?_modify] at hd
    split at hd
    · obtain ⟨e, he, rfl⟩ := Option.map_eq_some_iff.1 hd
      exact hR _ _ _ (h i e he)
    · exact h i d (by simpa using hd)
theorem Rec.begin_ (h : Rec s0 s) (dir : Int) (keep : List Int) : Rec s0 (s.start dir keep) := by
  have hg : Good (s.start dir keep) := good_act h.good (.start dir keep)
  revert hg
  unfold St.start
  split
  · exact fun _ => h
  · intro hg
    refine ⟨hg, fun k => ?_, fun k p hp => h.sub (St.left dir s.row.length) p ?_, ?_⟩
    · have := h.names (St.left dir s.row.length)
      simpa [St.at_] using this
    · simpa [St.at_] using hp
    · have hR := cuts_all (R := fun i d => (∃ d0, s0.all[i]? = some d0 ∧ d.bytes <+: d0.bytes ∧ d0.syn ≤ d.syn ∧ d.bad = d0.bad)) keep (fun i d k hd => by
        obtain ⟨d0, h1, h2, h3, h4⟩ := hd
        refine ⟨d0, h1, (List.take_prefix _ _).trans h2, ?_, h4⟩
        unfold St.cutNd
        dsimp only
        omega) ((s.row.take (St.left dir s.row.length)).foldl behind s.old) 0 s.all h.files
      exact hR
theorem Rec.cleanGo : ∀ (ns : List Nm) {s : St}, Rec s0 s → (∀ n ∈ ns, isTmp n = true) → Rec s0 (s.cleanGo ns).1
  | [], _, h, _ => h
  | n :: r, s, h, hn => by
    have h1 := h.remove (hn n List.mem_cons_self)
    unfold St.cleanGo
    split
    · exact Rec.cleanGo r h1 fun m hm => hn m (List.mem_cons_of_mem _ hm)
    · exact h1
theorem Rec.clean (h : Rec s0 s) : Rec s0 s.clean.1 := by
  have h1 := Rec.cleanGo s.stale h fun n hn => mem_stale hn
  unfold St.clean
  split
  · exact h
  · split
    · exact h1
    · split
      · exact h
      · exact h1.syncDir

/-! ### where nothing is planned -/
theorem tried_free (h : s.plan = []) : s.tried = ({ s with tries := s.tries + 1 }, 0) := by
  unfold St.tried
  rw [h]
  rfl
theorem remove_free (hp : s.plan = []) (hon : s.on = true) {n : Nm} (hn : isName n = true) (hm : n ∈ keys s.now) : (s.remove n).2 = 0 ∧ (s.remove n).1.now = drop s.now n ∧ (s.remove n).1.on = true ∧ (s.remove n).1.plan = [] := by
  have hne := isName_ne hn
  have h1 : s.looked [] [n] = 0 := by simp [St.looked, hon, hn]
  have h2 : s.looked n [] = 0 := by
    have : find s.now n ≠ none := fun e => (find_none.1 e) hm
    simp [St.looked, hon, this]
  unfold St.remove
  rw [if_neg (by simp [h1]), if_neg (by simp [h2]), tried_free hp, if_neg (by simp)]
  refine ⟨rfl, ?_, hon, hp⟩
  show behind s.now ⟨n, [], 0⟩ = _
  exact behind_drop _ hne _
theorem cleanGo_free : ∀ (ns : List Nm) {s : St}, s.plan = [] → s.on = true → ns.Nodup → (∀ n ∈ ns, isName n = true ∧ n ∈ keys s.now) → (s.cleanGo ns).2 = 0 ∧ (s.cleanGo ns).1.on = true ∧ (s.cleanGo ns).1.plan = [] ∧ (∀ p ∈ (s.cleanGo ns).1.now, p ∈ s.now ∧ p.1 ∉ ns)
  | [], s, hp, hon, _, _ => ⟨rfl, hon, hp, fun p h => ⟨h, by simp⟩⟩
  | n :: r, s, hp, hon, hd, hn => by
    obtain ⟨hd1, hd2⟩ := List.nodup_cons.1 hd
    obtain ⟨h1, h2⟩ := hn n List.mem_cons_self
    obtain ⟨a, b, c, d⟩ := remove_free hp hon h1 h2
    have ih := cleanGo_free r d c hd2 fun m hm => by
      obtain ⟨h3, h4⟩ := hn m (List.mem_cons_of_mem _ hm)
      refine ⟨h3, ?_⟩
      have hne : m ≠ n := fun e => hd1 (e ▸ hm)
      rw [b]
      obtain ⟨p, hp, rfl⟩ := List.mem_map.1 h4
      exact List.mem_map.2 ⟨p, List.mem_filter.2 ⟨hp, by simpa using hne⟩, rfl⟩
    unfold St.cleanGo
    rw [if_pos a]
    refine ⟨ih.1, ih.2.1, ih.2.2.1, fun p hp => ?_⟩
    obtain ⟨h3, h4⟩ := ih.2.2.2 p hp
    rw [b] at h3
    obtain ⟨h5, h6⟩ := List.mem_filter.1 h3
    refine ⟨h5, ?_⟩
    rw [List.mem_cons]
    rintro (h | h)
    · simp [h] at h6
    · exact h4 h
theorem keys_nodup {l : Fo} (h : Rising l) : (keys l).Nodup := by
  unfold keys List.Nodup
  rw [List.pairwise_map]
  exact h.imp fun hab e => by rw [e] at hab; exact lt_irrefl _ hab
/-- A Clean that nothing hinders. -/
theorem clean_free (hg : Good s) (hp : s.plan = []) (hon : s.on = true) (hn : ∀ p ∈ s.now, isName p.1 = true) : s.clean.2 = 0 ∧ s.clean.1.on = true ∧ s.clean.1.stale = [] ∧ (s.row = [] → s.clean.1.row = []) := by
  have hns : s.names = keys s.now := by unfold St.names; rw [if_pos hon]
  have hst : s.stale = (keys s.now).filter isTmp := by unfold St.stale; rw [hns]
  obtain ⟨a, b, c, d⟩ := cleanGo_free s.stale hp hon (by rw [hst]; exact (keys_nodup hg.nowR).filter _) fun n hn' => by
    rw [hst] at hn'
    have := (List.mem_filter.1 hn').1
    obtain ⟨p, hp, rfl⟩ := List.mem_map.1 this
    exact ⟨hn p hp, this⟩
  have hno : ∀ t : St, t.on = true → (∀ p ∈ t.now, p ∈ s.now ∧ p.1 ∉ s.stale) → t.stale = [] := fun t ht h => by
    unfold St.stale St.names
    rw [if_pos ht, List.filter_eq_nil_iff]
    intro n hn' e
    obtain ⟨p, hp, rfl⟩ := List.mem_map.1 hn'
    obtain ⟨h1, h2⟩ := h p hp
    apply h2
    rw [hst]
    exact List.mem_filter.2 ⟨List.mem_map.2 ⟨p, h1, rfl⟩, e⟩
  unfold St.clean
  rw [if_neg (by simp [hon]), if_neg (by simp [a])]
  split
  · rename_i h
    exact ⟨rfl, hon, h, fun h => h⟩
  · have e : (s.cleanGo s.stale).1.syncDir = ((s.cleanGo s.stale).1.tried.1.settled.more, 0) := by
      unfold St.syncDir St.call
      rw [if_neg (by simp [St.looked, b]), if_neg (by simp [St.looked, b]), tried_free c, if_neg (by simp)]
    rw [e, tried_free c]
    exact ⟨rfl, b, hno _ b d, fun _ => rfl⟩

/-! ### the theorem -/
theorem row_clean_stale (h : s.stale = []) (hon : s.on = true) : ∀ p ∈ s.now, nt p = true := by
  intro p hp
  unfold St.stale St.names at h
  rw [if_pos hon, List.filter_eq_nil_iff] at h
  have := h p.1 (List.mem_map.2 ⟨p, hp, rfl⟩)
  simpa [nt] using this
/-- What is told of a file. -/
def ntF (p : Nm × Nd) : Bool := !isTmp p.1
theorem files_nt (s : St) (hon : s.on = true) : s.files.filter ntF = (s.now.filter nt).map fun p => (p.1, (s.all[p.2]?).getD ⟨[], 0, false⟩) := by
  unfold St.files
  rw [if_pos hon, List.filter_map]
  rfl
/-- Behind all: no temporary name, the others, at least what was synced of each. -/
theorem recovered (h : Rec s0 s) (hon0 : s0.on = true) (hon : s.on = true) (hst : s.stale = []) (hr : s.row = []) {u : St} (hu : u = s.off.start 0 []) :
    u.files.length = (s0.files.filter ntF).length ∧ ∀ (k : Nat) (f g : Nm × Nd), (s0.files.filter ntF)[k]? = some f → u.files[k]? = some g → g.1 = f.1 ∧ g.2.bad = f.2.bad ∧ g.2.bytes <+: f.2.bytes ∧ f.2.syn ≤ g.2.bytes.length := by
  have hR : Rec s0 u := by rw [hu]; exact h.off.begin_ 0 []
  have hnow : u.now = s.now := by
    have h1 := h.good.now
    rw [hr] at h1
    rw [hu]
    unfold St.start
    rw [if_neg (by simp [St.off])]
    simp [St.off, hr, h1]
  have honu : u.on = true := by
    rw [hu]
    unfold St.start
    rw [if_neg (by simp [St.off])]
  have hfil : u.now = s0.now.filter nt := by
    rw [hnow, ← h.names s.row.length, h.good.at_all, List.filter_eq_self.2 (row_clean_stale hst hon)]
  have hfu : u.files = u.now.map fun p => (p.1, (u.all[p.2]?).getD ⟨[], 0, false⟩) := by unfold St.files; rw [if_pos honu]
  rw [files_nt s0 hon0, hfu, hfil]
  refine ⟨by simp, fun k f g hf hg => ?_⟩
  rw [List.getElem?_map] at hf hg
  obtain ⟨p, hp, rfl⟩ := Option.map_eq_some_iff.1 hf
  obtain ⟨q, hq, rfl⟩ := Option.map_eq_some_iff.1 hg
  rw [hp] at hq
  cases hq
  have hpu : p ∈ u.now := by rw [hfil]; exact List.mem_of_getElem? hp
  have hi := hR.good.nowI (List.mem_map.2 ⟨p, hpu, rfl⟩)
  obtain ⟨d0, e0, h1, h2, h3⟩ := hR.files p.2 _ (List.getElem?_eq_getElem hi)
  have hs := hR.good.sync _ (List.getElem_mem hi)
  simp only [e0, List.getElem?_eq_getElem hi, Option.getD_some]
  exact ⟨trivial, h3, h1, by omega⟩
end
/-- The temporary name of a name. -/
def hasTmp (n : Nm) : Bool := isName n && decide (n.length ≤ 56) && !isTmp n
def tmpOf (n : Nm) : Nm := if hasTmp n then tmpPre ++ n else []
end Disk
end Go.Proofs.Ytfommpbblpnljaa
namespace Go.Proofs.Ytfommpbblpnljaa
namespace Disk

theorem nowGo_mem : ∀ (fs : List Fin_) (i : Nat) (l : Fo) (p : Nm × Nat), p ∈ nowGo i l fs → p ∈ l ∨ ∃ f ∈ fs, f.name = p.1
  | [], _, _, _, h => .inl h
  | f :: r, i, l, p, h => by
    rcases nowGo_mem r (i + 1) (put l f.name i) p h with h | ⟨g, hg, e⟩
    · rcases mem_ins.1 h with rfl | h
      · exact .inr ⟨f, List.mem_cons_self, rfl⟩
      · exact .inl (List.mem_filter.1 h).1
    · exact .inr ⟨g, List.mem_cons_of_mem _ hg, e⟩
theorem now_names {room : Int} {fs : List Fin_} (h : fromErr room fs = 0) : ∀ p ∈ (fromSt room fs).now, isName p.1 = true := by
  intro p hp
  have hok : allOk fs = true := by
    unfold fromErr at h
    split at h
    · cases h
    · split at h
      · cases h
      · rename_i h2; simpa using h2
  rcases nowGo_mem fs 0 [] p hp with h | ⟨f, hf, e⟩
  · cases h
  · obtain ⟨j, hj, rfl⟩ := List.getElem_of_mem hf
    have := allOk_at hok hj
    unfold okF at this
    simp only [Bool.and_eq_true] at this
    rw [← e]
    exact this.1.1.1
section
variable (s0 : St) (fl : List (Int × Int)) (dir : Int) (keep : List Int) (ag : List (Int × Int)) (th : Int) (lf : List Int)
def r1 : St := (s0.plan_ fl).1
def r2 : St := (r1 s0 fl).clean.1
def r3 : St := (r2 s0 fl).off.start dir keep
def r4 : St := ((r3 s0 fl dir keep).plan_ ag).1
def r5 : St := (r4 s0 fl dir keep ag).clean.1
def r6 : St := (r5 s0 fl dir keep ag).off.start th lf
def r7 : St := ((r6 s0 fl dir keep ag th lf).plan_ []).1
theorem start_on (s : St) (dir : Int) (keep : List Int) : (s.off.start dir keep).on = true ∧ (s.off.start dir keep).row = [] := by
  unfold St.start
  rw [if_neg (by simp [St.off])]
  exact ⟨rfl, rfl⟩
theorem plan_nil (s : St) : (s.plan_ []).2 = 0 ∧ (s.plan_ []).1.on = s.on ∧ (s.plan_ []).1.row = s.row ∧ (s.plan_ []).1.plan = [] := ⟨rfl, rfl, rfl, rfl⟩
end
/-- All that the law asks. -/
theorem rec_all {room : Int} {fs : List Fin_} (h : fromErr room fs = 0) (fl : List (Int × Int)) (dir : Int) (keep : List Int) (ag : List (Int × Int)) (th : Int) (lf : List Int) {t u : St} (ht : t = r7 (fromSt room fs) fl dir keep ag th lf) (hu : u = t.clean.1.off.start 0 []) :
    t.clean.2 = 0 ∧ t.clean.1.stale = [] ∧ t.clean.1.row = [] ∧ u.files.length = ((fromSt room fs).files.filter ntF).length ∧
      ∀ (k : Nat) (f g : Nm × Nd), ((fromSt room fs).files.filter ntF)[k]? = some f → u.files[k]? = some g → g.1 = f.1 ∧ g.2.bad = f.2.bad ∧ g.2.bytes <+: f.2.bytes ∧ f.2.syn ≤ g.2.bytes.length := by
  have hR0 : Rec (fromSt room fs) (fromSt room fs) := Rec.start_ (fine_from h).good rfl
  have hR : Rec (fromSt room fs) t := by
    rw [ht]
    exact ((((((hR0.plan fl).clean).off.begin_ dir keep).plan ag).clean).off.begin_ th lf).plan []
  have h6 := start_on (r5 (fromSt room fs) fl dir keep ag) th lf
  have hon : t.on = true := by rw [ht]; exact h6.1
  have hrow : t.row = [] := by rw [ht]; exact h6.2
  have hpl : t.plan = [] := by rw [ht]; rfl
  have hnm : ∀ p ∈ t.now, isName p.1 = true := fun p hp => now_names h p (hR.sub t.row.length p (by rw [hR.good.at_all]; exact hp))
  obtain ⟨a, b, c, d⟩ := clean_free hR.good hpl hon hnm
  have hr := recovered hR.clean rfl b c (d hrow) hu
  exact ⟨a, c, d hrow, hr.1, hr.2⟩
/-- How many of the first are kept. -/
theorem nt_take {l : List (Nm × Nd)} {i : Nat} (hi : i < l.length) : (l.take (i + 1)).filter ntF = (l.take i).filter ntF ++ (if ntF l[i] then [l[i]] else []) := by
  rw [List.take_succ_eq_append_getElem hi, List.filter_append]
  congr 1
  cases h : ntF l[i] <;> simp [h]
theorem nt_at {l : List (Nm × Nd)} {i : Nat} (hi : i < l.length) (h : ntF l[i] = true) : (l.filter ntF)[((l.take i).filter ntF).length]? = some l[i] := by
  conv => lhs; rw [← List.take_append_drop i l, List.filter_append, List.take_append_drop]
  rw [List.getElem?_append_right (Nat.le_refl _), Nat.sub_self, List.drop_eq_getElem_cons hi, List.filter_cons_of_pos h]
  rfl
end Disk
end Go.Proofs.Ytfommpbblpnljaa
namespace Go.Proofs.Ytfommpbblpnljaa
namespace Disk

/-- An output: what it holds, its error. -/
structure Ou where
  held : List UInt8
  err : Int
namespace St
def handOn (s : St) (t : Nm) (o : Ou) : St × Ou × Int := if o.held = [] then (s, o, 0) else ((s.append t o.held).1, ⟨[], (s.append t o.held).2⟩, (s.append t o.held).2)
def ouWrite (s : St) (t : Nm) (o : Ou) (l : List UInt8) : St × Ou × Int :=
  if o.err ≠ 0 then (s, o, o.err) else if (o.held ++ l).length < 64 then (s, ⟨o.held ++ l, o.err⟩, 0) else s.handOn t ⟨o.held ++ l, o.err⟩
def ouFlush (s : St) (t : Nm) (o : Ou) : St × Ou × Int := if o.err ≠ 0 then (s, o, o.err) else s.handOn t o
/-- What stands behind the run: the Flush, the Sync, the Rename. -/
def rest (s : St) (t n : Nm) (o : Ou) : St × Int :=
  if (s.ouFlush t o).2.2 ≠ 0 then ((s.ouFlush t o).1, (s.ouFlush t o).2.2)
  else if ((s.ouFlush t o).1.sync t).2 ≠ 0 then (s.ouFlush t o).1.sync t
  else ((s.ouFlush t o).1.sync t).1.rename t n
/-- Behind the run that has left the disk so, and answered e. -/
def behindRun (t n : Nm) (r : St × Ou × Int) : St × Int :=
  if r.2.2 ≠ 0 then (r.1, r.2.2) else r.1.rest t n r.2.1
/-- The end: what is deferred, or the folder's sync. -/
def ends (t : Nm) (r : St × Int) : St × Int := if r.2 ≠ 0 then ((r.1.remove t).1, r.2) else r.1.syncDir
/-- Ahead of the run: what is refused, or the disk with the temporary file. -/
def ahead (s : St) (n : Nm) : St × Int :=
  if hasTmp n = false then (s, 20)
  else if (s.read n).2 ≠ 0 then (s, (s.read n).2)
  else if tmpOf n ∈ s.names ∧ (s.remove (tmpOf n)).2 ≠ 0 then s.remove (tmpOf n)
  else (if tmpOf n ∈ s.names then (s.remove (tmpOf n)).1 else s).make (tmpOf n)
def edit (s : St) (n : Nm) (R : St → St × Ou × Int) : St × Int :=
  if (s.ahead n).2 ≠ 0 then s.ahead n else ends (tmpOf n) (behindRun (tmpOf n) n (R (s.ahead n).1))
end St
/-- What a run does: its kind, its parts, its name, its number. -/
structure ActV where
  kind : Int
  parts : List (List UInt8)
  name : Nm
  err : Int
/-- A name that is neither the file's nor a temporary one. -/
def other (c n : Nm) : Nm :=
  if (if 1 < n.length ∨ n = c ∨ n = [] then [119] else n) = c then [118] else if 1 < n.length ∨ n = c ∨ n = [] then [119] else n
namespace St
def putGo (s : St) (n : Nm) : List (List UInt8) → St × Int
  | [] => (s, 0)
  | p :: r => if (s.append n p).2 ≠ 0 then s.append n p else (s.append n p).1.putGo n r
def puts (s : St) (n : Nm) (l : List (List UInt8)) : St × Int :=
  if (s.read n).2 = 21 then (if (s.make n).2 ≠ 0 then s.make n else (s.make n).1.putGo n l) else s.putGo n l
/-- A step of a run: the disk, the output, all that was written; whether it goes on, or what it answers. -/
def actStep (s : St) (c t : Nm) (o : Ou) (w : List UInt8) (a : ActV) : St × Ou × List UInt8 × Option Int :=
  if a.kind = 0 then ((s.ouWrite t o a.parts.flatten).1, (s.ouWrite t o a.parts.flatten).2.1, w ++ a.parts.flatten, none)
  else if a.kind = 1 then ((s.ouFlush t o).1, (s.ouFlush t o).2.1, w, none)
  else if a.kind = 2 then ((s.puts (other c a.name) a.parts).1, o, w, none)
  else if a.kind = 3 then ((s.sync (other c a.name)).1, o, w, none)
  else if a.kind = 4 then (s, o, w, if a.err ≠ 0 then some a.err else none)
  else if a.kind = 5 then (s, o, w, if o.err ≠ 0 then some o.err else none)
  else (s, o, w, none)
def runGo (c t : Nm) : List ActV → St → Ou → List UInt8 → St × Ou × List UInt8 × Int
  | [], s, o, w => (s, o, w, 0)
  | a :: r, s, o, w =>
    match (s.actStep c t o w a).2.2.2 with
    | some e => ((s.actStep c t o w a).1, (s.actStep c t o w a).2.1, (s.actStep c t o w a).2.2.1, e)
    | none => runGo c t r (s.actStep c t o w a).1 (s.actStep c t o w a).2.1 (s.actStep c t o w a).2.2.1
/-- The run, with what it saw left out. -/
def runOf (c : Nm) (l : List ActV) (s : St) : St × Ou × Int := ((runGo c (tmpOf c) l s ⟨[], 0⟩ []).1, (runGo c (tmpOf c) l s ⟨[], 0⟩ []).2.1, (runGo c (tmpOf c) l s ⟨[], 0⟩ []).2.2.2)
end St
end Disk
end Go.Proofs.Ytfommpbblpnljaa
namespace Go.Proofs.Ytfommpbblpnljaa
namespace Disk

theorem find_behind {l : Fo} (hr : Rising l) {c : Chg} {n : Nm} (h1 : c.src = n → n = []) (h2 : c.dst ≠ n) : find (behind l c) n = find l n := by
  unfold behind
  dsimp only
  split
  · split
    · rfl
    · rename_i h; exact find_drop_other l fun e => h (e ▸ h1 e.symm)
  · rw [find_put_other (by split; exact hr; exact hr.drop _) _ (Ne.symm h2)]
    split
    · rfl
    · rename_i h; exact find_drop_other l fun e => h (e ▸ h1 e.symm)
theorem find_ids {l : Fo} {n : Nm} {i : Nat} (h : find l n = some i) : i ∈ ids l := List.mem_map.2 ⟨_, mem_of_find h, rfl⟩
theorem find_inj {l : Fo} (hn : (ids l).Nodup) {m n : Nm} {i : Nat} (h : find l m = some i) (h' : find l n = some i) : m = n := by
  have h1 := mem_of_find h
  have h2 := mem_of_find h'
  obtain ⟨a, ha, ea⟩ := List.getElem_of_mem h1
  obtain ⟨b, hb, eb⟩ := List.getElem_of_mem h2
  have hab : a = b := by
    have h3 : (ids l)[a]'(by simpa [ids] using ha) = i := by simp [ids, ea]
    have h4 : (ids l)[b]'(by simpa [ids] using hb) = i := by simp [ids, eb]
    have hp := List.pairwise_iff_getElem.1 hn
    rcases Nat.lt_trichotomy a b with hlt | he | hlt
    · exact absurd (h3.trans h4.symm) (hp a b (by simpa [ids] using ha) (by simpa [ids] using hb) hlt)
    · exact he
    · exact absurd (h4.trans h3.symm) (hp b a (by simpa [ids] using hb) (by simpa [ids] using ha) hlt)
  subst hab
  rw [ea] at eb
  exact congrArg Prod.fst eb
/-- The file under a name: what it was, wherever the power goes. -/
structure Keep (s0 s : St) (n : Nm) : Prop where
  good : Good s
  at_ : ∀ k, find (s.at_ k) n = find s0.now n
  file : ∀ i, find s0.now n = some i → s.all[i]? = s0.all[i]?
section
variable {s0 s t : St} {n m : Nm}
theorem Keep.now (h : Keep s0 s n) : find s.now n = find s0.now n := by rw [← h.good.at_all]; exact h.at_ _
theorem Keep.start_ (h : Good s0) (hr : s0.row = []) : Keep s0 s0 n := by
  have e : ∀ k, s0.at_ k = s0.now := fun k => by
    have h1 := h.now
    rw [hr] at h1
    unfold St.at_
    rw [hr, List.take_nil, h1]
  exact ⟨h, fun k => by rw [e], fun _ _ => rfl⟩
theorem Keep.same (h : Keep s0 s n) (hg : Good t) (h1 : t.row = s.row) (h2 : t.old = s.old) (h3 : t.all = s.all) : Keep s0 t n := by
  have e : ∀ k, t.at_ k = s.at_ k := fun k => by unfold St.at_; rw [h1, h2]
  exact ⟨hg, fun k => by rw [e]; exact h.at_ k, by rw [h3]; exact h.file⟩
theorem Keep.tried (h : Keep s0 s n) : Keep s0 s.tried.1 n := by
  obtain ⟨h1, h2, h3, h4, h5, h6, h7, h8⟩ := tried_kept s
  exact h.same (good_tried h.good) h1 h5 h3
theorem Keep.more (h : Keep s0 s n) : Keep s0 s.more n := h.same (good_more h.good) rfl rfl rfl
/-- A change of the folder under other names. -/
theorem Keep.changes (h : Keep s0 s n) {c : Chg} (hg : Good (s.changes c)) (h1 : c.src ≠ n) (h2 : c.dst ≠ n) : Keep s0 (s.changes c) n := by
  refine ⟨hg, fun k => ?_, h.file⟩
  rw [at_changes]
  split
  · exact h.at_ k
  · rw [find_behind (h.good.rising _) (fun e => absurd e h1) h2]; exact h.at_ _
/-- A node more, another node. -/
theorem Keep.grow (h : Keep s0 s n) {d : Nd} (hg : Good { s with all := s.all ++ [d] }) : Keep s0 { s with all := s.all ++ [d] } n := by
  refine ⟨hg, h.at_, fun i hi => ?_⟩
  have hl : i < s.all.length := h.good.nowI (find_ids (h.now.trans hi))
  show (s.all ++ [d])[i]? = _
  rw [List.getElem?_append_left hl]
  exact h.file i hi
theorem Keep.setNd (h : Keep s0 s n) {q : Nat} {f : Nd → Nd} (hg : Good (s.setNd q f)) (hq : find s.now m = some q) (hne : m ≠ n) : Keep s0 (s.setNd q f) n := by
  refine ⟨hg, h.at_, fun i hi => ?_⟩
  have hiq : q ≠ i := fun e => by subst e; exact hne (find_inj h.good.nowN hq (h.now.trans hi))
  show (s.all.modify q f)[i]? = _
  rw [List.getElem?_modify]
  simpa [hiq] using h.file i hi
theorem Keep.settled (h : Keep s0 s n) (hg : Good s.settled) : Keep s0 s.settled n := by
  refine ⟨hg, fun k => ?_, h.file⟩
  have e : s.settled.at_ k = s.now := by unfold St.at_ St.settled; simp
  rw [e]; exact h.now
/-- Calls of other names. -/
theorem Keep.make (h : Keep s0 s n) (hne : m ≠ n) (hn : n ≠ []) : Keep s0 (s.make m).1 n := by
  have hg : Good (s.make m).1 := good_act h.good (.make m)
  revert hg
  unfold St.make St.call
  split
  · exact fun _ => h
  · split
    · exact fun _ => h
    · split
      · exact fun _ => h.tried
      · dsimp only
        split
        · exact fun _ => h.tried
        · intro hg
          have hg2 : Good { s.tried.1 with all := s.tried.1.all ++ [⟨[], 0, false⟩] } := by
            refine good_same h.tried.good rfl rfl rfl (by simp) fun d hd => ?_
            rcases List.mem_append.1 hd with hd | hd
            · exact h.tried.good.sync d hd
            · rw [List.mem_singleton.1 hd]; exact Nat.le_refl _
          refine (Keep.changes (h.tried.grow hg2) (c := ⟨[], m, s.tried.1.all.length⟩) ?_ (Ne.symm hn) hne).more
          exact ⟨hg.now, hg.old, hg.nodup, hg.have_, hg.sync, hg.names⟩
theorem Keep.append (h : Keep s0 s n) (hne : m ≠ n) (b : List UInt8) : Keep s0 (s.append m b).1 n := by
  have hg : Good (s.append m b).1 := good_act h.good (.append m b)
  revert hg
  unfold St.append St.call
  split
  · exact fun _ => h
  · split
    · exact fun _ => h
    · rename_i h1 h2
      split
      · exact fun _ => h.tried
      · dsimp only
        split
        · exact fun _ => h.tried
        · intro hg
          have hm : m ≠ [] := isName_ne (looked_name (Decidable.not_not.1 h1) m (by simp))
          obtain ⟨q, hq⟩ := looked_file hm (Decidable.not_not.1 h2)
          have hq2 : find s.tried.1.now m = some q := by rw [(tried_kept s).2.2.2.1]; exact hq
          rw [hq2]
          refine (Keep.setNd h.tried (m := m) ?_ hq2 hne).more
          rw [hq2] at hg
          exact ⟨hg.now, hg.old, hg.nodup, hg.have_, hg.sync, hg.names⟩
theorem Keep.sync (h : Keep s0 s n) (hne : m ≠ n) : Keep s0 (s.sync m).1 n := by
  have hg : Good (s.sync m).1 := good_act h.good (.sync m)
  revert hg
  unfold St.sync St.call
  split
  · exact fun _ => h
  · split
    · exact fun _ => h
    · rename_i h1 h2
      split
      · exact fun _ => h.tried
      · dsimp only
        intro hg
        have hm : m ≠ [] := isName_ne (looked_name (Decidable.not_not.1 h1) m (by simp))
        obtain ⟨q, hq⟩ := looked_file hm (Decidable.not_not.1 h2)
        have hq2 : find s.tried.1.now m = some q := by rw [(tried_kept s).2.2.2.1]; exact hq
        rw [hq2]
        refine (Keep.setNd h.tried (m := m) ?_ hq2 hne).more
        rw [hq2] at hg
        exact ⟨hg.now, hg.old, hg.nodup, hg.have_, hg.sync, hg.names⟩
theorem Keep.remove (h : Keep s0 s n) (hne : m ≠ n) (hn : n ≠ []) : Keep s0 (s.remove m).1 n := by
  have hg : Good (s.remove m).1 := good_act h.good (.remove m)
  revert hg
  unfold St.remove
  split
  · exact fun _ => h
  · split
    · exact fun _ => h
    · split
      · exact fun _ => h.tried
      · intro hg
        exact (Keep.changes h.tried (c := ⟨m, [], 0⟩) ⟨hg.now, hg.old, hg.nodup, hg.have_, hg.sync, hg.names⟩ hne (Ne.symm hn)).more
theorem Keep.plan (h : Keep s0 s n) (l : List (Int × Int)) : Keep s0 (s.plan_ l).1 n := by
  have hg : Good (s.plan_ l).1 := good_act h.good (.plan l)
  revert hg
  unfold St.plan_
  split
  · exact fun hg => h.same hg rfl rfl rfl
  · exact fun _ => h
theorem Keep.putGo (hne : m ≠ n) : ∀ (l : List (List UInt8)) {s : St}, Keep s0 s n → Keep s0 (s.putGo m l).1 n
  | [], _, h => h
  | p :: r, s, h => by
    unfold St.putGo
    split
    · exact h.append hne p
    · exact Keep.putGo hne r (h.append hne p)
theorem Keep.puts (h : Keep s0 s n) (hne : m ≠ n) (hn : n ≠ []) (l : List (List UInt8)) : Keep s0 (s.puts m l).1 n := by
  unfold St.puts
  split
  · split
    · exact h.make hne hn
    · exact Keep.putGo hne l (h.make hne hn)
  · exact Keep.putGo hne l h
end
end Disk
end Go.Proofs.Ytfommpbblpnljaa
namespace Go.Proofs.Ytfommpbblpnljaa
namespace Disk

/-- Calls under one other name. -/
structure Oth (m : Nm) (s s' : St) : Prop where
  good : Good s'
  now : ∀ x, x ≠ m → find s'.now x = find s.now x
  len : s.all.length ≤ s'.all.length
  all : ∀ i, i < s.all.length → find s.now m ≠ some i → s'.all[i]? = s.all[i]? ∧ find s'.now m ≠ some i
section
variable {s0 s s' t : St} {n m : Nm}
theorem Oth.refl (h : Good s) : Oth m s s := ⟨h, fun _ _ => rfl, Nat.le_refl _, fun _ _ h => ⟨rfl, h⟩⟩
theorem Oth.trans (h : Oth m s s') (k : Oth m s' t) : Oth m s t :=
  ⟨k.good, fun x hx => (k.now x hx).trans (h.now x hx), Nat.le_trans h.len k.len, fun i hi hne => by
    obtain ⟨a, b⟩ := h.all i hi hne
    obtain ⟨c, d⟩ := k.all i (Nat.lt_of_lt_of_le hi h.len) b
    exact ⟨c.trans a, d⟩⟩
theorem Oth.still (h : Good t) (h1 : t.now = s.now) (h2 : t.all = s.all) : Oth m s t := ⟨h, fun _ _ => by rw [h1], by rw [h2]; exact Nat.le_refl _, fun _ _ hne => ⟨by rw [h2], by rw [h1]; exact hne⟩⟩
theorem oth_tried (h : Good s) : Oth m s s.tried.1 := .still (good_tried h) (tried_kept s).2.2.2.1 (tried_kept s).2.2.1
theorem oth_make (h : Good s) : Oth m s (s.make m).1 := by
  have hg : Good (s.make m).1 := good_act h (.make m)
  have ht := oth_tried (m := m) h
  revert hg
  unfold St.make St.call
  split
  · exact fun _ => .refl h
  · split
    · exact fun _ => .refl h
    · split
      · exact fun _ => ht
      · dsimp only
        split
        · exact fun _ => ht
        · intro hg
          refine ht.trans ⟨hg, fun x hx => ?_, by simp [St.more, St.changes], fun i hi hne => ⟨?_, ?_⟩⟩
          · exact find_behind ht.good.nowR (fun e => e.symm) (Ne.symm hx)
          · show (s.tried.1.all ++ [_])[i]? = _
            rw [List.getElem?_append_left hi]
          · show find (behind s.tried.1.now ⟨[], m, s.tried.1.all.length⟩) m ≠ some i
            unfold behind
            dsimp only
            split
            · exact hne
            · rw [if_pos rfl, find_put_same ht.good.nowR]
              simp; omega
/-- One node of the name's file turned. -/
theorem oth_setNd {q : Nat} {f : Nd → Nd} (hg : Good (s.setNd q f).more) (hq : find s.now m = some q) : Oth m s (s.setNd q f).more :=
  ⟨hg, fun _ _ => rfl, by simp [St.more, St.setNd], fun i hi hne => ⟨by
    have hiq : q ≠ i := fun e => hne (by rw [hq, e])
    show (s.all.modify q f)[i]? = _
    rw [List.getElem?_modify]
    simp [hiq], hne⟩⟩
theorem oth_append (h : Good s) (b : List UInt8) : Oth m s (s.append m b).1 := by
  have hg : Good (s.append m b).1 := good_act h (.append m b)
  have ht := oth_tried (m := m) h
  revert hg
  unfold St.append St.call
  split
  · exact fun _ => .refl h
  · split
    · exact fun _ => .refl h
    · rename_i h1 h2
      split
      · exact fun _ => ht
      · dsimp only
        split
        · exact fun _ => ht
        · intro hg
          have hm : m ≠ [] := isName_ne (looked_name (Decidable.not_not.1 h1) m (by simp))
          obtain ⟨q, hq⟩ := looked_file hm (Decidable.not_not.1 h2)
          have hq2 : find s.tried.1.now m = some q := by rw [(tried_kept s).2.2.2.1]; exact hq
          rw [hq2] at hg ⊢
          exact ht.trans (oth_setNd hg hq2)
theorem oth_sync (h : Good s) : Oth m s (s.sync m).1 := by
  have hg : Good (s.sync m).1 := good_act h (.sync m)
  have ht := oth_tried (m := m) h
  revert hg
  unfold St.sync St.call
  split
  · exact fun _ => .refl h
  · split
    · exact fun _ => .refl h
    · rename_i h1 h2
      split
      · exact fun _ => ht
      · dsimp only
        intro hg
        have hm : m ≠ [] := isName_ne (looked_name (Decidable.not_not.1 h1) m (by simp))
        obtain ⟨q, hq⟩ := looked_file hm (Decidable.not_not.1 h2)
        have hq2 : find s.tried.1.now m = some q := by rw [(tried_kept s).2.2.2.1]; exact hq
        rw [hq2] at hg ⊢
        exact ht.trans (oth_setNd hg hq2)
theorem oth_putGo : ∀ (l : List (List UInt8)) {s : St}, Good s → Oth m s (s.putGo m l).1
  | [], _, h => .refl h
  | p :: r, s, h => by
    unfold St.putGo
    split
    · exact oth_append h p
    · exact (oth_append h p).trans (oth_putGo r (oth_append h p).good)
theorem oth_puts (h : Good s) (l : List (List UInt8)) : Oth m s (s.puts m l).1 := by
  unfold St.puts
  split
  · split
    · exact oth_make h
    · exact (oth_make h).trans (oth_putGo l (oth_make h).good)
  · exact oth_putGo l h
/-- Between two steps of the run. -/
structure Run (s0 : St) (n t : Nm) (j : Nat) (s : St) (o : Ou) (w : List UInt8) : Prop where
  keep : Keep s0 s n
  tmp : find s.now t = some j
  node : ∃ d, s.all[j]? = some d ∧ d.bad = false ∧ (o.err = 0 → d.bytes ++ o.held = w)
section
variable {tn : Nm} {j : Nat} {o : Ou} {w : List UInt8}
theorem Run.oth (h : Run s0 n tn j s o w) (hk : Keep s0 s' n) (ho : Oth m s s') (hne : m ≠ tn) : Run s0 n tn j s' o w := by
  refine ⟨hk, (ho.now tn (Ne.symm hne)).trans h.tmp, ?_⟩
  obtain ⟨d, h1, h2⟩ := h.node
  refine ⟨d, ?_, h2⟩
  rw [(ho.all j (List.getElem?_eq_some_iff.1 h1).1 fun e => hne (find_inj h.keep.good.nowN e h.tmp)).1]
  exact h1
/-- An append to the temporary file. -/
theorem append_node {d : Nd} (ht : find s.now tn = some j) (hd : s.all[j]? = some d) (l : List UInt8) : find (s.append tn l).1.now tn = some j ∧ ∃ d', (s.append tn l).1.all[j]? = some d' ∧ d'.bad = d.bad ∧ d'.syn = d.syn ∧ ((s.append tn l).2 = 0 → d'.bytes = d.bytes ++ l) := by
  obtain ⟨h1, h2, h3, h4, -⟩ := tried_kept s
  unfold St.append St.call
  split
  · rename_i h0; exact ⟨ht, d, hd, rfl, rfl, fun e => absurd e h0⟩
  · split
    · rename_i h0; exact ⟨ht, d, hd, rfl, rfl, fun e => absurd e h0⟩
    · split
      · rename_i h0; exact ⟨by rw [h4]; exact ht, d, by rw [h3]; exact hd, rfl, rfl, fun e => absurd e h0⟩
      · dsimp only
        split
        · exact ⟨by rw [h4]; exact ht, d, by rw [h3]; exact hd, rfl, rfl, fun e => by cases e⟩
        · refine ⟨by show find s.tried.1.now tn = _; rw [h4]; exact ht, { d with bytes := d.bytes ++ l }, ?_, rfl, rfl, fun _ => rfl⟩
          show (s.tried.1.all.modify _ _)[j]? = _
          rw [h4, ht, Option.getD_some, List.getElem?_modify, h3, hd]
          simp
theorem Run.handOn (h : Run s0 n tn j s o w) (hne : tn ≠ n) (he : o.err = 0) : Run s0 n tn j (s.handOn tn o).1 (s.handOn tn o).2.1 w ∧ ((s.handOn tn o).2.2 = 0 → (s.handOn tn o).2.1.err = 0 ∧ (s.handOn tn o).2.1.held = []) := by
  unfold St.handOn
  split
  · rename_i hh; exact ⟨h, fun _ => ⟨he, hh⟩⟩
  · obtain ⟨d, h1, h2, h3⟩ := h.node
    obtain ⟨a, d', b1, b2, -, b3⟩ := append_node h.tmp h1 o.held
    refine ⟨⟨h.keep.append hne o.held, a, d', b1, b2.trans h2, fun e => ?_⟩, fun e => ⟨e, rfl⟩⟩
    rw [b3 e, List.append_nil]
    exact h3 he
theorem Run.flush (h : Run s0 n tn j s o w) (hne : tn ≠ n) : Run s0 n tn j (s.ouFlush tn o).1 (s.ouFlush tn o).2.1 w ∧ ((s.ouFlush tn o).2.2 = 0 → (s.ouFlush tn o).2.1.err = 0 ∧ (s.ouFlush tn o).2.1.held = []) := by
  unfold St.ouFlush
  split
  · rename_i he; exact ⟨h, fun e => absurd e he⟩
  · rename_i he; exact h.handOn hne (Decidable.not_not.1 he)
theorem Run.write (h : Run s0 n tn j s o w) (hne : tn ≠ n) (l : List UInt8) : Run s0 n tn j (s.ouWrite tn o l).1 (s.ouWrite tn o l).2.1 (w ++ l) := by
  have h' : o.err = 0 → Run s0 n tn j s ⟨o.held ++ l, o.err⟩ (w ++ l) := fun he => ⟨h.keep, h.tmp, by
    obtain ⟨d, h1, h2, h3⟩ := h.node
    exact ⟨d, h1, h2, fun e => by rw [← h3 e, List.append_assoc]⟩⟩
  unfold St.ouWrite
  split
  · rename_i he
    exact ⟨h.keep, h.tmp, by obtain ⟨d, h1, h2, h3⟩ := h.node; exact ⟨d, h1, h2, fun e => absurd e he⟩⟩
  · rename_i he
    split
    · exact h' (Decidable.not_not.1 he)
    · exact ((h' (Decidable.not_not.1 he)).handOn hne (Decidable.not_not.1 he)).1
theorem other_ne {c m : Nm} : other c m ≠ c ∧ (other c m).length = 1 := by
  unfold other
  by_cases h : 1 < m.length ∨ m = c ∨ m = []
  · rw [if_pos h]
    split
    · rename_i e; exact ⟨by rw [← e]; decide, rfl⟩
    · rename_i e; exact ⟨e, rfl⟩
  · rw [if_neg h]
    have h1 : m ≠ c := fun e => h (.inr (.inl e))
    rw [if_neg h1]
    refine ⟨h1, ?_⟩
    have h2 : m.length ≠ 0 := fun e => h (.inr (.inr (List.eq_nil_of_length_eq_zero e)))
    have h3 : ¬ 1 < m.length := fun e => h (.inl e)
    omega
theorem Run.step (h : Run s0 n tn j s o w) (hne : tn ≠ n) (hn : n ≠ []) (htl : 1 < tn.length) (a : ActV) : Run s0 n tn j (s.actStep n tn o w a).1 (s.actStep n tn o w a).2.1 (s.actStep n tn o w a).2.2.1 := by
  have ho := @other_ne n a.name
  have hot : other n a.name ≠ tn := fun e => by have := ho.2; rw [e] at this; omega
  unfold St.actStep
  split
  · exact h.write hne _
  · split
    · exact (h.flush hne).1
    · split
      · exact h.oth (h.keep.puts ho.1 hn _) (oth_puts h.keep.good _) hot
      · split
        · exact h.oth (h.keep.sync ho.1) (oth_sync h.keep.good) hot
        · split
          · exact h
          · split
            · exact h
            · exact h
theorem Run.go (hne : tn ≠ n) (hn : n ≠ []) (htl : 1 < tn.length) : ∀ (l : List ActV) {s : St} {o : Ou} {w : List UInt8}, Run s0 n tn j s o w → Run s0 n tn j (St.runGo n tn l s o w).1 (St.runGo n tn l s o w).2.1 (St.runGo n tn l s o w).2.2.1
  | [], _, _, _, h => h
  | a :: r, s, o, w, h => by
    have h1 := h.step hne hn htl a
    unfold St.runGo
    split
    · exact h1
    · exact Run.go hne hn htl r h1
end
end
end Disk
end Go.Proofs.Ytfommpbblpnljaa
namespace Go.Proofs.Ytfommpbblpnljaa
namespace Disk

/-- Behind the rename: wherever the power goes the old bytes or the new ones. -/
structure Mid (s0 : St) (n : Nm) (w : List UInt8) (s : St) : Prop where
  good : Good s
  at_ : ∀ k, (find (s.at_ k) n = find s0.now n ∧ ∀ i, find s0.now n = some i → s.all[i]? = s0.all[i]?) ∨ (∃ j, find (s.at_ k) n = some j ∧ s.all[j]? = some ⟨w, w.length, false⟩)
  last : ∃ j, find s.now n = some j ∧ s.all[j]? = some ⟨w, w.length, false⟩
section
variable {s0 s t : St} {n tn : Nm} {w : List UInt8} {j : Nat}
theorem Mid.same (h : Mid s0 n w s) (hg : Good t) (h1 : t.row = s.row) (h2 : t.old = s.old) (h3 : t.all = s.all) (h4 : t.now = s.now) : Mid s0 n w t := by
  have e : ∀ k, t.at_ k = s.at_ k := fun k => by unfold St.at_; rw [h1, h2]
  exact ⟨hg, fun k => by rw [e, h3]; exact h.at_ k, by rw [h4, h3]; exact h.last⟩
theorem Mid.tried (h : Mid s0 n w s) : Mid s0 n w s.tried.1 := by
  obtain ⟨h1, h2, h3, h4, h5, h6, h7, h8⟩ := tried_kept s
  exact h.same (good_tried h.good) h1 h5 h3 h4
theorem Mid.syncDir (h : Mid s0 n w s) : Mid s0 n w s.syncDir.1 ∧ (s.syncDir.2 = 0 → (∀ k, ∃ j, find (s.syncDir.1.at_ k) n = some j ∧ s.syncDir.1.all[j]? = some ⟨w, w.length, false⟩) ∧ s.syncDir.1.row = []) ∧ (s.syncDir.2 ≠ 0 → s.syncDir.1.row = s.row) ∧ s.syncDir.1.now = s.now := by
  have hg : Good s.syncDir.1 := good_act h.good .syncDir
  obtain ⟨h1, h2, h3, h4, -⟩ := tried_kept s
  revert hg
  unfold St.syncDir St.call
  split
  · rename_i h0; exact fun _ => ⟨h, fun e => absurd e h0, fun _ => rfl, rfl⟩
  · split
    · rename_i h0; exact fun _ => ⟨h.tried, fun e => absurd e h0, fun _ => h1, h4⟩
    · dsimp only
      intro hg
      have e : ∀ k, (s.tried.1.settled.more).at_ k = s.tried.1.now := fun k => by
        unfold St.at_ St.settled St.more
        simp
      have hl : ∃ j, find s.tried.1.now n = some j ∧ s.tried.1.settled.more.all[j]? = some ⟨w, w.length, false⟩ := h.tried.last
      exact ⟨⟨hg, fun k => .inr (by rw [e]; exact hl), hl⟩, fun _ => ⟨fun k => by rw [e]; exact hl, rfl⟩, fun h => absurd rfl h, h4⟩
/-- A sync of the temporary file. -/
theorem sync_node {d : Nd} (ht : find s.now tn = some j) (hd : s.all[j]? = some d) : find (s.sync tn).1.now tn = some j ∧ ((s.sync tn).2 = 0 → (s.sync tn).1.all[j]? = some ⟨d.bytes, d.bytes.length, d.bad⟩) := by
  obtain ⟨h1, h2, h3, h4, -⟩ := tried_kept s
  unfold St.sync St.call
  split
  · rename_i h0; exact ⟨ht, fun e => absurd e h0⟩
  · split
    · rename_i h0; exact ⟨ht, fun e => absurd e h0⟩
    · split
      · rename_i h0; exact ⟨by rw [h4]; exact ht, fun e => absurd e h0⟩
      · refine ⟨by show find s.tried.1.now tn = _; rw [h4]; exact ht, fun _ => ?_⟩
        show (s.tried.1.all.modify _ _)[j]? = _
        rw [h4, ht, Option.getD_some, List.getElem?_modify, h3, hd]
        simp
/-- The rename. -/
theorem rename_mid (h : Keep s0 s n) (ht : find s.now tn = some j) (hne : tn ≠ n) (hn : n ≠ []) (htn : tn ≠ []) :
    ((s.rename tn n).2 ≠ 0 → Keep s0 (s.rename tn n).1 n ∧ find (s.rename tn n).1.now tn = some j ∧ (s.rename tn n).1.row = s.row) ∧
      ((s.rename tn n).2 = 0 → s.all[j]? = some ⟨w, w.length, false⟩ → Mid s0 n w (s.rename tn n).1 ∧ find (s.rename tn n).1.now tn = none ∧ (s.rename tn n).1.row ≠ []) := by
  have hg : Good (s.rename tn n).1 := good_act h.good (.rename tn n)
  obtain ⟨h1, h2, h3, h4, -⟩ := tried_kept s
  revert hg
  unfold St.rename St.call
  split
  · rename_i h0; exact fun _ => ⟨fun _ => ⟨h, ht, rfl⟩, fun e => absurd e h0⟩
  · split
    · rename_i h0; exact fun _ => ⟨fun _ => ⟨h, ht, rfl⟩, fun e => absurd e h0⟩
    · split
      · rename_i h0; exact fun _ => ⟨fun _ => ⟨h.tried, by rw [h4]; exact ht, h1⟩, fun e => absurd e h0⟩
      · dsimp only
        rw [h4, ht, Option.getD_some]
        intro hg
        refine ⟨fun e => absurd rfl e, fun _ hj => ?_⟩
        have hkt := h.tried
        have hb : behind s.tried.1.now ⟨tn, n, j⟩ = put (drop s.tried.1.now tn) n j := by unfold behind; simp [htn, hn]
        have hfn : find (put (drop s.tried.1.now tn) n j) n = some j := find_put_same (hkt.good.nowR.drop _) n j
        have hft : find (put (drop s.tried.1.now tn) n j) tn = none := by rw [find_put_other (hkt.good.nowR.drop _) _ hne]; exact find_drop_same _ _
        have hjl : s.tried.1.all[j]? = some ⟨w, w.length, false⟩ := by rw [h3]; exact hj
        refine ⟨⟨hg, fun k => ?_, j, ?_, hjl⟩, ?_, ?_⟩
        · have e : ((s.tried.1.changes ⟨tn, n, j⟩).more).at_ k = if k ≤ s.tried.1.row.length then s.tried.1.at_ k else behind (s.tried.1.at_ s.tried.1.row.length) ⟨tn, n, j⟩ := at_changes s.tried.1 ⟨tn, n, j⟩ k
          rw [e]
          split
          · exact .inl ⟨hkt.at_ k, hkt.file⟩
          · right
            rw [hkt.good.at_all, hb]
            exact ⟨j, hfn, hjl⟩
        · show find (behind s.tried.1.now ⟨tn, n, j⟩) n = some j
          rw [hb]; exact hfn
        · show find (behind s.tried.1.now ⟨tn, n, j⟩) tn = none
          rw [hb]; exact hft
        · show s.tried.1.row ++ [_] ≠ []
          simp
/-- What stands behind the run. -/
theorem rest_kept {o : Ou} (h : Run s0 n tn j s o w) (hne : tn ≠ n) (hn : n ≠ []) (htn : tn ≠ []) :
    ((s.rest tn n o).2 ≠ 0 → Keep s0 (s.rest tn n o).1 n ∧ find (s.rest tn n o).1.now tn = some j) ∧
      ((s.rest tn n o).2 = 0 → Mid s0 n w (s.rest tn n o).1 ∧ find (s.rest tn n o).1.now tn = none ∧ (s.rest tn n o).1.row ≠ []) := by
  obtain ⟨hf, hf0⟩ := h.flush hne
  unfold St.rest
  split
  · rename_i e; exact ⟨fun _ => ⟨hf.keep, hf.tmp⟩, fun e' => absurd e' e⟩
  · rename_i e1
    obtain ⟨e2, e3⟩ := hf0 (Decidable.not_not.1 e1)
    obtain ⟨d, d1, d2, d3⟩ := hf.node
    obtain ⟨q1, q2⟩ := sync_node hf.tmp d1
    have hk2 := hf.keep.sync hne
    split
    · rename_i e; exact ⟨fun _ => ⟨hk2, q1⟩, fun e' => absurd e' e⟩
    · rename_i e4
      have hnode := q2 (Decidable.not_not.1 e4)
      have hw := d3 e2
      rw [e3, List.append_nil] at hw
      rw [hw, d2] at hnode
      obtain ⟨a, b⟩ := rename_mid (w := w) hk2 q1 hne hn htn
      exact ⟨fun e => ⟨(a e).1, (a e).2.1⟩, fun e => b e hnode⟩
theorem behindRun_kept {r : St × Ou × Int} (h : Run s0 n tn j r.1 r.2.1 w) (hne : tn ≠ n) (hn : n ≠ []) (htn : tn ≠ []) :
    ((St.behindRun tn n r).2 ≠ 0 → Keep s0 (St.behindRun tn n r).1 n ∧ find (St.behindRun tn n r).1.now tn = some j) ∧
      ((St.behindRun tn n r).2 = 0 → Mid s0 n w (St.behindRun tn n r).1 ∧ find (St.behindRun tn n r).1.now tn = none ∧ (St.behindRun tn n r).1.row ≠ []) := by
  unfold St.behindRun
  split
  · rename_i e; exact ⟨fun _ => ⟨h.keep, h.tmp⟩, fun e' => absurd e' e⟩
  · exact rest_kept h hne hn htn
theorem tmp_parts (h : hasTmp n = true) : tmpOf n ≠ n ∧ n ≠ [] ∧ tmpOf n ≠ [] ∧ 1 < (tmpOf n).length ∧ isTmp (tmpOf n) = true := by
  have h0 : tmpOf n = tmpPre ++ n := by unfold tmpOf; rw [h]; rfl
  have h1 : isTmp (tmpOf n) = true := by rw [h0]; unfold isTmp; rw [List.isPrefixOf_iff_prefix]; exact List.prefix_append _ _
  have h2 : (tmpOf n).length = 8 + n.length := by rw [h0, List.length_append]; rfl
  refine ⟨fun e => ?_, fun e => ?_, fun e => ?_, by omega, h1⟩
  · have := congrArg List.length e; omega
  · subst e; simp [hasTmp, isName] at h
  · rw [e, List.length_nil] at h2; omega
/-- Ahead of the run. -/
theorem ahead_kept (h : Keep s0 s n) :
    Keep s0 (s.ahead n).1 n ∧ ((s.ahead n).2 = 0 → hasTmp n = true ∧ ∃ j, Run s0 n (tmpOf n) j (s.ahead n).1 ⟨[], 0⟩ []) := by
  unfold St.ahead
  split
  · exact ⟨h, fun e => by cases e⟩
  · rename_i ht
    have ht : hasTmp n = true := by simpa using ht
    obtain ⟨hne, hn, htn, -, -⟩ := tmp_parts ht
    split
    · rename_i e; exact ⟨h, fun e' => absurd e' e⟩
    · split
      · rename_i e; exact ⟨h.remove hne hn, fun e' => absurd e' e.2⟩
      · have h2 : Keep s0 (if tmpOf n ∈ s.names then (s.remove (tmpOf n)).1 else s) n := by
          split
          · exact h.remove hne hn
          · exact h
        obtain ⟨s1, hs1⟩ : ∃ s1, s1 = (if tmpOf n ∈ s.names then (s.remove (tmpOf n)).1 else s) := ⟨_, rfl⟩
        rw [← hs1] at h2 ⊢
        have hm := h2.make hne hn
        refine ⟨hm, fun e => ⟨ht, ?_⟩⟩
        obtain ⟨a1, a2, a3, a4, -⟩ := tried_kept s1
        revert e hm
        unfold St.make St.call
        split
        · rename_i e0; exact fun _ e => absurd e e0
        · split
          · rename_i e0; exact fun _ e => absurd e e0
          · split
            · rename_i e0; exact fun _ e => absurd e e0
            · dsimp only
              split
              · exact fun _ e => by cases e
              · intro hm _
                refine ⟨s1.tried.1.all.length, hm, ?_, ⟨[], 0, false⟩, ?_, rfl, fun _ => rfl⟩
                · show find (behind s1.tried.1.now ⟨[], tmpOf n, s1.tried.1.all.length⟩) (tmpOf n) = _
                  unfold behind
                  dsimp only
                  rw [if_neg htn, if_pos rfl, find_put_same h2.tried.good.nowR]
                · show (s1.tried.1.all ++ [_])[s1.tried.1.all.length]? = _
                  simp
/-- All that the run wrote. -/
def wholeOf (s : St) (n : Nm) (l : List ActV) : List UInt8 := (St.runGo n (tmpOf n) l (s.ahead n).1 ⟨[], 0⟩ []).2.2.1
theorem edit_kept (h : Keep s0 s n) (l : List ActV) :
    ((s.edit n (St.runOf n l)).2 ≠ 0 ∧ Keep s0 (s.edit n (St.runOf n l)).1 n) ∨
      ((s.ahead n).2 = 0 ∧ Mid s0 n (wholeOf s n l) (s.edit n (St.runOf n l)).1 ∧ ((s.edit n (St.runOf n l)).2 = 0 → (∀ k, ∃ j, find ((s.edit n (St.runOf n l)).1.at_ k) n = some j ∧ (s.edit n (St.runOf n l)).1.all[j]? = some ⟨wholeOf s n l, (wholeOf s n l).length, false⟩) ∧ (s.edit n (St.runOf n l)).1.row = []) ∧ ((s.edit n (St.runOf n l)).2 ≠ 0 → (s.edit n (St.runOf n l)).1.row ≠ []) ∧ find (s.edit n (St.runOf n l)).1.now (tmpOf n) = none) := by
  obtain ⟨hk, hr⟩ := ahead_kept h
  unfold St.edit
  split
  · rename_i e; exact .inl ⟨e, hk⟩
  · rename_i e
    have e := Decidable.not_not.1 e
    obtain ⟨ht, j, hR⟩ := hr e
    obtain ⟨hne, hn, htn, htl, -⟩ := tmp_parts ht
    have hR2 := Run.go hne hn htl l hR
    have hB := behindRun_kept (r := St.runOf n l (s.ahead n).1) hR2 hne hn htn
    unfold St.ends
    split
    · rename_i e2
      left
      exact ⟨e2, (hB.1 e2).1.remove hne hn⟩
    · rename_i e2
      obtain ⟨m1, m2, m3⟩ := hB.2 (Decidable.not_not.1 e2)
      obtain ⟨d1, d2, d3, d4⟩ := m1.syncDir
      exact .inr ⟨e, d1, d2, fun e => by rw [d3 e]; exact m3, by rw [d4]; exact m2⟩
end
end Disk
end Go.Proofs.Ytfommpbblpnljaa
namespace Go.Proofs.Ytfommpbblpnljaa
namespace Disk

/-- The bytes under a name among files that are told. -/
def bytesOf (l : List (Nm × Nd)) (n : Nm) : Option (List UInt8) := (l.find? fun p => p.1 == n).map fun p => p.2.bytes
/-- .. among files that are handed in. -/
def bytesF (l : List Fin_) (n : Nm) : Option (List UInt8) := (l.find? fun f => f.name == n).map fun f => f.bytes
section
variable {s u : St} {n : Nm}
theorem bytes_find (a : List Nd) : ∀ l : Fo, bytesOf (l.map fun p => (p.1, (a[p.2]?).getD ⟨[], 0, false⟩)) n = (find l n).map fun i => ((a[i]?).getD ⟨[], 0, false⟩).bytes
  | [] => rfl
  | p :: r => by
    have ih := bytes_find a r
    unfold bytesOf find at ih ⊢
    rw [List.map_cons, List.find?_cons, List.find?_cons]
    by_cases e : p.1 = n
    · simp [e]
    · have : (p.1 == n) = false := by simpa using e
      simp only [this]
      exact ih
theorem bytes_of (hon : u.on = true) : bytesOf u.files n = (find u.now n).map fun i => ((u.all[i]?).getD ⟨[], 0, false⟩).bytes := by
  have : u.files = u.now.map fun p => (p.1, (u.all[p.2]?).getD ⟨[], 0, false⟩) := by unfold St.files; rw [if_pos hon]
  rw [this]; exact bytes_find _ _
theorem bytes_some {i : Nat} {d : Nd} (hon : u.on = true) (h : find u.now n = some i) (hd : u.all[i]? = some d) : bytesOf u.files n = some d.bytes := by
  rw [bytes_of hon, h]; simp [hd]
theorem bytes_none (hon : u.on = true) (h : find u.now n = none) : bytesOf u.files n = none := by rw [bytes_of hon, h]; rfl
theorem cut_dur {d : Nd} (h : d.syn = d.bytes.length) (k : Option Int) : St.cutNd d k = d := by
  obtain ⟨b, x, c⟩ := d
  obtain rfl : x = b.length := h
  exact cut_whole b c k
theorem cuts_dur {i : Nat} {d : Nd} (h : d.syn = d.bytes.length) (keep : List Int) (l : Fo) (a : List Nd) (ha : a[i]? = some d) : (St.cuts keep 0 l a)[i]? = some d := by
  have hR := cuts_all (R := fun q e => q = i → e = d) keep (fun q e k he hq => by rw [he hq, cut_dur h]) l 0 a fun q e hq hqi => by
    subst hqi
    rw [ha] at hq
    exact (Option.some.inj hq).symm
  have hlen : i < (St.cuts keep 0 l a).length := by rw [cuts_len]; exact (List.getElem?_eq_some_iff.1 ha).1
  rw [List.getElem?_eq_getElem hlen]
  congr 1
  exact hR i _ (List.getElem?_eq_getElem hlen) rfl
theorem start_parts (s : St) (dir : Int) (keep : List Int) : (s.off.start dir keep).on = true ∧ (s.off.start dir keep).row = [] ∧ (s.off.start dir keep).now = s.at_ (St.left dir s.row.length) ∧ (s.off.start dir keep).all = St.cuts keep 0 (s.at_ (St.left dir s.row.length)) s.all := by
  unfold St.start
  rw [if_neg (by simp [St.off])]
  exact ⟨rfl, rfl, rfl, rfl⟩
theorem start_some {dir : Int} {keep : List Int} {i : Nat} {d : Nd} (hf : find (s.at_ (St.left dir s.row.length)) n = some i) (hd : s.all[i]? = some d) (hdur : d.syn = d.bytes.length) : bytesOf (s.off.start dir keep).files n = some d.bytes := by
  obtain ⟨h1, h2, h3, h4⟩ := start_parts s dir keep
  exact bytes_some h1 (by rw [h3]; exact hf) (by rw [h4]; exact cuts_dur hdur keep _ _ hd)
theorem start_none {dir : Int} {keep : List Int} (hf : find (s.at_ (St.left dir s.row.length)) n = none) : bytesOf (s.off.start dir keep).files n = none := by
  obtain ⟨h1, h2, h3, h4⟩ := start_parts s dir keep
  exact bytes_none h1 (by rw [h3]; exact hf)
end
theorem from_ok {room : Int} {fs : List Fin_} (h : fromErr room fs = 0) : allOk fs = true := by
  unfold fromErr at h
  split at h
  · cases h
  · split at h
    · cases h
    · rename_i h2; simpa using h2
/-- What a name has in the beginning. -/
theorem from_find {room : Int} {fs : List Fin_} (h : fromErr room fs = 0) (n : Nm) :
    (find (fromSt room fs).now n = none ∧ bytesF fs n = none) ∨ (∃ i f, find (fromSt room fs).now n = some i ∧ (fromSt room fs).all[i]? = some f.nd ∧ f ∈ fs ∧ bytesF fs n = some f.bytes) := by
  have hok := from_ok h
  have hF := find_nowOf hok n
  cases e : fs.find? (fun f => f.name == n) with
  | none =>
    left
    refine ⟨?_, by unfold bytesF; rw [e]; rfl⟩
    cases e2 : find (fromSt room fs).now n with
    | none => rfl
    | some i =>
      obtain ⟨f, hf, hn⟩ := (hF i).1 e2
      have := List.find?_eq_none.1 e f (List.mem_of_getElem? hf)
      simp [hn] at this
  | some f =>
    right
    have hm := List.mem_of_find?_eq_some e
    have hn : f.name = n := by simpa using List.find?_some e
    obtain ⟨i, hi, rfl⟩ := List.getElem_of_mem hm
    refine ⟨i, fs[i], (hF i).2 ⟨fs[i], List.getElem?_eq_getElem hi, hn⟩, ?_, hm, by unfold bytesF; rw [e]; rfl⟩
    show (fs.map Fin_.nd)[i]? = _
    simp [hi]
section
variable {room : Int} {fs : List Fin_} {n : Nm}
/-- Whether it was there, what it had. -/
theorem keep_start {s : St} (h0 : fromErr room fs = 0) (hdur : ∀ f ∈ fs, f.syn = f.bytes.length) (h : Keep (fromSt room fs) s n) (dir : Int) (keep : List Int) : bytesOf (s.off.start dir keep).files n = bytesF fs n := by
  rcases from_find h0 n with ⟨h1, h2⟩ | ⟨i, f, h1, h2, h3, h4⟩
  · rw [h2]
    exact start_none (by rw [h.at_]; exact h1)
  · rw [h4]
    refine start_some (d := f.nd) (by rw [h.at_]; exact h1) ((h.file i h1).trans h2) ?_
    have := hdur f h3
    simp [Fin_.nd, this]
/-- THE THEOREM of the stage, the file. -/
theorem whole_law (h0 : fromErr room fs = 0) (hdur : ∀ f ∈ fs, f.syn = f.bytes.length) (fl : List (Int × Int)) (l : List ActV) (dir : Int) (keep : List Int) {s u : St} {r : St × Int} (hs : s = ((fromSt room fs).plan_ fl).1) (hr : r = s.edit n (St.runOf n l)) (hu : u = r.1.off.start dir keep) :
    ((bytesOf u.files n).isSome = (bytesF fs n).isSome) ∧ (r.2 = 0 → (s.ahead n).2 = 0 ∧ bytesOf u.files n = some (wholeOf s n l)) ∧ (bytesOf u.files n = bytesF fs n ∨ ((s.ahead n).2 = 0 ∧ bytesOf u.files n = some (wholeOf s n l))) ∧
      (isTmp n = true → r.2 = 20 ∧ bytesOf u.files n = bytesF fs n) := by
  have hK0 : Keep (fromSt room fs) (fromSt room fs) n := Keep.start_ (fine_from h0).good rfl
  have hK : Keep (fromSt room fs) s n := by rw [hs]; exact hK0.plan fl
  have htmp : isTmp n = true → r.2 = 20 ∧ r.1 = s := fun ht => by
    have hh : hasTmp n = false := by unfold hasTmp; rw [ht]; simp
    have ha : s.ahead n = (s, 20) := by unfold St.ahead; rw [if_pos hh]
    rw [hr]
    unfold St.edit
    rw [if_pos (by rw [ha]; simp), ha]
    exact ⟨rfl, rfl⟩
  have hkept : Keep (fromSt room fs) r.1 n → bytesOf u.files n = bytesF fs n := fun h => by rw [hu]; exact keep_start h0 hdur h dir keep
  rcases edit_kept hK l with ⟨h1, h2⟩ | ⟨h1, h2, h3, -, -⟩
  · rw [← hr] at h1 h2
    have e := hkept h2
    exact ⟨by rw [e], fun e => absurd e h1, .inl e, fun ht => ⟨(htmp ht).1, e⟩⟩
  · rw [← hr] at h2 h3
    have hsome : (bytesF fs n).isSome = true := by
      rcases from_find h0 n with ⟨h4, -⟩ | ⟨i, f, -, -, -, h4⟩
      · exfalso
        -- the file was read: it was there
        unfold St.ahead at h1
        split at h1
        · cases h1
        · split at h1
          · rename_i e; exact e h1
          · rename_i hh e
            have e := Decidable.not_not.1 e
            have hne : n ≠ [] := (tmp_parts (by simpa using hh)).2.1
            unfold St.read at e
            split at e
            · rename_i e2; exact e2 e
            · rename_i e2
              have e2 := Decidable.not_not.1 e2
              unfold St.there at e2
              split at e2
              · rename_i e3; exact e3 e2
              · obtain ⟨i, hi⟩ := looked_file hne e2
                rw [hK.now, h4] at hi
                cases hi
      · rw [h4]; rfl
    have key : bytesOf u.files n = bytesF fs n ∨ bytesOf u.files n = some (wholeOf s n l) := by
      rcases h2.at_ (St.left dir r.1.row.length) with ⟨a, b⟩ | ⟨j, a, b⟩
      · left
        rcases from_find h0 n with ⟨h4, h5⟩ | ⟨i, f, h4, h5, h6, h7⟩
        · rw [h5] at hsome; cases hsome
        · rw [hu, h7]
          refine start_some (d := f.nd) (by rw [a]; exact h4) ((b i h4).trans h5) ?_
          have := hdur f h6
          simp [Fin_.nd, this]
      · right
        rw [hu]
        exact start_some a b rfl
    refine ⟨?_, fun e => ⟨h1, ?_⟩, ?_, fun ht => ⟨(htmp ht).1, ?_⟩⟩
    · rcases key with e | e
      · rw [e]
      · rw [e, hsome]; rfl
    · obtain ⟨j, a, b⟩ := (h3 e).1 (St.left dir r.1.row.length)
      rw [hu]
      exact start_some a b rfl
    · rcases key with e | e
      · exact .inl e
      · exact .inr ⟨h1, e⟩
    · rw [hu, (htmp ht).2]
      exact keep_start h0 hdur hK dir keep
/-- Behind recoveries. -/
theorem rec_bytes {u t : St} (hu : u.on = true) (hdur : ∀ i d, find u.now n = some i → u.all[i]? = some d → d.syn = d.bytes.length) (hg : Good u) (h : Rec u t) (hon : t.on = true) (hn : isTmp n = false) : bytesOf t.files n = bytesOf u.files n := by
  have hnow : find t.now n = find u.now n := by
    have h1 := h.names t.row.length
    rw [h.good.at_all] at h1
    have hf : ∀ l : Fo, find (l.filter nt) n = find l n := fun l => by
      unfold find
      rw [List.find?_filter]
      congr 1
      congr 1
      funext p
      by_cases e : p.1 = n
      · simp [nt, e, hn]
      · simp [e]
    rw [← hf, h1, hf]
  cases e : find u.now n with
  | none => rw [bytes_none hu e, bytes_none hon (hnow.trans e)]
  | some i =>
    have hil : i < u.all.length := hg.nowI (find_ids e)
    have hit : i < t.all.length := h.good.nowI (find_ids (hnow.trans e))
    obtain ⟨d0, h1, h2, h3, -⟩ := h.files i _ (List.getElem?_eq_getElem hit)
    have hs := h.good.sync _ (List.getElem_mem hit)
    have hd := hdur i d0 e h1
    rw [bytes_some hu e h1, bytes_some hon (hnow.trans e) (List.getElem?_eq_getElem hit)]
    congr 1
    exact List.IsPrefix.eq_of_length_le h2 (by omega)
end
end Disk
end Go.Proofs.Ytfommpbblpnljaa
namespace Go.Proofs.Ytfommpbblpnljaa
namespace Disk

/-- There is power, and the plan takes none. -/
def Lit_ (s : St) : Prop := s.on = true ∧ ∀ f ∈ s.plan, f.2 ≠ 24
section
variable {s0 s t : St} {n m : Nm}
theorem lit_same (h : Lit_ s) (h1 : t.on = s.on) (h2 : t.plan = s.plan) : Lit_ t := ⟨h1.trans h.1, by rw [h2]; exact h.2⟩
theorem lit_no (h : Lit_ s) : s.tried.2 ≠ 24 := by
  unfold St.tried
  split
  · simp
  · rename_i f hf; exact h.2 f (List.mem_of_find?_eq_some hf)
theorem lit_tried (h : Lit_ s) : Lit_ s.tried.1 := lit_same h (tried_on (lit_no h)) (tried_tries s).2
theorem lit_call {names : List Nm} {has : Nm} {f : St → St × Int} (h : Lit_ s) (hf : ∀ t, (f t).1.on = t.on ∧ (f t).1.plan = t.plan) : Lit_ (s.call names has f).1 := by
  unfold St.call
  split
  · exact h
  · split
    · exact h
    · split
      · exact lit_tried h
      · exact lit_same (lit_tried h) (hf _).1 (hf _).2
theorem lit_make (h : Lit_ s) (m : Nm) : Lit_ (s.make m).1 := lit_call h fun t => by split <;> exact ⟨rfl, rfl⟩
theorem lit_append (h : Lit_ s) (m : Nm) (b : List UInt8) : Lit_ (s.append m b).1 := lit_call h fun t => by split <;> exact ⟨rfl, rfl⟩
theorem lit_sync (h : Lit_ s) (m : Nm) : Lit_ (s.sync m).1 := lit_call h fun _ => ⟨rfl, rfl⟩
theorem lit_rename (h : Lit_ s) (m n : Nm) : Lit_ (s.rename m n).1 := lit_call h fun t => by
  by_cases e : m = n
  · simp [e, St.more]
  · simp [e, St.more, St.changes]
theorem lit_syncDir (h : Lit_ s) : Lit_ s.syncDir.1 := lit_call h fun _ => ⟨rfl, rfl⟩
theorem lit_remove (h : Lit_ s) (m : Nm) : Lit_ (s.remove m).1 := by
  unfold St.remove
  split
  · exact h
  · split
    · exact h
    · split
      · exact lit_tried h
      · exact lit_same (lit_tried h) rfl rfl
theorem lit_putGo (m : Nm) : ∀ (l : List (List UInt8)) {s : St}, Lit_ s → Lit_ (s.putGo m l).1
  | [], _, h => h
  | p :: r, s, h => by
    unfold St.putGo
    split
    · exact lit_append h m p
    · exact lit_putGo m r (lit_append h m p)
theorem lit_puts (h : Lit_ s) (m : Nm) (l : List (List UInt8)) : Lit_ (s.puts m l).1 := by
  unfold St.puts
  split
  · split
    · exact lit_make h m
    · exact lit_putGo m l (lit_make h m)
  · exact lit_putGo m l h
theorem lit_handOn (h : Lit_ s) (t : Nm) (o : Ou) : Lit_ (s.handOn t o).1 := by
  unfold St.handOn
  split
  · exact h
  · exact lit_append h _ _
theorem lit_flush (h : Lit_ s) (t : Nm) (o : Ou) : Lit_ (s.ouFlush t o).1 := by
  unfold St.ouFlush
  split
  · exact h
  · exact lit_handOn h _ _
theorem lit_write (h : Lit_ s) (t : Nm) (o : Ou) (l : List UInt8) : Lit_ (s.ouWrite t o l).1 := by
  unfold St.ouWrite
  split
  · exact h
  · split
    · exact h
    · exact lit_handOn h _ _
theorem lit_step (h : Lit_ s) (c t : Nm) (o : Ou) (w : List UInt8) (a : ActV) : Lit_ (s.actStep c t o w a).1 := by
  unfold St.actStep
  split
  · exact lit_write h _ _ _
  · split
    · exact lit_flush h _ _
    · split
      · exact lit_puts h _ _
      · split
        · exact lit_sync h _
        · split
          · exact h
          · split
            · exact h
            · exact h
theorem lit_go (c t : Nm) : ∀ (l : List ActV) {s : St} {o : Ou} {w : List UInt8}, Lit_ s → Lit_ (St.runGo c t l s o w).1
  | [], _, _, _, h => h
  | a :: r, s, o, w, h => by
    have h1 := lit_step h c t o w a
    unfold St.runGo
    split
    · exact h1
    · exact lit_go c t r h1
theorem lit_rest (h : Lit_ s) (t n : Nm) (o : Ou) : Lit_ (s.rest t n o).1 := by
  unfold St.rest
  split
  · exact lit_flush h _ _
  · split
    · exact lit_sync (lit_flush h _ _) _
    · exact lit_rename (lit_sync (lit_flush h _ _) _) _ _
theorem lit_ahead (h : Lit_ s) (n : Nm) : Lit_ (s.ahead n).1 := by
  unfold St.ahead
  split
  · exact h
  · split
    · exact h
    · split
      · exact lit_remove h _
      · refine lit_make ?_ _
        split
        · exact lit_remove h _
        · exact h
theorem lit_behind {r : St × Ou × Int} (h : Lit_ r.1) (t n : Nm) : Lit_ (St.behindRun t n r).1 := by
  unfold St.behindRun
  split
  · exact h
  · exact lit_rest h _ _ _
theorem lit_edit (h : Lit_ s) (n : Nm) (l : List ActV) : Lit_ (s.edit n (St.runOf n l)).1 := by
  have h1 := lit_ahead h n
  unfold St.edit
  split
  · exact h1
  · have h2 : Lit_ (St.behindRun (tmpOf n) n (St.runOf n l (s.ahead n).1)).1 := lit_behind (lit_go _ _ _ h1) _ _
    unfold St.ends
    split
    · exact lit_remove h2 _
    · exact lit_syncDir h2
/-- Where there is power a file that is there goes. -/
theorem remove_gone (h : Lit_ s) {j : Nat} (hn : isName m = true) (hf : find s.now m = some j) : find (s.remove m).1.now m = none := by
  have h1 : s.looked [] [m] = 0 := looked_on h.1 (by simpa using hn)
  have h2 : s.looked m [] = 0 := looked_has h.1 hf
  unfold St.remove
  rw [if_neg (by simp [h1]), if_neg (by simp [h2]), if_neg (lit_no h)]
  show find (behind s.tried.1.now ⟨m, [], 0⟩) m = none
  rw [behind_drop _ (isName_ne hn)]
  exact find_drop_same _ _
/-- Ahead of the run: no temporary file comes where something is refused. -/
theorem ahead_stale (hn : (s.ahead n).2 ≠ 0) {m : Nm} (h : find (s.ahead n).1.now m ≠ none) : find s.now m ≠ none := by
  have hrem : ∀ x, find (s.remove x).1.now m ≠ none → find s.now m ≠ none := fun x => by
    obtain ⟨-, -, -, h4, -⟩ := tried_kept s
    unfold St.remove
    split
    · exact id
    · split
      · exact id
      · split
        · rw [h4]; exact id
        · show find (behind s.tried.1.now ⟨x, [], 0⟩) m ≠ none → _
          rw [h4]
          unfold behind
          dsimp only
          rw [if_pos rfl]
          split
          · exact id
          · intro h
            by_cases e : m = x
            · subst e; exact absurd (find_drop_same _ _) h
            · rwa [find_drop_other _ e] at h
  revert hn h
  unfold St.ahead
  split
  · exact fun _ => id
  · split
    · exact fun _ => id
    · split
      · exact fun _ => hrem _
      · intro hn h
        have h2 : find (if tmpOf n ∈ s.names then (s.remove (tmpOf n)).1 else s).now m ≠ none → find s.now m ≠ none := by
          split
          · exact hrem _
          · exact id
        apply h2
        obtain ⟨s1, hs1⟩ : ∃ s1, s1 = (if tmpOf n ∈ s.names then (s.remove (tmpOf n)).1 else s) := ⟨_, rfl⟩
        rw [← hs1] at hn h ⊢
        obtain ⟨-, -, -, h4, -⟩ := tried_kept s1
        revert h
        revert hn
        unfold St.make St.call
        split
        · exact fun _ => id
        · split
          · exact fun _ => id
          · split
            · exact fun _ => by rw [h4]; exact id
            · dsimp only
              split
              · exact fun _ => by show find s1.tried.1.now m ≠ none → _; rw [h4]; exact id
              · exact fun h => absurd rfl h
/-- What is left where there is power. -/
theorem refused_law {room : Int} {fs : List Fin_} {fl : List (Int × Int)} (h0 : fromErr room fs = 0) (hfl : ∀ f ∈ fl, f.2 ≠ 24) (l : List ActV) {r : St × Int} (hs : s = ((fromSt room fs).plan_ fl).1) (hr : r = s.edit n (St.runOf n l)) :
    r.1.on = true ∧ ((bytesOf r.1.files n).isSome = (bytesF fs n).isSome) ∧
      ((s.ahead n).2 ≠ 0 → r.2 ≠ 0 ∧ bytesOf r.1.files n = bytesF fs n ∧ ∀ m, (bytesOf r.1.files m).isSome = true → (bytesF fs m).isSome = true) ∧
      ((s.ahead n).2 = 0 → hasTmp n = true ∧ bytesOf r.1.files (tmpOf n) = none ∧ (r.2 = 0 → bytesOf r.1.files n = some (wholeOf s n l) ∧ r.1.row = []) ∧ (r.2 ≠ 0 → bytesOf r.1.files n = bytesF fs n ∨ (bytesOf r.1.files n = some (wholeOf s n l) ∧ r.1.row ≠ []))) := by
  have hK0 : Keep (fromSt room fs) (fromSt room fs) n := Keep.start_ (fine_from h0).good rfl
  have hK : Keep (fromSt room fs) s n := by rw [hs]; exact hK0.plan fl
  have hL : Lit_ s := by
    rw [hs]
    unfold St.plan_
    split
    · exact ⟨rfl, hfl⟩
    · exact ⟨rfl, by intro f hf; cases hf⟩
  have hsn : s.now = (fromSt room fs).now := by
    rw [hs]
    unfold St.plan_
    split <;> rfl
  have hLr := lit_edit hL n l
  rw [← hr] at hLr
  have hon := hLr.1
  have hkb : Keep (fromSt room fs) r.1 n → bytesOf r.1.files n = bytesF fs n := fun h => by
    rcases from_find h0 n with ⟨h1, h2⟩ | ⟨i, f, h1, h2, h3, h4⟩
    · rw [h2]; exact bytes_none hon (h.now.trans h1)
    · rw [h4]; exact bytes_some hon (h.now.trans h1) ((h.file i h1).trans h2)
  have hmb : ∀ m, find s.now m ≠ none → (bytesF fs m).isSome = true := fun m h => by
    rw [hsn] at h
    rcases from_find h0 m with ⟨h1, -⟩ | ⟨i, f, -, -, -, h4⟩
    · exact absurd h1 h
    · rw [h4]; rfl
  have hfm : ∀ (v : St) m, v.on = true → (bytesOf v.files m).isSome = true → find v.now m ≠ none := fun v m hv hb e => by rw [bytes_none hv e] at hb; cases hb
  by_cases ha : (s.ahead n).2 = 0
  · have hcall : r = St.ends (tmpOf n) (St.behindRun (tmpOf n) n (St.runOf n l (s.ahead n).1)) := by rw [hr]; unfold St.edit; rw [if_neg (by simp [ha])]
    obtain ⟨hk, hrun⟩ := ahead_kept hK
    obtain ⟨ht, j, hR⟩ := hrun ha
    obtain ⟨hne, hn, htn, htl, -⟩ := tmp_parts ht
    have hR2 := Run.go hne hn htl l hR
    have hB := behindRun_kept (r := St.runOf n l (s.ahead n).1) hR2 hne hn htn
    have hLb : Lit_ (St.behindRun (tmpOf n) n (St.runOf n l (s.ahead n).1)).1 := lit_behind (lit_go _ _ _ (lit_ahead hL n)) _ _
    have hnmt : isName (tmpOf n) = true := by
      have h1 : tmpOf n = tmpPre ++ n := by unfold tmpOf; rw [ht]; rfl
      rw [h1]
      unfold hasTmp at ht
      simp only [Bool.and_eq_true, decide_eq_true_eq, Bool.not_eq_true'] at ht
      have h2 := ht.1.1
      have h3 := ht.1.2
      unfold isName at h2 ⊢
      simp only [Bool.and_eq_true, decide_eq_true_eq, Bool.not_eq_true', List.any_append, List.length_append, Bool.or_eq_false_iff] at h2 ⊢
      refine ⟨⟨?_, ?_⟩, by decide, h2.2⟩
      · have := h2.1.1; omega
      · rw [show tmpPre.length = 8 from rfl]; omega
    obtain ⟨b, hb⟩ : ∃ b, b = St.behindRun (tmpOf n) n (St.runOf n l (s.ahead n).1) := ⟨_, rfl⟩
    rw [← hb] at hB hLb hcall
    by_cases he : b.2 = 0
    · obtain ⟨m1, m2, m3⟩ := hB.2 he
      obtain ⟨d1, d2, d3, d4⟩ := m1.syncDir
      have hr2 : r = b.1.syncDir := by rw [hcall]; unfold St.ends; rw [if_neg (by simp [he])]
      rw [← hr2] at d1 d2 d3 d4
      obtain ⟨j2, e1, e2⟩ := d1.last
      have hbn : bytesOf r.1.files n = some (wholeOf s n l) := bytes_some hon e1 e2
      have hsome : (bytesF fs n).isSome = true := by
        rcases from_find h0 n with ⟨h4, -⟩ | ⟨i, f, -, -, -, h4⟩
        · exfalso
          have h1 := ha
          unfold St.ahead at h1
          split at h1
          · cases h1
          · split at h1
            · rename_i e; exact e h1
            · rename_i hh e
              have e := Decidable.not_not.1 e
              unfold St.read at e
              split at e
              · rename_i e2; exact e2 e
              · rename_i e2
                have e2 := Decidable.not_not.1 e2
                unfold St.there at e2
                split at e2
                · rename_i e3; exact e3 e2
                · obtain ⟨i, hi⟩ := looked_file hn e2
                  rw [hK.now, h4] at hi
                  cases hi
        · rw [h4]; rfl
      refine ⟨hon, by rw [hbn, hsome]; rfl, fun e => absurd ha e, fun _ => ⟨ht, bytes_none hon (by rw [d4]; exact m2), fun e => ⟨hbn, (d2 e).2⟩, fun e => .inr ⟨hbn, by rw [d3 e]; exact m3⟩⟩⟩
    · obtain ⟨k1, k2⟩ := hB.1 he
      have hr2 : r = ((b.1.remove (tmpOf n)).1, b.2) := by rw [hcall]; unfold St.ends; rw [if_pos he]
      have hkr : Keep (fromSt room fs) r.1 n := by rw [hr2]; exact k1.remove hne hn
      have hgone : find r.1.now (tmpOf n) = none := by rw [hr2]; exact remove_gone hLb hnmt k2
      have e := hkb hkr
      exact ⟨hon, by rw [e], fun e => absurd ha e, fun _ => ⟨ht, bytes_none hon hgone, fun e => absurd (by rw [hr2] at e; exact e) he, fun _ => .inl e⟩⟩
  · have hr2 : r = s.ahead n := by rw [hr]; unfold St.edit; rw [if_pos ha]
    have hkr : Keep (fromSt room fs) r.1 n := by rw [hr2]; exact (ahead_kept hK).1
    have e := hkb hkr
    refine ⟨hon, by rw [e], fun _ => ⟨by rw [hr2]; exact ha, e, fun m hm => ?_⟩, fun e => absurd e ha⟩
    refine hmb m (ahead_stale ha ?_)
    rw [← hr2]
    exact hfm _ _ hon hm
end
end Disk
end Go.Proofs.Ytfommpbblpnljaa
namespace Go.Proofs.Ytfommpbblpnljaa
namespace Disk

section
variable {Q : St → Prop} (hQ : ∀ s o, Q s → Q (s.act o).1)
include hQ
theorem keep_handOn {s : St} (h : Q s) (t : Nm) (o : Ou) : Q (s.handOn t o).1 := by
  unfold St.handOn
  split
  · exact h
  · exact hQ s (.append t o.held) h
theorem keep_flush {s : St} (h : Q s) (t : Nm) (o : Ou) : Q (s.ouFlush t o).1 := by
  unfold St.ouFlush
  split
  · exact h
  · exact keep_handOn hQ h t o
theorem keep_write {s : St} (h : Q s) (t : Nm) (o : Ou) (l : List UInt8) : Q (s.ouWrite t o l).1 := by
  unfold St.ouWrite
  split
  · exact h
  · split
    · exact h
    · exact keep_handOn hQ h t _
theorem keep_putGo {n : Nm} : ∀ (l : List (List UInt8)) {s : St}, Q s → Q (s.putGo n l).1
  | [], _, h => h
  | p :: r, s, h => by
    have h1 := hQ s (.append n p) h
    unfold St.putGo
    split
    · exact h1
    · exact keep_putGo r h1
theorem keep_puts {s : St} {n : Nm} {l : List (List UInt8)} (h : Q s) : Q (s.puts n l).1 := by
  have h1 := hQ s (.make n) h
  unfold St.puts
  split
  · split
    · exact h1
    · exact keep_putGo hQ l h1
  · exact keep_putGo hQ l h
theorem keep_step {s : St} {c t : Nm} {o : Ou} {w : List UInt8} {a : ActV} (h : Q s) : Q (s.actStep c t o w a).1 := by
  unfold St.actStep
  split
  · exact keep_write hQ h _ _ _
  · split
    · exact keep_flush hQ h _ _
    · split
      · exact keep_puts hQ h
      · split
        · exact hQ s (.sync (other c a.name)) h
        · split
          · exact h
          · split <;> exact h
theorem keep_go {c t : Nm} : ∀ (l : List ActV) {s : St} {o : Ou} {w : List UInt8}, Q s → Q (St.runGo c t l s o w).1
  | [], _, _, _, h => h
  | a :: r, s, o, w, h => by
    have h1 := keep_step hQ (c := c) (t := t) (o := o) (w := w) (a := a) h
    unfold St.runGo
    split
    · exact h1
    · exact keep_go r h1
theorem keep_ahead {s : St} (h : Q s) (n : Nm) : Q (s.ahead n).1 := by
  have h1 := hQ s (.remove (tmpOf n)) h
  unfold St.ahead
  split
  · exact h
  · split
    · exact h
    · split
      · exact h1
      · split
        · exact hQ _ (.make (tmpOf n)) h1
        · exact hQ _ (.make (tmpOf n)) h
theorem keep_behind {t n : Nm} {r : St × Ou × Int} (h : Q r.1) : Q (St.behindRun t n r).1 := by
  have h1 := keep_flush hQ h t r.2.1
  have h2 := hQ _ (.sync t) h1
  have h3 := hQ _ (.rename t n) h2
  unfold St.behindRun St.rest
  split
  · exact h
  · split
    · exact h1
    · split
      · exact h2
      · exact h3
theorem keep_edit {s : St} (h : Q s) (n : Nm) (l : List ActV) : Q (s.edit n (St.runOf n l)).1 := by
  have h1 : Q (St.behindRun (tmpOf n) n (St.runOf n l (s.ahead n).1)).1 := keep_behind hQ (keep_go hQ l (keep_ahead hQ h n))
  unfold St.edit
  split
  · exact keep_ahead hQ h n
  · unfold St.ends
    split
    · exact hQ _ (.remove (tmpOf n)) h1
    · exact hQ _ .syncDir h1
end
/-- Under good names alone. -/
def Nmd (s : St) : Prop := (∀ p ∈ s.old, isName p.1 = true) ∧ (∀ c ∈ s.row, c.dst ≠ [] → isName c.dst = true)
theorem mem_behind {l : Fo} {c : Chg} {p : Nm × Nat} (h : p ∈ behind l c) : p ∈ l ∨ (c.dst ≠ [] ∧ p.1 = c.dst) := by
  unfold behind at h
  dsimp only at h
  split at h
  · split at h
    · exact .inl h
    · exact .inl (List.mem_filter.1 h).1
  · rename_i hd
    rcases mem_ins.1 h with rfl | h
    · exact .inr ⟨hd, rfl⟩
    · have h := (List.mem_filter.1 h).1
      split at h
      · exact .inl h
      · exact .inl (List.mem_filter.1 h).1
theorem nmd_fold : ∀ (l : List Chg) (f : Fo), (∀ p ∈ f, isName p.1 = true) → (∀ c ∈ l, c.dst ≠ [] → isName c.dst = true) → ∀ p ∈ l.foldl behind f, isName p.1 = true
  | [], _, h, _ => h
  | c :: r, f, h, hc => nmd_fold r (behind f c) (fun p hp => by
      rcases mem_behind hp with hp | ⟨h1, h2⟩
      · exact h p hp
      · rw [h2]; exact hc c List.mem_cons_self h1) fun d hd => hc d (List.mem_cons_of_mem _ hd)
section
variable {s t : St}
theorem Nmd.at_ (h : Nmd s) (k : Nat) : ∀ p ∈ s.at_ k, isName p.1 = true := nmd_fold _ _ h.1 fun c hc => h.2 c (List.mem_of_mem_take hc)
theorem Nmd.now (h : Nmd s) (hg : Good s) : ∀ p ∈ s.now, isName p.1 = true := by rw [← hg.at_all]; exact h.at_ _
theorem Nmd.same (h : Nmd s) (h1 : t.row = s.row) (h2 : t.old = s.old) : Nmd t := by unfold Nmd; rw [h1, h2]; exact h
theorem Nmd.tried (h : Nmd s) : Nmd s.tried.1 := h.same (tried_kept s).1 (tried_kept s).2.2.2.2.1
theorem Nmd.changes (h : Nmd s) {c : Chg} (hc : c.dst ≠ [] → isName c.dst = true) : Nmd (s.changes c) := ⟨h.1, fun d hd => by
  rcases List.mem_append.1 hd with hd | hd
  · exact h.2 d hd
  · rw [List.mem_singleton.1 hd]; exact hc⟩
theorem nmd_call {names : List Nm} {has : Nm} {f : St → St × Int} (h : Nmd s) (hg : Good s) (hf : s.looked [] names = 0 → ∀ t, Nmd t → Good t → Nmd (f t).1) : Nmd (s.call names has f).1 := by
  unfold St.call
  split
  · exact h
  · rename_i h1
    split
    · exact h
    · split
      · exact h.tried
      · exact hf (Decidable.not_not.1 h1) _ h.tried (good_tried hg)
theorem nmd_act (h : Nmd s) (hg : Good s) (o : Do) : Nmd (s.act o).1 := by
  cases o with
  | make n =>
    refine nmd_call h hg fun h0 t ht _ => ?_
    split
    · exact ht
    · exact Nmd.same (Nmd.changes (c := ⟨[], n, t.all.length⟩) (Nmd.same ht rfl rfl) fun _ => looked_name h0 n (by simp)) rfl rfl
  | append n b =>
    refine nmd_call h hg fun h0 t ht _ => ?_
    split
    · exact ht
    · exact Nmd.same ht rfl rfl
  | sync n => exact nmd_call h hg fun h0 t ht _ => Nmd.same ht rfl rfl
  | rename n m =>
    refine nmd_call h hg fun h0 t ht _ => ?_
    dsimp only
    split
    · exact Nmd.same ht rfl rfl
    · exact Nmd.same (Nmd.changes (c := ⟨n, m, (find t.now n).getD 0⟩) ht fun _ => looked_name h0 m (by simp)) rfl rfl
  | remove n =>
    show Nmd (s.remove n).1
    unfold St.remove
    split
    · exact h
    · split
      · exact h
      · split
        · exact h.tried
        · exact Nmd.same (Nmd.changes (c := ⟨n, [], 0⟩) h.tried fun e => absurd rfl e) rfl rfl
  | syncDir => exact nmd_call h hg fun h0 t ht htg => ⟨ht.now htg, fun c hc => by cases hc⟩
  | read n => exact h
  | spoil n b =>
    show Nmd (s.spoil n b).1
    unfold St.spoil
    split
    · exact h
    · exact Nmd.same h rfl rfl
  | plan l =>
    show Nmd (s.plan_ l).1
    unfold St.plan_
    split
    · exact Nmd.same h rfl rfl
    · exact h
  | off => exact Nmd.same h rfl rfl
  | start d k =>
    show Nmd (s.start d k)
    unfold St.start
    split
    · exact h
    · exact ⟨h.at_ _, fun c hc => by cases hc⟩
  | none => exact h
end
def GN (s : St) : Prop := Good s ∧ Nmd s
theorem gn_act (s : St) (o : Do) (h : GN s) : GN (s.act o).1 := ⟨good_act h.1 o, nmd_act h.2 h.1 o⟩
theorem gn_from {room : Int} {fs : List Fin_} (h : fromErr room fs = 0) : GN (fromSt room fs) := ⟨(fine_from h).good, now_names h, fun c hc => by cases hc⟩
/-- What was cut is durable. -/
theorem cut_syn {d : Nd} (h : d.syn ≤ d.bytes.length) (k : Option Int) : (St.cutNd d k).syn = (St.cutNd d k).bytes.length := by
  cases k with
  | none =>
    show d.syn + 0 = (d.bytes.take (d.syn + 0)).length
    rw [List.length_take]; omega
  | some k =>
    have h1 : St.left k (d.bytes.length - d.syn) ≤ d.bytes.length - d.syn := Nat.min_le_right _ _
    show d.syn + St.left k (d.bytes.length - d.syn) = (d.bytes.take (d.syn + St.left k (d.bytes.length - d.syn))).length
    rw [List.length_take]; omega
theorem start_syn {s : St} (hg : Good s) (dir : Int) (keep : List Int) {n : Nm} {i : Nat} {d : Nd} (h : find (s.off.start dir keep).now n = some i) (hd : (s.off.start dir keep).all[i]? = some d) : d.syn = d.bytes.length := by
  obtain ⟨h1, h2, h3, h4⟩ := start_parts s dir keep
  rw [h3] at h
  rw [h4] at hd
  obtain ⟨m, hm⟩ := List.mem_iff_getElem?.1 (mem_of_find h)
  have h5 := cuts_at keep (s.at_ (St.left dir s.row.length)) 0 s.all (hg.nodup _) m (n, i) hm
  dsimp only at h5
  rw [h5] at hd
  obtain ⟨e, he, rfl⟩ := Option.map_eq_some_iff.1 hd
  exact cut_syn (hg.sync e (List.mem_of_getElem? he)) _
/-- A recovery that is cut short: a loss of power at its n-th try, a start. -/
def St.recov (s : St) (n : Int) (dir : Int) (keep : List Int) : St := (s.plan_ [(n, 24)]).1.clean.1.off.start dir keep
def St.recovs (keep : List Int) : List Int → St → St
  | [], s => s
  | c :: r, s => St.recovs keep r (if c.tmod 8 < 1 then s else s.recov (c.tmod 8) (c.tdiv 8) keep)
theorem recovs_rec {u : St} {keep : List Int} : ∀ (l : List Int) {s : St}, Rec u s → s.on = true → Rec u (St.recovs keep l s) ∧ (St.recovs keep l s).on = true
  | [], _, h, hon => ⟨h, hon⟩
  | c :: r, s, h, hon => by
    unfold St.recovs
    split
    · exact recovs_rec r h hon
    · exact recovs_rec r ((h.plan _).clean.off.begin_ _ _) (start_on _ _ _).1
theorem recovs_snoc (keep : List Int) (c : Int) : ∀ (l : List Int) (s : St), St.recovs keep (l ++ [c]) s = if c.tmod 8 < 1 then St.recovs keep l s else (St.recovs keep l s).recov (c.tmod 8) (c.tdiv 8) keep
  | [], s => by
    show St.recovs keep [c] s = _
    unfold St.recovs
    split <;> rfl
  | d :: r, s => by
    show St.recovs keep (d :: (r ++ [c])) s = _
    unfold St.recovs
    exact recovs_snoc keep c r _
/-- Behind recoveries, cut short and done again. -/
theorem recs_law {room : Int} {fs : List Fin_} {n : Nm} (h0 : fromErr room fs = 0) (fl : List (Int × Int)) (l : List ActV) (dir : Int) (keep : List Int) (cuts : List Int) {s u t : St} {r : St × Int} (hs : s = ((fromSt room fs).plan_ fl).1) (hr : r = s.edit n (St.runOf n l)) (hu : u = r.1.off.start dir keep) (ht : t = ((St.recovs keep cuts u).plan_ []).1) (hn : isTmp n = false ∨ bytesOf u.files n = none) :
    t.clean.2 = 0 ∧ t.clean.1.stale = [] ∧ bytesOf t.clean.1.files n = bytesOf u.files n := by
  have g1 : GN s := by rw [hs]; exact gn_act _ (.plan fl) (gn_from h0)
  have g2 : GN r.1 := by rw [hr]; exact keep_edit gn_act g1 n l
  have g3 : GN u := by rw [hu]; exact gn_act _ (.start dir keep) (gn_act _ .off g2)
  have h3 := start_on r.1 dir keep
  rw [← hu] at h3
  obtain ⟨h4, h5⟩ := recovs_rec (keep := keep) cuts (Rec.start_ g3.1 h3.2) h3.1
  have hR : Rec u t := by rw [ht]; exact h4.plan []
  have hon : t.on = true := by rw [ht]; exact h5
  have hpl : t.plan = [] := by rw [ht]; rfl
  have hnm : ∀ p ∈ t.now, isName p.1 = true := fun p hp => g3.2.now g3.1 p (hR.sub t.row.length p (by rw [hR.good.at_all]; exact hp))
  obtain ⟨a, b, c, -⟩ := clean_free hR.good hpl hon hnm
  refine ⟨a, c, ?_⟩
  rcases hn with hn | hn
  · exact rec_bytes h3.1 (fun i d hi hd => by rw [hu] at hi hd; exact start_syn g2.1 dir keep hi hd) g3.1 hR.clean b hn
  · have hun : find u.now n = none := by
      cases e : find u.now n with
      | none => rfl
      | some i =>
        rw [bytes_of h3.1, e] at hn
        cases hn
    rw [hn]
    refine bytes_none b ?_
    cases e : find t.clean.1.now n with
    | none => rfl
    | some i =>
      have h6 := hR.clean.sub t.clean.1.row.length (n, i) (by rw [hR.clean.good.at_all]; exact mem_of_find e)
      rw [find_of_mem g3.1.nowR h6] at hun
      cases hun
end Disk
end Go.Proofs.Ytfommpbblpnljaa
