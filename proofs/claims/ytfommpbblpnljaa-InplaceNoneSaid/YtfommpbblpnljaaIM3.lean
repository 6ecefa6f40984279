/- Texts that lead to the claim, one behind the other: Temporary names, in lists: what a Clean makes of a disk, what stays wherever Cleans are cut short. No program in sight. No conditions. | What Cleans that are cut short leave, in one row: the plain law of TempsRecovers. No program in sight. No conditions. | An edit in place, in lists: what it does of a disk, call by call. No program in sight. No conditions. -/
import Derived.Test.YtfommpbblpnljaaIM2
namespace Go.Proofs.Ytfommpbblpnljaa
namespace Disk

def tmpPre : Nm := [46, 103, 97, 108, 108, 101, 121, 45]
/-- Is it a temporary name? -/
def isTmp (n : Nm) : Bool := tmpPre.isPrefixOf n
def St.stale (s : St) : List Nm := s.names.filter isTmp
/-- Names removed, one behind the other, up to the first that is refused. -/
def St.cleanGo (s : St) : List Nm → St × Int
  | [] => (s, 0)
  | n :: r => if (s.remove n).2 = 0 then St.cleanGo (s.remove n).1 r else s.remove n
def St.clean (s : St) : St × Int :=
  if s.on = false then (s, 24)
  else if (s.cleanGo s.stale).2 ≠ 0 then s.cleanGo s.stale
  else if s.stale = [] then (s, 0) else (s.cleanGo s.stale).1.syncDir

theorem mem_stale {s : St} {n : Nm} (h : n ∈ s.stale) : isTmp n = true := (List.mem_filter.1 h).2

def nt (p : Nm × Nat) : Bool := !isTmp p.1
theorem nt_drop (l : Fo) {n : Nm} (h : isTmp n = true) : (drop l n).filter nt = l.filter nt := by
  unfold drop
  rw [List.filter_filter]
  congr 1
  funext p
  by_cases e : p.1 = n
  · simp [nt, e, h]
  · simp [e]
theorem behind_drop (l : Fo) {n : Nm} (h : n ≠ []) (i : Nat) : behind l ⟨n, [], i⟩ = drop l n := by
  unfold behind
  simp [h]
theorem tmp_ne {n : Nm} (h : isTmp n = true) : n ≠ [] := by
  rintro rfl
  simp [isTmp, tmpPre] at h

/-- Whatever Cleans and losses of power have left of a disk. -/
structure Rec (s0 s : St) : Prop where
  good : Good s
  names : ∀ k, (s.at_ k).filter nt = s0.now.filter nt
  sub : ∀ k p, p ∈ s.at_ k → p ∈ s0.now
  files : ∀ (i : Nat) (d : Nd), s.all[i]? = some d → ∃ d0, s0.all[i]? = some d0 ∧ d.bytes <+: d0.bytes ∧ d0.syn ≤ d.syn ∧ d.bad = d0.bad

section
variable {s0 s t : St}
theorem Rec.start_ (h : Good s0) (hr : s0.row = []) : Rec s0 s0 := by
  have e : ∀ k, s0.at_ k = s0.now := fun k => by
    have h1 := h.now
    rw [hr] at h1
    unfold St.at_
    rw [hr, List.take_nil, h1]
  exact ⟨h, fun k => by rw [e], fun k p hp => by rwa [e] at hp, fun i d hd => ⟨d, hd, List.prefix_refl _, Nat.le_refl _, rfl⟩⟩
theorem Rec.same (h : Rec s0 s) (hg : Good t) (h1 : t.row = s.row) (h2 : t.old = s.old) (h3 : t.all = s.all) : Rec s0 t := by
  have e : ∀ k, t.at_ k = s.at_ k := fun k => by unfold St.at_; rw [h1, h2]
  exact ⟨hg, fun k => by rw [e]; exact h.names k, fun k p hp => h.sub k p (by rwa [e] at hp), by rw [h3]; exact h.files⟩
theorem Rec.tried (h : Rec s0 s) : Rec s0 s.tried.1 := by
  obtain ⟨h1, h2, h3, h4, h5, h6, h7, h8⟩ := tried_kept s
  exact h.same (good_tried h.good) h1 h5 h3
theorem Rec.remove (h : Rec s0 s) {n : Nm} (hn : isTmp n = true) : Rec s0 (s.remove n).1 := by
  have hg : Good (s.remove n).1 := good_act h.good (.remove n)
  revert hg
  unfold St.remove
  split
  · exact fun _ => h
  · split
    · exact fun _ => h
    · split
      · exact fun _ => h.tried
      · intro hg
        have ht := h.tried
        have key : ∀ k, ((s.tried.1.changes ⟨n, [], 0⟩).more).at_ k = if k ≤ s.tried.1.row.length then s.tried.1.at_ k else drop (s.tried.1.at_ s.tried.1.row.length) n := fun k => by
          have := at_changes s.tried.1 ⟨n, [], 0⟩ k
          rw [behind_drop _ (tmp_ne hn)] at this
          exact this
        refine ⟨hg, fun k => ?_, fun k p hp => ?_, ht.files⟩
        · rw [key]
          split
          · exact ht.names k
          · rw [nt_drop _ hn]; exact ht.names _
        · rw [key] at hp
          split at hp
          · exact ht.sub k p hp
          · exact ht.sub _ p (List.mem_filter.1 hp).1
theorem Rec.syncDir (h : Rec s0 s) : Rec s0 s.syncDir.1 := by
  have hg : Good s.syncDir.1 := good_act h.good .syncDir
  revert hg
  unfold St.syncDir St.call
  split
  · exact fun _ => h
  · split
    · exact fun _ => h.tried
    · intro hg
      have ht := h.tried
      have e : ∀ k, (s.tried.1.settled.more).at_ k = s.tried.1.at_ s.tried.1.row.length := fun k => by
        rw [ht.good.at_all]
        unfold St.at_ St.settled St.more
        simp
      exact ⟨hg, fun k => by rw [e]; exact ht.names _, fun k p hp => ht.sub _ p (by rwa [e] at hp), ht.files⟩
theorem Rec.plan (h : Rec s0 s) (l : List (Int × Int)) : Rec s0 (s.plan_ l).1 := by
  have hg : Good (s.plan_ l).1 := good_act h.good (.plan l)
  revert hg
  unfold St.plan_
  split
  · exact fun hg => h.same hg rfl rfl rfl
  · exact fun _ => h
theorem Rec.off (h : Rec s0 s) : Rec s0 s.off := h.same (good_act h.good .off) rfl rfl rfl
theorem cuts_all {R : Nat → Nd → Prop} (keep : List Int) (hR : ∀ i d k, R i d → R i (St.cutNd d k)) : ∀ (l : Fo) (j : Nat) (a : List Nd), (∀ i d, a[i]? = some d → R i d) → ∀ i d, (St.cuts keep j l a)[i]? = some d → R i d
  | [], _, _, h => h
  | p :: r, j, a, h => by
    unfold St.cuts
    refine cuts_all keep hR r (j + 1) _ fun i d hd => ?_
    rw [List.getElem?_modify] at hd
    split at hd
    · obtain ⟨e, he, rfl⟩ := Option.map_eq_some_iff.1 hd
      exact hR _ _ _ (h i e he)
    · exact h i d (by simpa using hd)
theorem Rec.begin_ (h : Rec s0 s) (dir : Int) (keep : List Int) : Rec s0 (s.start dir keep) := by
  have hg : Good (s.start dir keep) := good_act h.good (.start dir keep)
  revert hg
  unfold St.start
  split
  · exact fun _ => h
  · intro hg
    refine ⟨hg, fun k => ?_, fun k p hp => h.sub (St.left dir s.row.length) p ?_, ?_⟩
    · have := h.names (St.left dir s.row.length)
      simpa [St.at_] using this
    · simpa [St.at_] using hp
    · have hR := cuts_all (R := fun i d => (∃ d0, s0.all[i]? = some d0 ∧ d.bytes <+: d0.bytes ∧ d0.syn ≤ d.syn ∧ d.bad = d0.bad)) keep (fun i d k hd => by
        obtain ⟨d0, h1, h2, h3, h4⟩ := hd
        refine ⟨d0, h1, (List.take_prefix _ _).trans h2, ?_, h4⟩
        unfold St.cutNd
        dsimp only
        omega) ((s.row.take (St.left dir s.row.length)).foldl behind s.old) 0 s.all h.files
      exact hR
theorem Rec.cleanGo : ∀ (ns : List Nm) {s : St}, Rec s0 s → (∀ n ∈ ns, isTmp n = true) → Rec s0 (s.cleanGo ns).1
  | [], _, h, _ => h
  | n :: r, s, h, hn => by
    have h1 := h.remove (hn n List.mem_cons_self)
    unfold St.cleanGo
    split
    · exact Rec.cleanGo r h1 fun m hm => hn m (List.mem_cons_of_mem _ hm)
    · exact h1
theorem Rec.clean (h : Rec s0 s) : Rec s0 s.clean.1 := by
  have h1 := Rec.cleanGo s.stale h fun n hn => mem_stale hn
  unfold St.clean
  split
  · exact h
  · split
    · exact h1
    · split
      · exact h
      · exact h1.syncDir

/-! ### where nothing is planned -/
theorem tried_free (h : s.plan = []) : s.tried = ({ s with tries := s.tries + 1 }, 0) := by
  unfold St.tried
  rw [h]
  rfl
theorem remove_free (hp : s.plan = []) (hon : s.on = true) {n : Nm} (hn : isName n = true) (hm : n ∈ keys s.now) : (s.remove n).2 = 0 ∧ (s.remove n).1.now = drop s.now n ∧ (s.remove n).1.on = true ∧ (s.remove n).1.plan = [] := by
  have hne := isName_ne hn
  have h1 : s.looked [] [n] = 0 := by simp [St.looked, hon, hn]
  have h2 : s.looked n [] = 0 := by
    have : find s.now n ≠ none := fun e => (find_none.1 e) hm
    simp [St.looked, hon, this]
  unfold St.remove
  rw [if_neg (by simp [h1]), if_neg (by simp [h2]), tried_free hp, if_neg (by simp)]
  refine ⟨rfl, ?_, hon, hp⟩
  show behind s.now ⟨n, [], 0⟩ = _
  exact behind_drop _ hne _
theorem cleanGo_free : ∀ (ns : List Nm) {s : St}, s.plan = [] → s.on = true → ns.Nodup → (∀ n ∈ ns, isName n = true ∧ n ∈ keys s.now) → (s.cleanGo ns).2 = 0 ∧ (s.cleanGo ns).1.on = true ∧ (s.cleanGo ns).1.plan = [] ∧ (∀ p ∈ (s.cleanGo ns).1.now, p ∈ s.now ∧ p.1 ∉ ns)
  | [], s, hp, hon, _, _ => ⟨rfl, hon, hp, fun p h => ⟨h, by simp⟩⟩
  | n :: r, s, hp, hon, hd, hn => by
    obtain ⟨hd1, hd2⟩ := List.nodup_cons.1 hd
    obtain ⟨h1, h2⟩ := hn n List.mem_cons_self
    obtain ⟨a, b, c, d⟩ := remove_free hp hon h1 h2
    have ih := cleanGo_free r d c hd2 fun m hm => by
      obtain ⟨h3, h4⟩ := hn m (List.mem_cons_of_mem _ hm)
      refine ⟨h3, ?_⟩
      have hne : m ≠ n := fun e => hd1 (e ▸ hm)
      rw [b]
      obtain ⟨p, hp, rfl⟩ := List.mem_map.1 h4
      exact List.mem_map.2 ⟨p, List.mem_filter.2 ⟨hp, by simpa using hne⟩, rfl⟩
    unfold St.cleanGo
    rw [if_pos a]
    refine ⟨ih.1, ih.2.1, ih.2.2.1, fun p hp => ?_⟩
    obtain ⟨h3, h4⟩ := ih.2.2.2 p hp
    rw [b] at h3
    obtain ⟨h5, h6⟩ := List.mem_filter.1 h3
    refine ⟨h5, ?_⟩
    rw [List.mem_cons]
    rintro (h | h)
    · simp [h] at h6
    · exact h4 h
theorem keys_nodup {l : Fo} (h : Rising l) : (keys l).Nodup := by
  unfold keys List.Nodup
  rw [List.pairwise_map]
  exact h.imp fun hab e => by rw [e] at hab; exact lt_irrefl _ hab
/-- A Clean that nothing hinders. -/
theorem clean_free (hg : Good s) (hp : s.plan = []) (hon : s.on = true) (hn : ∀ p ∈ s.now, isName p.1 = true) : s.clean.2 = 0 ∧ s.clean.1.on = true ∧ s.clean.1.stale = [] ∧ (s.row = [] → s.clean.1.row = []) := by
  have hns : s.names = keys s.now := by unfold St.names; rw [if_pos hon]
  have hst : s.stale = (keys s.now).filter isTmp := by unfold St.stale; rw [hns]
  obtain ⟨a, b, c, d⟩ := cleanGo_free s.stale hp hon (by rw [hst]; exact (keys_nodup hg.nowR).filter _) fun n hn' => by
    rw [hst] at hn'
    have := (List.mem_filter.1 hn').1
    obtain ⟨p, hp, rfl⟩ := List.mem_map.1 this
    exact ⟨hn p hp, this⟩
  have hno : ∀ t : St, t.on = true → (∀ p ∈ t.now, p ∈ s.now ∧ p.1 ∉ s.stale) → t.stale = [] := fun t ht h => by
    unfold St.stale St.names
    rw [if_pos ht, List.filter_eq_nil_iff]
    intro n hn' e
    obtain ⟨p, hp, rfl⟩ := List.mem_map.1 hn'
    obtain ⟨h1, h2⟩ := h p hp
    apply h2
    rw [hst]
    exact List.mem_filter.2 ⟨List.mem_map.2 ⟨p, h1, rfl⟩, e⟩
  unfold St.clean
  rw [if_neg (by simp [hon]), if_neg (by simp [a])]
  split
  · rename_i h
    exact ⟨rfl, hon, h, fun h => h⟩
  · have e : (s.cleanGo s.stale).1.syncDir = ((s.cleanGo s.stale).1.tried.1.settled.more, 0) := by
      unfold St.syncDir St.call
      rw [if_neg (by simp [St.looked, b]), if_neg (by simp [St.looked, b]), tried_free c, if_neg (by simp)]
    rw [e, tried_free c]
    exact ⟨rfl, b, hno _ b d, fun _ => rfl⟩

/-! ### the theorem -/
theorem row_clean_stale (h : s.stale = []) (hon : s.on = true) : ∀ p ∈ s.now, nt p = true := by
  intro p hp
  unfold St.stale St.names at h
  rw [if_pos hon, List.filter_eq_nil_iff] at h
  have := h p.1 (List.mem_map.2 ⟨p, hp, rfl⟩)
  simpa [nt] using this
/-- What is told of a file. -/
def ntF (p : Nm × Nd) : Bool := !isTmp p.1
theorem files_nt (s : St) (hon : s.on = true) : s.files.filter ntF = (s.now.filter nt).map fun p => (p.1, (s.all[p.2]?).getD ⟨[], 0, false⟩) := by
  unfold St.files
  rw [if_pos hon, List.filter_map]
  rfl
/-- Behind all: no temporary name, the others, at least what was synced of each. -/
theorem recovered (h : Rec s0 s) (hon0 : s0.on = true) (hon : s.on = true) (hst : s.stale = []) (hr : s.row = []) {u : St} (hu : u = s.off.start 0 []) :
    u.files.length = (s0.files.filter ntF).length ∧ ∀ (k : Nat) (f g : Nm × Nd), (s0.files.filter ntF)[k]? = some f → u.files[k]? = some g → g.1 = f.1 ∧ g.2.bad = f.2.bad ∧ g.2.bytes <+: f.2.bytes ∧ f.2.syn ≤ g.2.bytes.length := by
  have hR : Rec s0 u := by rw [hu]; exact h.off.begin_ 0 []
  have hnow : u.now = s.now := by
    have h1 := h.good.now
    rw [hr] at h1
    rw [hu]
    unfold St.start
    rw [if_neg (by simp [St.off])]
    simp [St.off, hr, h1]
  have honu : u.on = true := by
    rw [hu]
    unfold St.start
    rw [if_neg (by simp [St.off])]
  have hfil : u.now = s0.now.filter nt := by
    rw [hnow, ← h.names s.row.length, h.good.at_all, List.filter_eq_self.2 (row_clean_stale hst hon)]
  have hfu : u.files = u.now.map fun p => (p.1, (u.all[p.2]?).getD ⟨[], 0, false⟩) := by unfold St.files; rw [if_pos honu]
  rw [files_nt s0 hon0, hfu, hfil]
  refine ⟨by simp, fun k f g hf hg => ?_⟩
  rw [List.getElem?_map] at hf hg
  obtain ⟨p, hp, rfl⟩ := Option.map_eq_some_iff.1 hf
  obtain ⟨q, hq, rfl⟩ := Option.map_eq_some_iff.1 hg
  rw [hp] at hq
  cases hq
  have hpu : p ∈ u.now := by rw [hfil]; exact List.mem_of_getElem? hp
  have hi := hR.good.nowI (List.mem_map.2 ⟨p, hpu, rfl⟩)
  obtain ⟨d0, e0, h1, h2, h3⟩ := hR.files p.2 _ (List.getElem?_eq_getElem hi)
  have hs := hR.good.sync _ (List.getElem_mem hi)
  simp only [e0, List.getElem?_eq_getElem hi, Option.getD_some]
  exact ⟨trivial, h3, h1, by omega⟩
end
/-- The temporary name of a name. -/
def hasTmp (n : Nm) : Bool := isName n && decide (n.length ≤ 56) && !isTmp n
def tmpOf (n : Nm) : Nm := if hasTmp n then tmpPre ++ n else []
end Disk
end Go.Proofs.Ytfommpbblpnljaa
namespace Go.Proofs.Ytfommpbblpnljaa
namespace Disk

theorem nowGo_mem : ∀ (fs : List Fin_) (i : Nat) (l : Fo) (p : Nm × Nat), p ∈ nowGo i l fs → p ∈ l ∨ ∃ f ∈ fs, f.name = p.1
  | [], _, _, _, h => .inl h
  | f :: r, i, l, p, h => by
    rcases nowGo_mem r (i + 1) (put l f.name i) p h with h | ⟨g, hg, e⟩
    · rcases mem_ins.1 h with rfl | h
      · exact .inr ⟨f, List.mem_cons_self, rfl⟩
      · exact .inl (List.mem_filter.1 h).1
    · exact .inr ⟨g, List.mem_cons_of_mem _ hg, e⟩
theorem now_names {room : Int} {fs : List Fin_} (h : fromErr room fs = 0) : ∀ p ∈ (fromSt room fs).now, isName p.1 = true := by
  intro p hp
  have hok : allOk fs = true := by
    unfold fromErr at h
    split at h
    · cases h
    · split at h
      · cases h
      · rename_i h2; simpa using h2
  rcases nowGo_mem fs 0 [] p hp with h | ⟨f, hf, e⟩
  · cases h
  · obtain ⟨j, hj, rfl⟩ := List.getElem_of_mem hf
    have := allOk_at hok hj
    unfold okF at this
    simp only [Bool.and_eq_true] at this
    rw [← e]
    exact this.1.1.1
section
variable (s0 : St) (fl : List (Int × Int)) (dir : Int) (keep : List Int) (ag : List (Int × Int)) (th : Int) (lf : List Int)
def r1 : St := (s0.plan_ fl).1
def r2 : St := (r1 s0 fl).clean.1
def r3 : St := (r2 s0 fl).off.start dir keep
def r4 : St := ((r3 s0 fl dir keep).plan_ ag).1
def r5 : St := (r4 s0 fl dir keep ag).clean.1
def r6 : St := (r5 s0 fl dir keep ag).off.start th lf
def r7 : St := ((r6 s0 fl dir keep ag th lf).plan_ []).1
theorem start_on (s : St) (dir : Int) (keep : List Int) : (s.off.start dir keep).on = true ∧ (s.off.start dir keep).row = [] := by
  unfold St.start
  rw [if_neg (by simp [St.off])]
  exact ⟨rfl, rfl⟩
theorem plan_nil (s : St) : (s.plan_ []).2 = 0 ∧ (s.plan_ []).1.on = s.on ∧ (s.plan_ []).1.row = s.row ∧ (s.plan_ []).1.plan = [] := ⟨rfl, rfl, rfl, rfl⟩
end
/-- All that the law asks. -/
theorem rec_all {room : Int} {fs : List Fin_} (h : fromErr room fs = 0) (fl : List (Int × Int)) (dir : Int) (keep : List Int) (ag : List (Int × Int)) (th : Int) (lf : List Int) {t u : St} (ht : t = r7 (fromSt room fs) fl dir keep ag th lf) (hu : u = t.clean.1.off.start 0 []) :
    t.clean.2 = 0 ∧ t.clean.1.stale = [] ∧ t.clean.1.row = [] ∧ u.files.length = ((fromSt room fs).files.filter ntF).length ∧
      ∀ (k : Nat) (f g : Nm × Nd), ((fromSt room fs).files.filter ntF)[k]? = some f → u.files[k]? = some g → g.1 = f.1 ∧ g.2.bad = f.2.bad ∧ g.2.bytes <+: f.2.bytes ∧ f.2.syn ≤ g.2.bytes.length := by
  have hR0 : Rec (fromSt room fs) (fromSt room fs) := Rec.start_ (fine_from h).good rfl
  have hR : Rec (fromSt room fs) t := by
    rw [ht]
    exact ((((((hR0.plan fl).clean).off.begin_ dir keep).plan ag).clean).off.begin_ th lf).plan []
  have h6 := start_on (r5 (fromSt room fs) fl dir keep ag) th lf
  have hon : t.on = true := by rw [ht]; exact h6.1
  have hrow : t.row = [] := by rw [ht]; exact h6.2
  have hpl : t.plan = [] := by rw [ht]; rfl
  have hnm : ∀ p ∈ t.now, isName p.1 = true := fun p hp => now_names h p (hR.sub t.row.length p (by rw [hR.good.at_all]; exact hp))
  obtain ⟨a, b, c, d⟩ := clean_free hR.good hpl hon hnm
  have hr := recovered hR.clean rfl b c (d hrow) hu
  exact ⟨a, c, d hrow, hr.1, hr.2⟩
/-- How many of the first are kept. -/
theorem nt_take {l : List (Nm × Nd)} {i : Nat} (hi : i < l.length) : (l.take (i + 1)).filter ntF = (l.take i).filter ntF ++ (if ntF l[i] then [l[i]] else []) := by
  rw [List.take_succ_eq_append_getElem hi, List.filter_append]
  congr 1
  cases h : ntF l[i] <;> simp [h]
theorem nt_at {l : List (Nm × Nd)} {i : Nat} (hi : i < l.length) (h : ntF l[i] = true) : (l.filter ntF)[((l.take i).filter ntF).length]? = some l[i] := by
  conv => lhs; rw [← List.take_append_drop i l, List.filter_append, List.take_append_drop]
  rw [List.getElem?_append_right (Nat.le_refl _), Nat.sub_self, List.drop_eq_getElem_cons hi, List.filter_cons_of_pos h]
  rfl
end Disk
end Go.Proofs.Ytfommpbblpnljaa
namespace Go.Proofs.Ytfommpbblpnljaa
namespace Disk

/-- An output: what it holds, its error. -/
structure Ou where
  held : List UInt8
  err : Int
namespace St
def handOn (s : St) (t : Nm) (o : Ou) : St × Ou × Int := if o.held = [] then (s, o, 0) else ((s.append t o.held).1, ⟨[], (s.append t o.held).2⟩, (s.append t o.held).2)
def ouWrite (s : St) (t : Nm) (o : Ou) (l : List UInt8) : St × Ou × Int :=
  if o.err ≠ 0 then (s, o, o.err) else if (o.held ++ l).length < 64 then (s, ⟨o.held ++ l, o.err⟩, 0) else s.handOn t ⟨o.held ++ l, o.err⟩
def ouFlush (s : St) (t : Nm) (o : Ou) : St × Ou × Int := if o.err ≠ 0 then (s, o, o.err) else s.handOn t o
/-- What stands behind the run: the Flush, the Sync, the Rename. -/
def rest (s : St) (t n : Nm) (o : Ou) : St × Int :=
  if (s.ouFlush t o).2.2 ≠ 0 then ((s.ouFlush t o).1, (s.ouFlush t o).2.2)
  else if ((s.ouFlush t o).1.sync t).2 ≠ 0 then (s.ouFlush t o).1.sync t
  else ((s.ouFlush t o).1.sync t).1.rename t n
/-- Behind the run that has left the disk so, and answered e. -/
def behindRun (t n : Nm) (r : St × Ou × Int) : St × Int :=
  if r.2.2 ≠ 0 then (r.1, r.2.2) else r.1.rest t n r.2.1
/-- The end: what is deferred, or the folder's sync. -/
def ends (t : Nm) (r : St × Int) : St × Int := if r.2 ≠ 0 then ((r.1.remove t).1, r.2) else r.1.syncDir
/-- Ahead of the run: what is refused, or the disk with the temporary file. -/
def ahead (s : St) (n : Nm) : St × Int :=
  if hasTmp n = false then (s, 20)
  else if (s.read n).2 ≠ 0 then (s, (s.read n).2)
  else if tmpOf n ∈ s.names ∧ (s.remove (tmpOf n)).2 ≠ 0 then s.remove (tmpOf n)
  else (if tmpOf n ∈ s.names then (s.remove (tmpOf n)).1 else s).make (tmpOf n)
def edit (s : St) (n : Nm) (R : St → St × Ou × Int) : St × Int :=
  if (s.ahead n).2 ≠ 0 then s.ahead n else ends (tmpOf n) (behindRun (tmpOf n) n (R (s.ahead n).1))
end St
/-- What a run does: its kind, its parts, its name, its number. -/
structure ActV where
  kind : Int
  parts : List (List UInt8)
  name : Nm
  err : Int
/-- A name that is neither the file's nor a temporary one. -/
def other (c n : Nm) : Nm :=
  if (if 1 < n.length ∨ n = c ∨ n = [] then [119] else n) = c then [118] else if 1 < n.length ∨ n = c ∨ n = [] then [119] else n
namespace St
def putGo (s : St) (n : Nm) : List (List UInt8) → St × Int
  | [] => (s, 0)
  | p :: r => if (s.append n p).2 ≠ 0 then s.append n p else (s.append n p).1.putGo n r
def puts (s : St) (n : Nm) (l : List (List UInt8)) : St × Int :=
  if (s.read n).2 = 21 then (if (s.make n).2 ≠ 0 then s.make n else (s.make n).1.putGo n l) else s.putGo n l
/-- A step of a run: the disk, the output, all that was written; whether it goes on, or what it answers. -/
def actStep (s : St) (c t : Nm) (o : Ou) (w : List UInt8) (a : ActV) : St × Ou × List UInt8 × Option Int :=
  if a.kind = 0 then ((s.ouWrite t o a.parts.flatten).1, (s.ouWrite t o a.parts.flatten).2.1, w ++ a.parts.flatten, none)
  else if a.kind = 1 then ((s.ouFlush t o).1, (s.ouFlush t o).2.1, w, none)
  else if a.kind = 2 then ((s.puts (other c a.name) a.parts).1, o, w, none)
  else if a.kind = 3 then ((s.sync (other c a.name)).1, o, w, none)
  else if a.kind = 4 then (s, o, w, if a.err ≠ 0 then some a.err else none)
  else if a.kind = 5 then (s, o, w, if o.err ≠ 0 then some o.err else none)
  else (s, o, w, none)
def runGo (c t : Nm) : List ActV → St → Ou → List UInt8 → St × Ou × List UInt8 × Int
  | [], s, o, w => (s, o, w, 0)
  | a :: r, s, o, w =>
    match (s.actStep c t o w a).2.2.2 with
    | some e => ((s.actStep c t o w a).1, (s.actStep c t o w a).2.1, (s.actStep c t o w a).2.2.1, e)
    | none => runGo c t r (s.actStep c t o w a).1 (s.actStep c t o w a).2.1 (s.actStep c t o w a).2.2.1
/-- The run, with what it saw left out. -/
def runOf (c : Nm) (l : List ActV) (s : St) : St × Ou × Int := ((runGo c (tmpOf c) l s ⟨[], 0⟩ []).1, (runGo c (tmpOf c) l s ⟨[], 0⟩ []).2.1, (runGo c (tmpOf c) l s ⟨[], 0⟩ []).2.2.2)
end St
end Disk
end Go.Proofs.Ytfommpbblpnljaa
