/- A disk of files: what every disk is, and stays. No program in sight. No conditions. -/
import Derived.Test.YtncpeogkccjmcaaDiskPlain2
namespace Go.Proofs.Ytncpeogkccjmcaa
namespace Disk

/-- The folder behind so many changes. -/
def St.at_ (s : St) (k : Nat) : Fo := (s.row.take k).foldl behind s.old

theorem Good.at_all {s : St} (h : Good s) : s.at_ s.row.length = s.now := by
  unfold St.at_; rw [List.take_length]; exact h.now.symm
theorem Good.rising {s : St} (h : Good s) (k : Nat) : Rising (s.at_ k) := h.old.fold _
theorem Good.nowR {s : St} (h : Good s) : Rising s.now := by rw [← h.at_all]; exact h.rising _
theorem Good.nowN {s : St} (h : Good s) : (ids s.now).Nodup := by rw [← h.at_all]; exact h.nodup _
theorem Good.nowI {s : St} (h : Good s) {i : Nat} (hi : i ∈ ids s.now) : i < s.all.length := by rw [← h.at_all] at hi; exact h.have_ _ i hi

theorem good_same {s t : St} (h : Good s) (h1 : t.row = s.row) (h2 : t.now = s.now) (h3 : t.old = s.old) (h4 : s.all.length ≤ t.all.length) (h5 : ∀ d ∈ t.all, d.syn ≤ d.bytes.length) : Good t :=
  ⟨by rw [h1, h2, h3]; exact h.now, by rw [h3]; exact h.old, by rw [h1, h3]; exact h.nodup, by rw [h1, h3]; exact fun k i hi => Nat.lt_of_lt_of_le (h.have_ k i hi) h4, h5, by rw [h1]; exact h.names⟩

theorem good_tried {s : St} (h : Good s) : Good s.tried.1 := by
  obtain ⟨h1, h2, h3, h4, h5, h6, h7, h8⟩ := tried_kept s
  exact good_same h h1 h4 h5 (by rw [h3]; exact Nat.le_refl _) (by rw [h3]; exact h.sync)

theorem good_more {s : St} (h : Good s) : Good s.more := ⟨h.now, h.old, h.nodup, h.have_, h.sync, h.names⟩

theorem at_changes (s : St) (c : Chg) (k : Nat) : (s.changes c).at_ k = if k ≤ s.row.length then s.at_ k else behind (s.at_ s.row.length) c := by
  unfold St.at_ St.changes
  dsimp only
  split
  · rename_i h
    rw [List.take_append_of_le_length h]
  · rename_i h
    rw [List.take_of_length_le (by simp; omega), List.foldl_append, List.take_length]
    rfl

theorem good_changes {s : St} (h : Good s) (c : Chg) (hn : (ids (behind s.now c)).Nodup) (hi : c.dst ≠ [] → c.id < s.all.length) (hs : c.src ≠ [] ∨ c.dst ≠ []) : Good (s.changes c) := by
  have key : ∀ k, (s.changes c).at_ k = if k ≤ s.row.length then s.at_ k else behind s.now c := fun k => by rw [at_changes, h.at_all]
  refine ⟨?_, h.old, fun k => ?_, fun k i hk => ?_, h.sync, fun d hd => ?_⟩
  · show behind s.now c = (s.row ++ [c]).foldl behind s.old
    rw [List.foldl_append, ← h.now]; rfl
  · have := key k
    unfold St.at_ at this
    rw [this]
    split
    · exact h.nodup k
    · exact hn
  · have := key k
    unfold St.at_ at this
    rw [this] at hk
    split at hk
    · exact h.have_ k i hk
    · rcases ids_behind hk with ⟨rfl, hd⟩ | hk
      · exact hi hd
      · exact h.nowI hk
  · rcases List.mem_append.1 hd with hd | hd
    · exact h.names d hd
    · rw [List.mem_singleton.1 hd]; exact hs

theorem good_settled {s : St} (h : Good s) : Good s.settled :=
  ⟨rfl, h.nowR, fun k => by simpa [St.settled] using h.nowN, fun k i hi => by
    have : i ∈ ids s.now := by simpa [St.settled] using hi
    exact h.nowI this, h.sync, fun c hc => by simp [St.settled] at hc⟩

theorem mem_modify {l : List Nd} {i : Nat} {f : Nd → Nd} {d : Nd} (h : d ∈ l.modify i f) : d ∈ l ∨ ∃ e ∈ l, d = f e := by
  obtain ⟨j, hj⟩ := List.getElem?_of_mem h
  rw [List.getElem?_modify] at hj
  split at hj
  · obtain ⟨e, he, rfl⟩ := Option.map_eq_some_iff.1 hj
    exact .inr ⟨e, List.mem_of_getElem? he, rfl⟩
  · exact .inl (List.mem_of_getElem? (i := j) (by simpa using hj))

theorem good_setNd {s : St} (h : Good s) (i : Nat) (f : Nd → Nd) (hf : ∀ d, d.syn ≤ d.bytes.length → (f d).syn ≤ (f d).bytes.length) : Good (s.setNd i f) :=
  good_same h rfl rfl rfl (by simp [St.setNd]) fun d hd => by
    rcases mem_modify hd with hd | ⟨e, he, rfl⟩
    · exact h.sync d hd
    · exact hf e (h.sync e he)

theorem good_call {s : St} {names : List Nm} {has : Nm} {f : St → St × Int} (h : Good s) (hf : s.looked [] names = 0 → s.looked has [] = 0 → ∀ t, t = s.tried.1 → Good t → Good (f t).1) : Good (s.call names has f).1 := by
  unfold St.call
  split
  · exact h
  · rename_i h1
    split
    · exact h
    · rename_i h2
      split
      · exact good_tried h
      · exact hf (by simpa using h1) (by simpa using h2) _ rfl (good_tried h)

theorem looked_name {s : St} {names : List Nm} (h : s.looked [] names = 0) : ∀ n ∈ names, isName n = true := by
  unfold St.looked at h
  split at h
  · simp at h
  · split at h
    · simp at h
    · rename_i h1
      intro n hn
      cases e : isName n
      · exact absurd (List.any_eq_true.2 ⟨n, hn, by simp [e]⟩) h1
      · rfl
theorem looked_file {s : St} {n : Nm} (hn : n ≠ []) (h : s.looked n [] = 0) : ∃ i, find s.now n = some i := by
  unfold St.looked at h
  split at h
  · simp at h
  · split at h
    · simp at h
    · split at h
      · simp at h
      · rename_i h1
        cases e : find s.now n with
        | none => exact absurd ⟨hn, e⟩ h1
        | some i => exact ⟨i, rfl⟩
theorem isName_ne {n : Nm} (h : isName n = true) : n ≠ [] := by
  rintro rfl; simp [isName] at h

theorem nodup_put_new {l : Fo} (k : Nm) {i : Nat} (h : (ids l).Nodup) (hi : ∀ j ∈ ids l, j < i) : (ids (put l k i)).Nodup :=
  nodup_put k h fun hm => absurd (hi _ (ids_drop hm)) (Nat.lt_irrefl _)

/-- A file under another name stands under that one alone. -/
theorem not_in_drop {l : Fo} (hn : (ids l).Nodup) {n : Nm} {i : Nat} (h : find l n = some i) : i ∉ ids (drop l n) := by
  intro hm
  obtain ⟨⟨k, j⟩, hp, he⟩ := List.mem_map.1 hm
  obtain rfl : j = i := he
  obtain ⟨h1, h2⟩ := List.mem_filter.1 hp
  have h3 := mem_of_find h
  have hkn : k ≠ n := by simpa using h2
  obtain ⟨a, ha⟩ := List.getElem?_of_mem h1
  obtain ⟨b, hb⟩ := List.getElem?_of_mem h3
  have hab : a ≠ b := by rintro rfl; rw [ha] at hb; cases hb; exact hkn rfl
  have ea : (ids l)[a]? = some j := by simp [ids, ha]
  have eb : (ids l)[b]? = some j := by simp [ids, hb]
  obtain ⟨la, ea⟩ := List.getElem?_eq_some_iff.1 ea
  obtain ⟨lb, eb⟩ := List.getElem?_eq_some_iff.1 eb
  have hpw := List.pairwise_iff_getElem.1 hn
  rcases Nat.lt_or_gt_of_ne hab with hlt | hlt
  · exact hpw a b la lb hlt (ea.trans eb.symm)
  · exact hpw b a lb la hlt (eb.trans ea.symm)

theorem good_make {s : St} (h : Good s) (n : Nm) : Good (s.make n).1 := by
  refine good_call h fun h1 _ t _ ht => ?_
  have hne := isName_ne (looked_name h1 n (by simp))
  split
  · exact ht
  · have hg : Good { t with all := t.all ++ [⟨[], 0, false⟩] } := by
      refine good_same ht rfl rfl rfl (by simp) fun d hd => ?_
      rcases List.mem_append.1 hd with hd | hd
      · exact ht.sync d hd
      · rw [List.mem_singleton.1 hd]; exact Nat.le_refl 0
    refine good_more (good_changes hg _ ?_ (fun _ => by simp) (.inr hne))
    simp only [behind, if_true, if_neg hne]
    exact nodup_put_new n ht.nowN fun j hj => ht.nowI hj

theorem good_act {s : St} (h : Good s) (o : Do) : Good (s.act o).1 := by
  cases o with
  | make n => exact good_make h n
  | append n b => 
    refine good_call h fun h1 _ t _ ht => ?_
    split
    · exact ht
    · exact good_more (good_setNd ht _ _ fun d hd => by simp; omega)
  | sync n => exact good_call h fun h1 _ t _ ht => good_more (good_setNd ht _ _ fun d hd => Nat.le_refl _)
  | rename n m =>
    refine good_call h fun h1 h2 t et ht => good_more ?_
    split
    · exact ht
    · rename_i hnm
      have hn := isName_ne (looked_name h1 n (by simp))
      have hm := isName_ne (looked_name h1 m (by simp))
      obtain ⟨i, hi⟩ := looked_file hn h2
      have hnow : t.now = s.now := by rw [et]; exact (tried_kept s).2.2.2.1
      rw [← hnow] at hi
      rw [hi]
      have hil : i < t.all.length := ht.nowI (List.mem_map.2 ⟨(n, i), mem_of_find hi, rfl⟩)
      refine good_changes ht _ ?_ (fun _ => hil) (.inr hm)
      simp only [behind, if_neg hn, if_neg hm, Option.getD_some]
      refine nodup_put m (nodup_drop n ht.nowN) fun hc => not_in_drop ht.nowN hi (ids_drop hc)
  | remove n =>
    show Good (s.remove n).1
    unfold St.remove
    split
    · exact h
    · rename_i h1
      split
      · exact h
      · split
        · exact good_tried h
        · have hn := isName_ne (looked_name (by simpa using h1) n (by simp))
          refine good_more (good_changes (good_tried h) _ ?_ (fun h => absurd rfl h) (.inl hn))
          simp only [behind, if_neg hn, if_true]
          exact nodup_drop n (good_tried h).nowN
  | syncDir => exact good_call h fun _ _ t _ ht => good_more (good_settled ht)
  | read n => exact h
  | spoil n b =>
    show Good (s.spoil n b).1
    unfold St.spoil
    split
    · exact h
    · exact good_setNd h _ _ fun d hd => hd
  | plan l =>
    show Good (s.plan_ l).1
    unfold St.plan_
    split
    · exact ⟨h.now, h.old, h.nodup, h.have_, h.sync, h.names⟩
    · exact h
  | off => exact ⟨h.now, h.old, h.nodup, h.have_, h.sync, h.names⟩
  | none => exact h
  | start d k =>
    show Good (s.start d k)
    unfold St.start
    split
    · exact h
    · have hlen : ∀ (l : Fo) (i : Nat) (a : List Nd), (St.cuts k i l a).length = a.length := by
        intro l
        induction l with
        | nil => intro i a; rfl
        | cons p r ih => intro i a; unfold St.cuts; rw [ih]; simp
      have hsyn : ∀ (l : Fo) (i : Nat) (a : List Nd), (∀ d ∈ a, d.syn ≤ d.bytes.length) → ∀ d ∈ St.cuts k i l a, d.syn ≤ d.bytes.length := by
        intro l
        induction l with
        | nil => intro i a ha; exact ha
        | cons p r ih =>
          intro i a ha
          unfold St.cuts
          refine ih _ _ fun d hd => ?_
          rcases mem_modify hd with hd | ⟨e, he, rfl⟩
          · exact ha d hd
          · have := ha e he
            unfold St.cutNd
            simp only [List.length_take]
            split
            · omega
            · unfold St.left; omega
      exact ⟨rfl, h.rising _, fun j => by simpa using h.nodup (St.left d s.row.length), fun j i hi => by
        have hi : i ∈ ids ((s.row.take (St.left d s.row.length)).foldl behind s.old) := by simpa using hi
        rw [hlen]
        exact h.have_ _ i hi, hsyn _ _ _ h.sync, fun c hc => by simp at hc⟩

end Disk
end Go.Proofs.Ytncpeogkccjmcaa
