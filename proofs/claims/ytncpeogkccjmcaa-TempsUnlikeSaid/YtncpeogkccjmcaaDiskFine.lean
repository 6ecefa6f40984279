/- A disk of files: the bounds that every disk keeps. No program in sight. No conditions. -/
import Derived.Test.YtncpeogkccjmcaaDiskPlain4
namespace Go.Proofs.Ytncpeogkccjmcaa
namespace Disk

/-- What every disk is, with its bounds. -/
structure Fine (s : St) : Prop where
  good : Good s
  rowI : ∀ c ∈ s.row, c.dst ≠ [] → c.id < s.all.length
  cap : ∀ k, (s.at_ k).length ≤ 64
  big : ∀ d ∈ s.all, d.bytes.length ≤ 16777216
  room : 0 ≤ s.room ∧ s.room ≤ 16777216

theorem Fine.nowL {s : St} (h : Fine s) : s.now.length ≤ 64 := by rw [← h.good.at_all]; exact h.cap _
theorem Fine.oldL {s : St} (h : Fine s) : s.old.length ≤ 64 := h.cap 0
theorem Fine.nowI {s : St} (h : Fine s) : ∀ i ∈ ids s.now, i < s.all.length := fun _ hi => h.good.nowI hi
theorem Fine.oldI {s : St} (h : Fine s) : ∀ i ∈ ids s.old, i < s.all.length := fun i hi => h.good.have_ 0 i (by simpa using hi)

theorem fine_same {s t : St} (h : Fine s) (hg : Good t) (h1 : t.row = s.row) (h3 : t.old = s.old) (h4 : s.all.length ≤ t.all.length) (h5 : ∀ d ∈ t.all, d.bytes.length ≤ 16777216) (h6 : t.room = s.room) : Fine t :=
  ⟨hg, by rw [h1]; exact fun c hc hd => Nat.lt_of_lt_of_le (h.rowI c hc hd) h4, by unfold St.at_; rw [h1, h3]; exact h.cap, h5, by rw [h6]; exact h.room⟩
theorem fine_tried {s : St} (h : Fine s) : Fine s.tried.1 := by
  obtain ⟨h1, h2, h3, h4, h5, h6, h7, h8⟩ := tried_kept s
  exact fine_same h (good_tried h.good) h1 h5 (by rw [h3]; exact Nat.le_refl _) (by rw [h3]; exact h.big) h6
theorem fine_more {s : St} (h : Fine s) : Fine s.more := fine_same h (good_more h.good) rfl rfl (Nat.le_refl _) h.big rfl
theorem fine_changes {s : St} (h : Fine s) (c : Chg) (hg : Good (s.changes c)) (hi : c.dst ≠ [] → c.id < s.all.length) (hl : (behind s.now c).length ≤ 64) : Fine (s.changes c) := by
  refine ⟨hg, fun d hd => ?_, fun k => ?_, h.big, h.room⟩
  · rcases List.mem_append.1 hd with hd | hd
    · exact h.rowI d hd
    · rw [List.mem_singleton.1 hd]; exact hi
  · rw [at_changes]
    split
    · exact h.cap k
    · rw [h.good.at_all]; exact hl
theorem fine_settled {s : St} (h : Fine s) : Fine s.settled :=
  ⟨good_settled h.good, fun c hc => by simp [St.settled] at hc, fun k => by simpa [St.at_, St.settled] using h.nowL, h.big, h.room⟩
theorem fine_setNd {s : St} (h : Fine s) (i : Nat) (f : Nd → Nd) (hg : Good (s.setNd i f)) (hf : ∀ d, s.all[i]? = some d → d.bytes.length ≤ 16777216 → (f d).bytes.length ≤ 16777216) : Fine (s.setNd i f) := by
  refine fine_same h hg rfl rfl (by simp [St.setNd]) (fun d hd => ?_) rfl
  obtain ⟨j, hj⟩ := List.getElem?_of_mem hd
  simp only [St.setNd] at hj
  rw [List.getElem?_modify] at hj
  split at hj
  · rename_i hij
    subst hij
    obtain ⟨e, he, rfl⟩ := Option.map_eq_some_iff.1 hj
    exact hf e he (h.big e (List.mem_of_getElem? he))
  · exact h.big d (List.mem_of_getElem? (i := j) (by simpa using hj))

theorem fine_call {s : St} {names : List Nm} {has : Nm} {f : St → St × Int} (h : Fine s) (hf : s.looked [] names = 0 → s.looked has [] = 0 → ∀ t, t = s.tried.1 → Fine t → Fine (f t).1) : Fine (s.call names has f).1 := by
  unfold St.call
  split
  · exact h
  · rename_i h1
    split
    · exact h
    · rename_i h2
      split
      · exact fine_tried h
      · exact hf (by simpa using h1) (by simpa using h2) _ rfl (fine_tried h)

/-- A file of the folder is among the folder's bytes. -/
theorem size_mem {s : St} {l : Fo} {n : Nm} {i : Nat} {d : Nd} (h : find l n = some i) (hd : s.all[i]? = some d) : d.bytes.length ≤ s.size l := by
  have hm := mem_of_find h
  have : d.bytes.length ∈ l.map fun p => (s.all[p.2]?.map (·.bytes.length)).getD 0 := List.mem_map.2 ⟨(n, i), hm, by simp [hd]⟩
  unfold St.size
  obtain ⟨a, b, e⟩ := List.append_of_mem this
  rw [e]
  simp only [List.sum_append, List.sum_cons]
  omega

theorem len_behind {l : Fo} (hr : Rising l) {n m : Nm} {i : Nat} (hn : n ≠ []) (hf : find l n = some i) (j : Nat) : (behind l ⟨n, m, j⟩).length ≤ l.length := by
  have h1 := len_drop hr n
  rw [hf] at h1
  simp only [behind, if_neg hn]
  split
  · simp at h1; omega
  · rw [len_put (hr.drop n)]
    simp at h1
    split <;> omega

theorem fine_new {s : St} (h : Fine s) : Fine { s with all := s.all ++ [⟨[], 0, false⟩] } := by
  refine fine_same h (good_same h.good rfl rfl rfl (by simp) fun d hd => ?_) rfl rfl (by simp) (fun d hd => ?_) rfl
  · rcases List.mem_append.1 hd with hd | hd
    · exact h.good.sync d hd
    · rw [List.mem_singleton.1 hd]; exact Nat.le_refl 0
  · rcases List.mem_append.1 hd with hd | hd
    · exact h.big d hd
    · rw [List.mem_singleton.1 hd]; simp

theorem fine_act {s : St} (h : Fine s) (o : Do) : Fine (s.act o).1 := by
  have hga := good_act h.good o
  cases o with
  | make n =>
    refine fine_call h fun h1 _ t et ht => ?_
    have hne := isName_ne (looked_name h1 n (by simp))
    split
    · exact ht
    · rename_i hfull
      have hg : Good (({ t with all := t.all ++ [⟨[], 0, false⟩] } : St).changes ⟨[], n, t.all.length⟩) := by
        refine good_changes (fine_new ht).good _ ?_ (fun _ => by simp) (.inr hne)
        simp only [behind, if_true, if_neg hne]
        exact nodup_put_new n ht.good.nowN fun j hj => ht.good.nowI hj
      refine fine_more (fine_changes (fine_new ht) _ hg (fun _ => by simp) ?_)
      simp only [behind, if_true, if_neg hne]
      have hl := ht.nowL
      rw [len_put ht.good.nowR]
      split
      · exact hl
      · rename_i hfn
        have : find t.now n = none := by cases e : find t.now n <;> simp_all
        have : ¬ 64 ≤ t.now.length := fun h => hfull ⟨this, h⟩
        omega
  | append n b =>
    refine fine_call h fun h1 h2 t et ht => ?_
    split
    · exact ht
    · rename_i hfull
      have hn := isName_ne (looked_name h1 n (by simp))
      obtain ⟨i, hi⟩ := looked_file hn h2
      have hnow : t.now = s.now := by rw [et]; exact (tried_kept s).2.2.2.1
      rw [← hnow] at hi
      refine fine_more (fine_setNd ht _ _ (good_setNd ht.good _ _ fun d hd => by simp; omega) fun d hd hb => ?_)
      rw [hi] at hd
      have := size_mem hi hd
      have hr := ht.room
      simp only [List.length_append]
      by_cases h0 : 0 < b.length
      · have : ¬ t.room - t.size t.now < b.length := fun h => hfull ⟨h0, h⟩
        omega
      · omega
  | sync n => exact fine_call h fun _ _ t _ ht => fine_more (fine_setNd ht _ _ (good_setNd ht.good _ _ fun d hd => Nat.le_refl _) fun d _ hd => hd)
  | rename n m =>
    refine fine_call h fun h1 h2 t et ht => fine_more ?_
    split
    · exact ht
    · rename_i hnm
      have hn := isName_ne (looked_name h1 n (by simp))
      have hm := isName_ne (looked_name h1 m (by simp))
      obtain ⟨i, hi⟩ := looked_file hn h2
      have hnow : t.now = s.now := by rw [et]; exact (tried_kept s).2.2.2.1
      rw [← hnow] at hi
      rw [hi]
      have hil : i < t.all.length := ht.nowI _ (List.mem_map.2 ⟨(n, i), mem_of_find hi, rfl⟩)
      refine fine_changes ht _ (good_changes ht.good _ ?_ (fun _ => hil) (.inr hm)) (fun _ => hil) (Nat.le_trans (len_behind ht.good.nowR hn hi _) ht.nowL)
      simp only [behind, if_neg hn, if_neg hm, Option.getD_some]
      exact nodup_put m (nodup_drop n ht.good.nowN) fun hc => not_in_drop ht.good.nowN hi (ids_drop hc)
  | remove n =>
    show Fine (s.remove n).1
    unfold St.remove
    split
    · exact h
    · rename_i h1
      split
      · exact h
      · rename_i h2
        split
        · exact fine_tried h
        · have hn := isName_ne (looked_name (by simpa using h1) n (by simp))
          obtain ⟨i, hi⟩ := looked_file hn (by simpa using h2)
          have ht := fine_tried h
          have hnow : s.tried.1.now = s.now := (tried_kept s).2.2.2.1
          rw [← hnow] at hi
          refine fine_more (fine_changes ht _ (good_changes ht.good _ ?_ (fun h => absurd rfl h) (.inl hn)) (fun h => absurd rfl h) (Nat.le_trans (len_behind ht.good.nowR hn hi _) ht.nowL))
          simp only [behind, if_neg hn, if_true]
          exact nodup_drop n ht.good.nowN
  | syncDir => exact fine_call h fun _ _ t _ ht => fine_more (fine_settled ht)
  | read n => exact h
  | spoil n b =>
    change Good (s.spoil n b).1 at hga
    show Fine (s.spoil n b).1
    unfold St.spoil at hga ⊢
    split
    · exact h
    · rename_i h1
      rw [if_neg h1] at hga
      exact fine_setNd h _ _ hga fun d _ hd => hd
  | plan l =>
    change Good (s.plan_ l).1 at hga
    show Fine (s.plan_ l).1
    unfold St.plan_ at hga ⊢
    split
    · rename_i h1
      rw [if_pos h1] at hga
      exact fine_same h hga rfl rfl (Nat.le_refl _) h.big rfl
    · exact h
  | off => exact fine_same h hga rfl rfl (Nat.le_refl _) h.big rfl
  | none => exact h
  | start d k =>
    change Good (s.start d k) at hga
    show Fine (s.start d k)
    unfold St.start at hga ⊢
    split
    · exact h
    · rename_i h1
      rw [if_neg h1] at hga
      have hlen : ∀ (l : Fo) (i : Nat) (a : List Nd), (∀ d ∈ a, d.bytes.length ≤ 16777216) → ∀ d ∈ St.cuts k i l a, d.bytes.length ≤ 16777216 := by
        intro l
        induction l with
        | nil => intro i a ha; exact ha
        | cons p r ih =>
          intro i a ha
          unfold St.cuts
          refine ih _ _ fun d hd => ?_
          rcases mem_modify hd with hd | ⟨e, he, rfl⟩
          · exact ha d hd
          · have := ha e he
            unfold St.cutNd
            simp only [List.length_take]
            omega
      exact ⟨hga, fun c hc => by simp at hc, fun j => by simpa [St.at_] using h.cap (St.left d s.row.length), hlen _ _ _ h.big, h.room⟩

end Disk
end Go.Proofs.Ytncpeogkccjmcaa
