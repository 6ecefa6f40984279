/- A disk of files: what every call keeps, and what a refused one does. No program in sight. No conditions. -/
import Derived.Test.YtncpeogkccjmcaaDiskPlain
namespace Go.Proofs.Ytncpeogkccjmcaa
namespace Disk

/-- A call. -/
inductive Do
  | make (n : Nm)
  | append (n : Nm) (b : List UInt8)
  | sync (n : Nm)
  | rename (n m : Nm)
  | remove (n : Nm)
  | syncDir
  | read (n : Nm)
  | spoil (n : Nm) (bad : Bool)
  | plan (l : List (Int × Int))
  | off
  | start (dir : Int) (keep : List Int)
  | none

def St.act (s : St) : Do → St × Int
  | .make n => s.make n
  | .append n b => s.append n b
  | .sync n => s.sync n
  | .rename n m => s.rename n m
  | .remove n => s.remove n
  | .syncDir => s.syncDir
  | .read n => (s, (s.read n).2)
  | .spoil n b => s.spoil n b
  | .plan l => s.plan_ l
  | .off => (s.off, 0)
  | .start d k => (s.start d k, 0)
  | .none => (s, 0)

/-- What a refused call leaves. -/
structure Kept (s t : St) (e : Int) : Prop where
  row : t.row = s.row
  done : t.done = s.done
  down : e = 24 → t.on = false
  up : e ≠ 24 → t.on = s.on ∧ t.files = s.files

theorem files_of {s t : St} (h1 : t.on = s.on) (h2 : t.all = s.all) (h3 : t.now = s.now) : t.files = s.files := by
  unfold St.files; rw [h1, h2, h3]

theorem tried_kept (s : St) : s.tried.1.row = s.row ∧ s.tried.1.done = s.done ∧ s.tried.1.all = s.all ∧ s.tried.1.now = s.now ∧ s.tried.1.old = s.old ∧ s.tried.1.room = s.room ∧ (s.tried.2 ≠ 24 → s.tried.1.on = s.on) ∧ (s.tried.2 = 24 → s.tried.1.on = false) := by
  unfold St.tried
  split
  · simp
  · refine ⟨rfl, rfl, rfl, rfl, rfl, rfl, fun h => ?_, fun h => ?_⟩
    · simp only [ne_eq] at h
      simp [bne, h]
    · simp only at h
      simp [h]

theorem looked_down {s : St} {has : Nm} {names : List Nm} (h : s.looked has names = 24) : s.on = false := by
  unfold St.looked at h
  cases e : s.on
  · rfl
  · rw [e] at h
    simp at h
    split at h
    · simp at h
    · split at h <;> simp at h

theorem Kept.refl {s : St} {e : Int} (h : e = 24 → s.on = false) : Kept s s e := ⟨rfl, rfl, h, fun _ => ⟨rfl, rfl⟩⟩
theorem kept_tried {s : St} : Kept s s.tried.1 s.tried.2 := by
  obtain ⟨h1, h2, h3, h4, h5, h6, h7, h8⟩ := tried_kept s
  exact ⟨h1, h2, h8, fun h => ⟨h7 h, files_of (h7 h) h3 h4⟩⟩

theorem kept_call {s : St} {names : List Nm} {has : Nm} {f : St → St × Int} {t : St} {e : Int} (h : s.call names has f = (t, e)) (he : e ≠ 0)
    (hf : ∀ s' t, f s' = (t, e) → e ≠ 24 ∧ t = s') : Kept s t e := by
  unfold St.call at h
  split at h
  · cases h; exact .refl looked_down
  · split at h
    · cases h; exact .refl looked_down
    · split at h
      · have : t = s.tried.1 ∧ e = s.tried.2 := by rw [h]; exact ⟨rfl, rfl⟩
        obtain ⟨rfl, rfl⟩ := this
        exact kept_tried
      · rename_i h0
        obtain ⟨h24, rfl⟩ := hf _ _ h
        obtain ⟨h1, h2, h3, h4, h5, h6, h7, h8⟩ := tried_kept s
        have h0' : s.tried.2 ≠ 24 := by
          intro e
          rw [e] at h0
          exact h0 (by decide)
        exact ⟨h1, h2, fun h => absurd h h24, fun _ => ⟨h7 h0', files_of (h7 h0') h3 h4⟩⟩

/-- What is refused changes nothing; where the power goes, just that. -/
theorem refused {s t : St} {o : Do} {e : Int} (h : s.act o = (t, e)) (he : e ≠ 0) : Kept s t e := by
  cases o <;> simp only [St.act] at h
  case' make n => unfold St.make at h
  case' append n b => unfold St.append at h
  case' sync n => unfold St.sync at h
  case' rename n m => unfold St.rename at h
  case' syncDir => unfold St.syncDir at h
  case make =>
    refine kept_call h he fun s' t ht => ?_
    split at ht
    · cases ht; exact ⟨by decide, rfl⟩
    · cases ht; exact absurd rfl he
  case append =>
    refine kept_call h he fun s' t ht => ?_
    split at ht
    · cases ht; exact ⟨by decide, rfl⟩
    · cases ht; exact absurd rfl he
  case sync => exact kept_call h he fun s' t ht => by cases ht; exact absurd rfl he
  case rename => exact kept_call h he fun s' t ht => by cases ht; exact absurd rfl he
  case syncDir => exact kept_call h he fun s' t ht => by cases ht; exact absurd rfl he
  case remove n =>
    unfold St.remove at h
    split at h
    · cases h; exact .refl looked_down
    · split at h
      · cases h; exact .refl looked_down
      · split at h
        · have : t = s.tried.1 ∧ e = s.tried.2 := by rw [h]; exact ⟨rfl, rfl⟩
          obtain ⟨rfl, rfl⟩ := this
          exact kept_tried
        · cases h; exact absurd rfl he
  case read n =>
    obtain ⟨h1, h2⟩ := Prod.mk.inj h
    subst h1
    refine .refl fun h24 => ?_
    rw [← h2] at h24
    unfold St.read at h24
    split at h24
    · dsimp only at h24
      unfold St.there at h24
      split at h24
      · exact looked_down h24
      · exact looked_down h24
    · split at h24 <;> simp at h24
  case spoil n b =>
    unfold St.spoil at h
    split at h
    · cases h
      refine .refl fun h24 => ?_
      unfold St.there at h24
      split at h24
      · exact looked_down h24
      · exact looked_down h24
    · cases h; exact absurd rfl he
  case plan l =>
    unfold St.plan_ at h
    split at h
    · cases h; exact absurd rfl he
    · cases h; exact .refl fun h => by simp at h
  case off => cases h; exact absurd rfl he
  case start d k => cases h; exact absurd rfl he
  case none => cases h; exact absurd rfl he

end Disk
end Go.Proofs.Ytncpeogkccjmcaa
