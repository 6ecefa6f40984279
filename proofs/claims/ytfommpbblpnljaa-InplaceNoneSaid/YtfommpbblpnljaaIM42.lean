/- Texts that lead to the claim, one behind the other: A disk of files: how far its counts go; a small disk, call by call. No program in sight. No conditions. -/
import Derived.Test.YtfommpbblpnljaaIM21
import Derived.Test.YtfommpbblpnljaaIM2
namespace Go.Proofs.Ytfommpbblpnljaa
namespace Disk
theorem small_mono {k l : Nat} {s : St} (h : Small k s) (hl : k ≤ l) : Small l s := by
  obtain ⟨h1, h2, h3, h4, h5⟩ := h
  refine ⟨h1, ?_, h3, ?_, ?_⟩ <;> omega
theorem small_tried {k : Nat} {s : St} (h : Small k s) : Small (k + 1) s.tried.1 := by
  obtain ⟨a, b, c, d⟩ := h.tried
  obtain ⟨h1, h2, h3, h4, h5⟩ := h
  refine ⟨a, by omega, by rw [c]; exact h3, by rw [c]; omega, by rw [d]; omega⟩
theorem small_call {k : Nat} {s : St} {names : List Nm} {has : Nm} {f : St → St × Int} (h : Small k s) (hf : ∀ t : St, 0 ≤ t.tries → t.tries ≤ 8 * (k : Int) + 1 → 0 ≤ t.done → t.done ≤ 8 * (k : Int) → t.row.length ≤ k → Small (k + 1) (f t).1) : Small (k + 1) (s.call names has f).1 := by
  unfold St.call
  split
  · exact small_mono h (Nat.le_succ _)
  · split
    · exact small_mono h (Nat.le_succ _)
    · split
      · exact small_tried h
      · obtain ⟨a, b, c, d⟩ := h.tried
        obtain ⟨h1, h2, h3, h4, h5⟩ := h
        exact hf _ a b (by rw [c]; exact h3) (by rw [c]; exact h4) (by rw [d]; exact h5)
/-- One call more. -/
theorem small_act {k : Nat} {s : St} (h : Small k s) (o : Do) : Small (k + 1) (s.act o).1 := by
  have hm := small_mono h (Nat.le_succ k)
  cases o with
  | make n =>
    refine small_call h fun t a b c d e => ?_
    split
    · show Small (k + 1) t
      exact ⟨a, by omega, c, by omega, by omega⟩
    · refine ⟨a, by simp [St.more, St.changes]; omega, ?_, ?_, ?_⟩ <;> simp [St.more, St.changes] <;> omega
  | append n b =>
    refine small_call h fun t a b c d e => ?_
    split
    · show Small (k + 1) t
      exact ⟨a, by omega, c, by omega, by omega⟩
    · refine ⟨a, by simp [St.more, St.setNd]; omega, ?_, ?_, ?_⟩ <;> simp [St.more, St.setNd] <;> omega
  | sync n => exact small_call h fun t a b c d e => by refine ⟨a, by simp [St.more, St.setNd]; omega, ?_, ?_, ?_⟩ <;> simp [St.more, St.setNd] <;> omega
  | rename n m =>
    refine small_call h fun t a b c d e => ?_
    split
    · refine ⟨a, by simp [St.more]; omega, ?_, ?_, ?_⟩ <;> simp [St.more] <;> omega
    · refine ⟨a, by simp [St.more, St.changes]; omega, ?_, ?_, ?_⟩ <;> simp [St.more, St.changes] <;> omega
  | remove n =>
    show Small (k + 1) (s.remove n).1
    unfold St.remove
    split
    · exact hm
    · split
      · exact hm
      · split
        · exact small_tried h
        · obtain ⟨a, b, c, d⟩ := h.tried
          obtain ⟨h1, h2, h3, h4, h5⟩ := h
          refine ⟨a, by simp [St.more, St.changes]; omega, ?_, ?_, ?_⟩ <;> simp [St.more, St.changes, c, d] <;> omega
  | syncDir => exact small_call h fun t a b c d e => by refine ⟨a, by simp [St.more, St.settled]; omega, ?_, ?_, ?_⟩ <;> simp [St.more, St.settled] <;> omega
  | read n => exact hm
  | spoil n b =>
    show Small (k + 1) (s.spoil n b).1
    unfold St.spoil
    split
    · exact hm
    · exact hm
  | plan l =>
    show Small (k + 1) (s.plan_ l).1
    unfold St.plan_
    obtain ⟨h1, h2, h3, h4, h5⟩ := h
    split
    · exact ⟨Int.le_refl _, by simp; omega, h3, by simp; omega, by simp; omega⟩
    · exact hm
  | off => exact hm
  | none => exact hm
  | start d kp =>
    show Small (k + 1) (s.start d kp)
    unfold St.start
    split
    · exact hm
    · obtain ⟨h1, h2, h3, h4, h5⟩ := h
      exact ⟨h1, by simp; omega, h3, by simp; omega, by simp⟩
theorem small_from (room : Int) (fs : List Fin_) : Small 0 (fromSt room fs) := ⟨by simp [fromSt], by simp [fromSt], by simp [fromSt], by simp [fromSt], by simp [fromSt]⟩

/-! ### the law's own disk -/
def lv0 : St := fromSt 10 []
def lv1 : St := (lv0.make [97]).1
def lv2 : St := (lv1.append [97] [1, 2]).1
def lv3 : St := (lv2.sync [98]).1
theorem lv_facts : fromErr 10 [] = 0 ∧ (lv0.make [97]).2 = 0 ∧ (lv1.append [97] [1, 2]).2 = 0 ∧ (lv2.sync [98]).2 = 21 ∧ lv3.read [97] = ([1, 2], 0) ∧ lv3.row.length = 1 ∧ lv3.done = 2 := by
  refine ⟨by decide, by decide, by decide, by decide, by decide, by decide, by decide⟩
theorem lv_fine : Fine lv0 ∧ Fine lv1 ∧ Fine lv2 ∧ Fine lv3 := by
  have h0 : Fine lv0 := fine_from (by decide)
  have h1 : Fine lv1 := fine_act h0 (.make [97])
  have h2 : Fine lv2 := fine_act h1 (.append [97] [1, 2])
  exact ⟨h0, h1, h2, fine_act h2 (.sync [98])⟩
theorem lv_small : Small 0 lv0 ∧ Small 1 lv1 ∧ Small 2 lv2 ∧ Small 3 lv3 := by
  have h0 : Small 0 lv0 := small_from _ _
  have h1 : Small 1 lv1 := small_act h0 (.make [97])
  have h2 : Small 2 lv2 := small_act h1 (.append [97] [1, 2])
  exact ⟨h0, h1, h2, small_act h2 (.sync [98])⟩
end Disk
end Go.Proofs.Ytfommpbblpnljaa
