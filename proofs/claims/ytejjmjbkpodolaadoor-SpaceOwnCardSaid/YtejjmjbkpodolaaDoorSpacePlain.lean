/- What the calls of a space do to its two rows: no program in sight. No conditions. -/
import Derived.ProofKit
namespace Go.Proofs.YtejjmjbkpodolaaDoor.Space

abbrev Bs := List UInt8
/-- An answer, and the two rows behind it. -/
abbrev R := Int × Bs × Bs
def putR (m : Nat) (p h b : Bs) : R := if b.length ≤ m then (0, b, h) else (62, p, h)
def joinR (m : Nat) (p h b : Bs) : R := if p.length + 1 + b.length ≤ m then (0, p ++ 10 :: b, h) else (62, p, h)
def moreR (m : Nat) (p h : Bs) : R := if h.length + 1 + p.length ≤ m then (0, p, h ++ 10 :: p) else (62, p, h)
def doR (m : Nat) (p h : Bs) (x : UInt8) : R :=
  if x = 103 then (0, h, h) else if x = 71 then joinR m p h h else if x = 104 then (0, p, p) else if x = 72 then moreR m p h else if x = 120 then (0, h, p) else (1, p, h)
/-- What stands ahead of the first line end, what behind it. -/
def firstR (p : Bs) : Bs := p.takeWhile (· ≠ 10)
def cutR (p : Bs) : Bs := if 10 ∈ p then (p.dropWhile (· ≠ 10)).drop 1 else p
theorem cut_parts {p : Bs} (h : (10 : UInt8) ∈ p) : p = firstR p ++ 10 :: cutR p := by
  unfold cutR; rw [if_pos h]
  induction p with
  | nil => simp at h
  | cons x r ih =>
    by_cases hx : x = 10
    · subst hx; simp [firstR]
    · have hr : (10 : UInt8) ∈ r := by simpa [Ne.symm hx] using h
      have := ih hr
      simp only [firstR, List.takeWhile_cons, List.dropWhile_cons, ne_eq, hx, not_false_eq_true, decide_true, if_true, List.cons_append, List.cons.injEq, true_and] at this ⊢
      exact this
theorem first_no {p : Bs} : (10 : UInt8) ∉ firstR p := by
  unfold firstR
  induction p with
  | nil => simp
  | cons x r ih =>
    rw [List.takeWhile_cons]
    split
    · rename_i hx
      simp only [ne_eq, decide_not, Bool.not_eq_eq_eq_not, Bool.not_true, decide_eq_false_iff_not] at hx
      rw [List.mem_cons]
      rintro (h | h)
      · exact hx h.symm
      · exact ih h
    · simp
theorem first_all {p : Bs} (h : (10 : UInt8) ∉ p) : firstR p = p := by
  unfold firstR
  induction p with
  | nil => rfl
  | cons x r ih =>
    have hx : x ≠ 10 := by rintro rfl; simp at h
    rw [List.takeWhile_cons_of_pos (by simpa using hx), ih (by intro h'; exact h (by simp [h']))]
theorem first_of {a b : Bs} (h : (10 : UInt8) ∉ a) : firstR (a ++ 10 :: b) = a := by
  induction a with
  | nil => simp [firstR]
  | cons x r ih =>
    have hx : x ≠ 10 := by rintro rfl; simp at h
    have := ih (by intro h'; exact h (by simp [h']))
    unfold firstR at this ⊢
    rw [List.cons_append, List.takeWhile_cons_of_pos (by simpa using hx), this]
theorem cut_of {a b : Bs} (h : (10 : UInt8) ∉ a) : cutR (a ++ 10 :: b) = b := by
  have h2 : (10 : UInt8) ∈ a ++ 10 :: b := by simp
  have := cut_parts h2
  rw [first_of h] at this
  have := List.append_cancel_left this
  simpa using this.symm
theorem drop_first {p : Bs} (h : (10 : UInt8) ∈ p) : p.drop ((firstR p).length + 1) = cutR p := by
  have h2 : (firstR p ++ 10 :: cutR p).drop ((firstR p).length + 1) = cutR p := by rw [← List.drop_drop, List.drop_left]; rfl
  rw [← cut_parts h] at h2
  exact h2
theorem take_first {p : Bs} (h : (10 : UInt8) ∈ p) : p.take (firstR p).length = firstR p := by
  have h2 : (firstR p ++ 10 :: cutR p).take (firstR p).length = firstR p := List.take_left
  rw [← cut_parts h] at h2
  exact h2
theorem cut_len (p : Bs) : (cutR p).length ≤ p.length := by
  unfold cutR; split
  · rw [List.length_drop]; have := (List.dropWhile_suffix (fun x : UInt8 => decide (x ≠ 10)) (l := p)).length_le; omega
  · exact Nat.le_refl _
/-- Both rows have room. -/
def Fits (m : Nat) (p h : Bs) : Prop := p.length ≤ m ∧ h.length ≤ m
theorem fits_put {m : Nat} {p h b : Bs} (hf : Fits m p h) : Fits m (putR m p h b).2.1 (putR m p h b).2.2 := by
  unfold putR; split
  · exact ⟨by assumption, hf.2⟩
  · exact hf
theorem fits_join {m : Nat} {p h b : Bs} (hf : Fits m p h) : Fits m (joinR m p h b).2.1 (joinR m p h b).2.2 := by
  unfold joinR; split
  · exact ⟨by simp; omega, hf.2⟩
  · exact hf
theorem fits_more {m : Nat} {p h : Bs} (hf : Fits m p h) : Fits m (moreR m p h).2.1 (moreR m p h).2.2 := by
  unfold moreR; split
  · exact ⟨hf.1, by simp; omega⟩
  · exact hf
theorem fits_do {m : Nat} {p h : Bs} {x : UInt8} (hf : Fits m p h) : Fits m (doR m p h x).2.1 (doR m p h x).2.2 := by
  unfold doR
  split
  · exact ⟨hf.2, hf.2⟩
  split
  · exact fits_join hf
  split
  · exact ⟨hf.1, hf.1⟩
  split
  · exact fits_more hf
  split
  · exact ⟨hf.2, hf.1⟩
  exact hf
end Go.Proofs.YtejjmjbkpodolaaDoor.Space
