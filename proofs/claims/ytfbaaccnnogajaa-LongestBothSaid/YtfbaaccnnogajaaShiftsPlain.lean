/- What stands ahead of a text, and behind it: what a search reckons then. Plain. -/
import Derived.Test.YtfbaaccnnogajaaSearchPlain
namespace Go.Proofs.Ytfbaaccnnogajaa

def NoOp (M : List Instr) (k : Int) : Prop := ∀ i (h : i < M.length), M[i].op ≠ k
instance (M : List Instr) (k : Int) : Decidable (NoOp M k) := by unfold NoOp; exact inferInstance
theorem closeGo_congr {M : List Instr} {n n' p p' : Nat} (h : ∀ k, targets M n' p' k = targets M n p k) : ∀ (f i : Nat) (l : List Nat), closeGo M n' p' f i l = closeGo M n p f i l := by
  intro f
  induction f with
  | zero => intros; rfl
  | succ f ih =>
    intro i l
    rw [closeGo, closeGo]
    split
    · rfl
    · rw [h, ih]
theorem targets_shift {M : List Instr} (h : NoOp M 2) (n p a k : Nat) : targets M (n + a) (p + a) k = targets M n p k := by
  unfold targets
  cases hk : M[k]? with
  | none => rfl
  | some i =>
    obtain ⟨hl, rfl⟩ := List.getElem?_eq_some_iff.1 hk
    have := h k hl
    simp only [if_neg this]
    have e : (p + a = n + a) ↔ p = n := by omega
    simp only [e]
theorem targets_end {M : List Instr} (h : NoOp M 3) (n n' p k : Nat) : targets M n' p k = targets M n p k := by
  unfold targets
  cases hk : M[k]? with
  | none => rfl
  | some i =>
    obtain ⟨hl, rfl⟩ := List.getElem?_eq_some_iff.1 hk
    have := h k hl
    simp only [if_neg this]
theorem getD_set (E : List Bool) (p t : Nat) (h : p < E.length) : (E.set p true).getD t false = if t = p then true else E.getD t false := by
  simp only [List.getD_eq_getElem?_getD]
  by_cases e : t = p
  · subst e; rw [List.getElem?_set_self h]; simp
  · rw [List.getElem?_set_ne (fun h => e h.symm), if_neg e]
theorem fromGo_keep (M : List Instr) (text : List UInt8) : ∀ (f p : Nat) (l : List Nat) (ends : List Bool) (last : Int) (s t : Nat), t < p → (fromGo M text f p l ends last s).1.getD t false = ends.getD t false := by
  intro f
  induction f with
  | zero => intros; rfl
  | succ f ih =>
    intro p l ends last s t ht
    have hset : ∀ c : Bool, (if c then ends.set p true else ends).getD t false = ends.getD t false := by
      intro c
      cases c
      · rfl
      · simp only [if_true, List.getD_eq_getElem?_getD]; rw [List.getElem?_set_ne (by omega)]
    rw [fromGo]
    split
    · rfl
    · simp only
      split
      · exact hset _
      · rw [ih _ _ _ _ _ _ (by omega)]; exact hset _
theorem fromGo_shift {M : List Instr} (h2 : NoOp M 2) (ahead text : List UInt8) : ∀ (f p : Nat) (l : List Nat) (ends ends' : List Bool) (last last' : Int) (s s' : Nat), f + p = text.length + 1 → ends.length = text.length + 1 → ends'.length = text.length + ahead.length + 1 → (∀ t, ends'.getD (t + ahead.length) false = ends.getD t false) →
    ∀ t, (fromGo M (ahead ++ text) f (p + ahead.length) l ends' last' s').1.getD (t + ahead.length) false = (fromGo M text f p l ends last s).1.getD t false := by
  intro f
  induction f with
  | zero => intro p l ends ends' last last' s s' _ _ _ h t; exact h t
  | succ f ih =>
    intro p l ends ends' last last' s s' hf hl hl' h t
    rw [fromGo, fromGo]
    by_cases h0 : l = []
    · rw [if_pos h0, if_pos h0]; exact h t
    rw [if_neg h0, if_neg h0]
    simp only
    have hlen : (ahead ++ text).length = text.length + ahead.length := by simp; omega
    have hcl : close M (ahead ++ text).length (p + ahead.length) l = close M text.length p l := by
      unfold close; rw [hlen]; exact closeGo_congr (targets_shift h2 _ _ _) _ _ _
    rw [hcl]
    have hset : ∀ c : Bool, ∀ t, (if c then ends'.set (p + ahead.length) true else ends').getD (t + ahead.length) false = (if c then ends.set p true else ends).getD t false := by
      intro c t
      cases c
      · exact h t
      · simp only [if_true]
        rw [getD_set _ _ _ (by omega), getD_set _ _ _ (by omega), h t]
        have e : (t + ahead.length = p + ahead.length) ↔ t = p := by omega
        simp only [e]
    have htx : (ahead ++ text)[p + ahead.length]? = text[p]? := by rw [List.getElem?_append_right (by omega)]; congr 1; omega
    rw [htx]
    cases text[p]? with
    | none => exact hset _ t
    | some b =>
      simp only
      rw [show p + ahead.length + 1 = (p + 1) + ahead.length by omega]
      exact ih (p + 1) _ _ _ _ _ _ _ (by omega) (by split <;> simp [hl]) (by split <;> simp [hl']) (hset _) t
theorem fromGo_behind {M : List Instr} (h3 : NoOp M 3) (text behind : List UInt8) : ∀ (f p : Nat) (l : List Nat) (ends ends' : List Bool) (last last' : Int) (s s' : Nat), f + p = text.length + 1 → ends.length = text.length + 1 → ends'.length = text.length + behind.length + 1 → (∀ t, t ≤ text.length → ends'.getD t false = ends.getD t false) →
    ∀ t, t ≤ text.length → (fromGo M (text ++ behind) (f + behind.length) p l ends' last' s').1.getD t false = (fromGo M text f p l ends last s).1.getD t false := by
  intro f
  induction f with
  | zero => intro p l ends ends' last last' s s' hf _ _ h t ht; rw [fromGo_keep _ _ _ _ _ _ _ _ _ (by omega)]; exact h t ht
  | succ f ih =>
    intro p l ends ends' last last' s s' hf hl hl' h t ht
    rw [show f + 1 + behind.length = (f + behind.length) + 1 by omega, fromGo, fromGo]
    by_cases h0 : l = []
    · rw [if_pos h0, if_pos h0]; exact h t ht
    rw [if_neg h0, if_neg h0]
    simp only
    have hcl : close M (text ++ behind).length p l = close M text.length p l := by
      unfold close; exact closeGo_congr (targets_end h3 _ _ _) _ _ _
    rw [hcl]
    have hset : ∀ c : Bool, ∀ t, t ≤ text.length → (if c then ends'.set p true else ends').getD t false = (if c then ends.set p true else ends).getD t false := by
      intro c t ht
      cases c
      · exact h t ht
      · simp only [if_true]
        rw [getD_set _ _ _ (by omega), getD_set _ _ _ (by omega), h t ht]
    rcases Nat.lt_or_ge p text.length with hp | hp
    · rw [List.getElem?_append_left hp, List.getElem?_eq_getElem hp]
      simp only
      exact ih (p + 1) _ _ _ _ _ _ _ (by omega) (by split <;> simp [hl]) (by split <;> simp [hl']) (hset _) t ht
    · rw [List.getElem?_eq_none hp]
      simp only
      cases (text ++ behind)[p]? with
      | none => exact hset _ t ht
      | some b =>
        simp only
        rw [fromGo_keep _ _ _ _ _ _ _ _ _ (by omega)]
        exact hset _ t ht
theorem getD_replicate (n t : Nat) : (List.replicate n false).getD t false = false := by
  rw [List.getD_eq_getElem?_getD, List.getElem?_replicate]
  split <;> rfl
theorem ext_getD {xs ys : List Bool} (hl : xs.length = ys.length) (h : ∀ t, xs.getD t false = ys.getD t false) : xs = ys := by
  apply List.ext_getElem hl
  intro t h1 h2
  have := h t
  rwa [List.getD_eq_getElem?_getD, List.getD_eq_getElem?_getD, List.getElem?_eq_getElem h1, List.getElem?_eq_getElem h2] at this
theorem ends_shift {M : List Instr} (h2 : NoOp M 2) (ahead text : List UInt8) : (endsAt M (ahead ++ text) ahead.length).drop ahead.length = endsAt M text 0 := by
  have hl := endsAt_len M (ahead ++ text) ahead.length
  have hl2 := endsAt_len M text 0
  refine ext_getD (by rw [List.length_drop, hl, hl2]; simp; omega) fun t => ?_
  rw [List.getD_eq_getElem?_getD, List.getElem?_drop, Nat.add_comm, ← List.getD_eq_getElem?_getD]
  have := fromGo_shift h2 ahead text (text.length + 1) 0 [0] (List.replicate (text.length + 1) false) (List.replicate (text.length + ahead.length + 1) false) (-1) (-1) 1 1 (by omega) (by simp) (by simp) (fun t => by rw [getD_replicate, getD_replicate]) t
  unfold endsAt fromAll
  have e : (ahead ++ text).length + 1 - ahead.length = text.length + 1 := by simp; omega
  have e2 : (ahead ++ text).length + 1 = text.length + ahead.length + 1 := by simp; omega
  rw [e, e2, Nat.sub_zero]
  simpa using this
theorem ends_behind {M : List Instr} (h3 : NoOp M 3) (text behind : List UInt8) : (endsAt M (text ++ behind) 0).take (text.length + 1) = endsAt M text 0 := by
  have hl := endsAt_len M (text ++ behind) 0
  have hl2 := endsAt_len M text 0
  refine ext_getD (by rw [List.length_take, hl, hl2]; simp) fun t => ?_
  rcases Nat.lt_or_ge t (text.length + 1) with ht | ht
  · rw [List.getD_eq_getElem?_getD, List.getElem?_take, if_pos ht, ← List.getD_eq_getElem?_getD]
    have := fromGo_behind h3 text behind (text.length + 1) 0 [0] (List.replicate (text.length + 1) false) (List.replicate (text.length + behind.length + 1) false) (-1) (-1) 1 1 (by omega) (by simp) (by simp) (fun t _ => by rw [getD_replicate, getD_replicate]) t (by omega)
    unfold endsAt fromAll
    have e2 : (text ++ behind).length + 1 = text.length + behind.length + 1 := by simp
    rw [e2, Nat.sub_zero, Nat.sub_zero, show text.length + behind.length + 1 = text.length + 1 + behind.length by omega]
    rw [show text.length + behind.length + 1 = text.length + 1 + behind.length by omega] at this
    exact this
  · rw [List.getD_eq_getElem?_getD, List.getD_eq_getElem?_getD, List.getElem?_eq_none (by rw [List.length_take]; omega), List.getElem?_eq_none (by omega)]
end Go.Proofs.Ytfbaaccnnogajaa
