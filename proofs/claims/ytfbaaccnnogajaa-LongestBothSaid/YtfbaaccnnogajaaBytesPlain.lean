/- The machine of some bytes: what a search of it finds. Plain. -/
import Derived.Test.YtfbaaccnnogajaaSearchPlain
import Derived.Test.YtfbaaccnnogajaaOne
import Derived.Test.YtfbaaccnnogajaaShapedM
namespace Go.Proofs.Ytfbaaccnnogajaa

def setI (b : UInt8) : Instr := ⟨1, oneC b, 0, 0⟩
def doneI : Instr := ⟨6, ⟨0, 0, 0, 0⟩, 0, 0⟩
/-- The machine of some bytes. -/
def bytesM (b : List UInt8) : List Instr := b.map setI ++ [doneI]
theorem bytesM_len (b : List UInt8) : (bytesM b).length = b.length + 1 := by simp [bytesM]
theorem bytesM_set {b : List UInt8} {k : Nat} (h : k < b.length) : (bytesM b)[k]? = some (setI b[k]) := by
  unfold bytesM
  rw [List.getElem?_append_left (by simpa using h)]
  simp [h]
theorem bytesM_done (b : List UInt8) : (bytesM b)[b.length]? = some doneI := by
  unfold bytesM
  rw [List.getElem?_append_right (by simp)]
  simp
theorem bytesM_shaped (b : List UInt8) (h : b.length ≤ 65536) : MShaped (bytesM b) := by
  refine ⟨by rw [bytesM_len]; omega, by rw [bytesM_len]; omega, fun k hk => ?_⟩
  have hk' := hk
  rw [bytesM_len] at hk'
  have hg := List.getElem?_eq_getElem hk
  rw [bytesM_len]
  by_cases hb : k < b.length
  · rw [bytesM_set hb, Option.some.injEq] at hg
    rw [← hg]
    refine ⟨by show (1 : Int) ≤ 1; omega, by show (1 : Int) ≤ 6; omega, fun _ => by omega, rfl, Int.le_refl _, ?_, Int.le_refl _, ?_⟩
    · show (0 : Int) < _; omega
    · show (0 : Int) < _; omega
  · have : k = b.length := by omega
    subst this
    rw [bytesM_done, Option.some.injEq] at hg
    rw [← hg]
    refine ⟨by show (1 : Int) ≤ 6; omega, by show (6 : Int) ≤ 6; omega, fun h => by revert h; show (6 : Int) ≤ 3 → _; omega, rfl, Int.le_refl _, ?_, Int.le_refl _, ?_⟩
    · show (0 : Int) < _; omega
    · show (0 : Int) < _; omega
theorem targets_bytes (b : List UInt8) (n p k : Nat) : targets (bytesM b) n p k = [] := by
  unfold targets
  rcases Nat.lt_trichotomy k b.length with h | h | h
  · rw [bytesM_set h]; rfl
  · rw [h, bytesM_done]; rfl
  · rw [List.getElem?_eq_none (by rw [bytesM_len]; omega)]
theorem close_bytes (b : List UInt8) (n p : Nat) (l : List Nat) : close (bytesM b) n p l = l := by
  unfold close
  have : ∀ f i, closeGo (bytesM b) n p f i l = l := by
    intro f
    induction f with
    | zero => intro i; rfl
    | succ f ih =>
      intro i
      rw [closeGo]
      split
      · rfl
      · rw [targets_bytes]; exact ih _
  exact this _ _
theorem isDone_bytes (b : List UInt8) (k : Nat) (h : k ≤ b.length) : isDone (bytesM b) k = decide (k = b.length) := by
  unfold isDone
  rcases Nat.lt_or_ge k b.length with h1 | h1
  · rw [bytesM_set h1]
    show decide ((setI b[k]).op = 6) = _
    rw [decide_eq_false (p := k = b.length) (by omega)]
    rfl
  · have : k = b.length := by omega
    subst this
    rw [bytesM_done]; simp [doneI]
theorem takes_bytes (b : List UInt8) (c : UInt8) (k : Nat) : takes (bytesM b) c k = decide (b[k]? = some c) := by
  unfold takes
  rcases Nat.lt_trichotomy k b.length with h | h | h
  · rw [bytesM_set h, List.getElem?_eq_getElem h]
    simp only [setI, decide_true, Bool.true_and, oneC_has, Option.some.injEq]
    exact decide_eq_decide.2 ⟨fun e => e.symm, fun e => e.symm⟩
  · rw [h, bytesM_done, List.getElem?_eq_none (Nat.le_refl _)]; simp [doneI]
  · rw [List.getElem?_eq_none (by rw [bytesM_len]; omega), List.getElem?_eq_none (by omega)]; simp
theorem fromGo_nil (M : List Instr) (text : List UInt8) (f p : Nat) (ends : List Bool) (last : Int) (s : Nat) : fromGo M text f p [] ends last s = (ends, last, s) := by
  cases f with
  | zero => rfl
  | succ f => rw [fromGo, if_pos rfl]
theorem fromGo_bytes (b text : List UInt8) : ∀ (f p k : Nat) (ends : List Bool) (last : Int) (s : Nat), f + p = text.length + 1 → k ≤ b.length → p ≤ text.length →
    (fromGo (bytesM b) text f p [k] ends last s).2.1 = if b.drop k <+: text.drop p then ((p + (b.length - k) : Nat) : Int) else last := by
  intro f
  induction f with
  | zero => intro p k ends last s h1 _ h2; omega
  | succ f ih =>
    intro p k ends last s h1 hk hp
    rw [fromGo, if_neg (by simp)]
    simp only [close_bytes]
    have hany : [k].any (isDone (bytesM b)) = decide (k = b.length) := by simp only [List.any_cons, List.any_nil, Bool.or_false]; exact isDone_bytes b k hk
    have hway : ∀ c, wayGo (bytesM b) c [k] = if b[k]? = some c then [k + 1] else [] := by
      intro c
      unfold wayGo
      simp only [List.foldl_cons, List.foldl_nil, takes_bytes]
      by_cases h : b[k]? = some c
      · rw [if_pos h, decide_eq_true h, if_pos rfl]; simp [addN]
      · rw [if_neg h, decide_eq_false h]; rfl
    rw [hany]
    rcases Nat.lt_or_ge k b.length with hlt | hge
    · rw [decide_eq_false (by omega : ¬ k = b.length)]
      have hdk : b.drop k = b[k] :: b.drop (k + 1) := List.drop_eq_getElem_cons hlt
      cases htx : text[p]? with
      | none =>
        have : text.drop p = [] := List.drop_eq_nil_of_le (by have := List.getElem?_eq_none_iff.1 htx; omega)
        simp only
        rw [this, hdk, if_neg (by simp)]; rfl
      | some c =>
        obtain ⟨hpt, hc⟩ := List.getElem?_eq_some_iff.1 htx
        have hdp : text.drop p = c :: text.drop (p + 1) := by rw [List.drop_eq_getElem_cons hpt, hc]
        simp only [hway]
        rw [List.getElem?_eq_getElem hlt, hdk, hdp]
        by_cases he : b[k] = c
        · rw [if_pos (by rw [he])]
          rw [ih (p + 1) (k + 1) _ _ _ (by omega) (by omega) (by omega)]
          have e1 : (b[k] :: b.drop (k + 1) <+: c :: text.drop (p + 1)) ↔ b.drop (k + 1) <+: text.drop (p + 1) := by
            rw [List.cons_prefix_cons]; exact ⟨fun h => h.2, fun h => ⟨he, h⟩⟩
          by_cases hp2 : b.drop (k + 1) <+: text.drop (p + 1)
          · rw [if_pos hp2, if_pos (e1.2 hp2)]; congr 1; omega
          · rw [if_neg hp2, if_neg (fun h => hp2 (e1.1 h))]; rfl
        · rw [if_neg (by rw [Option.some.injEq]; exact he), fromGo_nil]
          have hno : ¬ (b[k] :: b.drop (k + 1) <+: c :: text.drop (p + 1)) := by rw [List.cons_prefix_cons]; exact fun h => he h.1
          rw [if_neg hno]; rfl
    · have hkb : k = b.length := by omega
      subst hkb
      rw [decide_eq_true rfl, List.drop_length, if_pos (List.nil_prefix)]
      cases htx : text[p]? with
      | none => simp
      | some c =>
        simp only [hway]
        rw [List.getElem?_eq_none (Nat.le_refl _), if_neg (by simp), fromGo_nil]; simp
/-- A search of the machine of some bytes: the last end at a place. -/
theorem lastAt_bytes (b text : List UInt8) (p : Nat) (hp : p ≤ text.length) : lastAt (bytesM b) text p = if b <+: text.drop p then ((p + b.length : Nat) : Int) else -1 := by
  have := fromGo_bytes b text (text.length + 1 - p) p 0 (List.replicate (text.length + 1) false) (-1) 1 (by omega) (Nat.zero_le _) hp
  simpa [lastAt, fromAll] using this
theorem findAt_bytes_step (b text : List UInt8) (f p : Nat) (hp : p ≤ text.length) : findAt (bytesM b) text (f + 1) p = if b <+: text.drop p then some (p, ((p + b.length : Nat) : Int)) else findAt (bytesM b) text f (p + 1) := by
  rw [findAt, lastAt_bytes b text p hp]
  by_cases h : b <+: text.drop p
  · rw [if_pos h, if_pos h, if_pos (by omega)]
  · rw [if_neg h, if_neg h, if_neg (by omega)]
theorem findAt_bytes_end (b text : List UInt8) : ∀ (f p : Nat), f + p = text.length + 1 → text.length < p + b.length → findAt (bytesM b) text f p = none := by
  intro f
  induction f with
  | zero => intros; rfl
  | succ f ih =>
    intro p h1 h2
    rw [findAt_bytes_step b text f p (by omega), if_neg, ih (p + 1) (by omega) (by omega)]
    intro h
    have := h.length_le
    simp at this
    omega
theorem prefix_iff (b text : List UInt8) (p : Nat) : b <+: text.drop p ↔ (text.take (p + b.length)).drop p = b := by
  rw [List.drop_take, List.prefix_iff_eq_take, Nat.add_sub_cancel_left]
  exact ⟨fun h => h.symm, fun h => h.symm⟩
end Go.Proofs.Ytfbaaccnnogajaa
