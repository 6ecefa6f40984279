/- What a search reckons, in lists: which ends there are, the last one, that the count of steps is a count alone. Plain. -/
import Derived.Test.YtfbaaccnnogajaaFind
namespace Go.Proofs.Ytfbaaccnnogajaa

theorem fromGo_indep (M : List Instr) (text : List UInt8) : ∀ (f p : Nat) (l : List Nat) (ends : List Bool) (last : Int) (s s' : Nat), (fromGo M text f p l ends last s).1 = (fromGo M text f p l ends last s').1 ∧ (fromGo M text f p l ends last s).2.1 = (fromGo M text f p l ends last s').2.1 := by
  intro f
  induction f with
  | zero => intros; exact ⟨rfl, rfl⟩
  | succ f ih =>
    intro p l ends last s s'
    rw [fromGo, fromGo]
    split
    · exact ⟨rfl, rfl⟩
    · simp only
      split
      · exact ⟨rfl, rfl⟩
      · exact ih _ _ _ _ _ _
/-- The ends of a place, and the last of them. -/
def endsAt (M : List Instr) (text : List UInt8) (p : Nat) : List Bool := (fromAll M text p 0).1
def lastAt (M : List Instr) (text : List UInt8) (p : Nat) : Int := (fromAll M text p 0).2.1
theorem fromAll_fst (M : List Instr) (text : List UInt8) (p s : Nat) : (fromAll M text p s).1 = endsAt M text p := (fromGo_indep M text _ _ _ _ _ _ _).1
theorem fromAll_last (M : List Instr) (text : List UInt8) (p s : Nat) : (fromAll M text p s).2.1 = lastAt M text p := (fromGo_indep M text _ _ _ _ _ _ _).2
theorem endsAt_len (M : List Instr) (text : List UInt8) (p : Nat) : (endsAt M text p).length = text.length + 1 := fromAll_len M text p 0

/-- The last true place below t; -1: none. -/
def lastIdx (E : List Bool) : Nat → Int
  | 0 => -1
  | t + 1 => if E.getD t false then (t : Int) else lastIdx E t
theorem lastIdx_set_lt (E : List Bool) (p : Nat) (b : Bool) : ∀ t, t ≤ p → lastIdx (E.set p b) t = lastIdx E t := by
  intro t
  induction t with
  | zero => intro _; rfl
  | succ t ih =>
    intro h
    rw [lastIdx, lastIdx, ih (by omega)]
    simp only [List.getD_eq_getElem?_getD]
    rw [List.getElem?_set_ne (by omega)]
theorem lastIdx_none (E : List Bool) (p : Nat) (h : ∀ t, p ≤ t → E.getD t false = false) : ∀ t, p ≤ t → lastIdx E t = lastIdx E p := by
  intro t
  induction t with
  | zero => intro h0; have : p = 0 := by omega
            rw [this]
  | succ t ih =>
    intro hp
    rcases Nat.lt_or_ge p (t + 1) with hl | hl
    · rw [lastIdx, h t (by omega), if_neg (by simp), ih (by omega)]
    · have : p = t + 1 := by omega
      rw [this]
theorem fromGo_plain (M : List Instr) (text : List UInt8) : ∀ (f p : Nat) (l : List Nat) (ends : List Bool) (last : Int) (s : Nat), f + p = text.length + 1 → ends.length = text.length + 1 → (∀ t, p ≤ t → ends.getD t false = false) → last = lastIdx ends (text.length + 1) →
    (fromGo M text f p l ends last s).2.1 = lastIdx (fromGo M text f p l ends last s).1 (text.length + 1) ∧ ∀ t, t < p → (fromGo M text f p l ends last s).1.getD t false = ends.getD t false := by
  intro f
  induction f with
  | zero => intro p l ends last s _ _ _ h; exact ⟨h, fun _ _ => rfl⟩
  | succ f ih =>
    intro p l ends last s hf hl hz hlast
    rw [fromGo]
    split
    · exact ⟨hlast, fun _ _ => rfl⟩
    · simp only
      obtain ⟨ends', hE⟩ : ∃ ends', ends' = (if (close M text.length p l).any (isDone M) then ends.set p true else ends) := ⟨_, rfl⟩
      obtain ⟨last', hL⟩ : ∃ last', last' = (if (close M text.length p l).any (isDone M) then (p : Int) else last) := ⟨_, rfl⟩
      rw [← hE, ← hL]
      have hz' : ∀ t, p + 1 ≤ t → ends'.getD t false = false := by
        intro t ht
        rw [hE]
        split
        · rw [List.getD_eq_getElem?_getD, List.getElem?_set_ne (by omega), ← List.getD_eq_getElem?_getD]; exact hz t (by omega)
        · exact hz t (by omega)
      have hlt : ∀ t, t < p → ends'.getD t false = ends.getD t false := by
        intro t ht
        rw [hE]
        split
        · rw [List.getD_eq_getElem?_getD, List.getElem?_set_ne (by omega), ← List.getD_eq_getElem?_getD]
        · rfl
      have hl' : ends'.length = text.length + 1 := by rw [hE]; split <;> simp [hl]
      have hlast' : last' = lastIdx ends' (text.length + 1) := by
        rw [lastIdx_none ends' (p + 1) hz' _ (by omega), lastIdx, hL, hE]
        split
        · rw [List.getD_eq_getElem?_getD, List.getElem?_set_self (by omega)]; simp
        · rw [hz p (Nat.le_refl _), if_neg (by simp), hlast, lastIdx_none ends p hz _ (by omega)]
      cases htx : text[p]? with
      | none => exact ⟨hlast', hlt⟩
      | some b =>
        obtain ⟨h1, h2⟩ := ih (p + 1) (wayGo M b (close M text.length p l)) ends' last' (s + ((close M text.length p l).length - l.length) + (wayGo M b (close M text.length p l)).length) (by omega) hl' hz' hlast'
        exact ⟨h1, fun t ht => (h2 t (by omega)).trans (hlt t ht)⟩
theorem endsAt_plain (M : List Instr) (text : List UInt8) (p : Nat) (hp : p ≤ text.length) : lastAt M text p = lastIdx (endsAt M text p) (text.length + 1) ∧ ∀ t, t < p → (endsAt M text p).getD t false = false := by
  have hz : ∀ t, (List.replicate (text.length + 1) false).getD t false = false := by
    intro t
    rw [List.getD_eq_getElem?_getD, List.getElem?_replicate]
    split <;> rfl
  obtain ⟨h1, h2⟩ := fromGo_plain M text (text.length + 1 - p) p [0] (List.replicate (text.length + 1) false) (-1) 1 (by omega) (by simp) (fun t _ => hz t) (by
    rw [lastIdx_none _ 0 (fun t _ => hz t) _ (Nat.zero_le _)]; rfl)
  exact ⟨h1, fun t ht => (h2 t ht).trans (hz t)⟩
/-- What Find answers: from a place on. -/
def findAt (M : List Instr) (text : List UInt8) : Nat → Nat → Option (Nat × Int)
  | 0, _ => none
  | f + 1, p => if 0 ≤ lastAt M text p then some (p, lastAt M text p) else findAt M text f (p + 1)
theorem findGo_fst (M : List Instr) (text : List UInt8) : ∀ (f p s : Nat), (findGo M text f p s).1 = findAt M text f p := by
  intro f
  induction f with
  | zero => intros; rfl
  | succ f ih =>
    intro p s
    rw [findGo, findAt, fromAll_last]
    split
    · rfl
    · exact ih _ _
theorem findAll_fst (M : List Instr) (text : List UInt8) (p : Nat) : (findAll M text p).1 = findAt M text (text.length + 1 - p) p := findGo_fst M text _ _ _
end Go.Proofs.Ytfbaaccnnogajaa
