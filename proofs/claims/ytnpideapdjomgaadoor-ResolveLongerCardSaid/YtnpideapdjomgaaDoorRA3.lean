/- Texts that lead to the claim, one behind the other: Trees of regexes in lists: which lists are trees; what a tree weighs. Plain. | Of trees in lists: what grows. Plain. No conditions. -/
import Init
namespace Go.Proofs.YtnpideapdjomgaaDoor

/-- A node of a regex. -/
structure Nd where
  op : Int
  c0 : Int
  c1 : Int
  c2 : Int
  c3 : Int
  n : Int
  mn : Int
  mx : Int
  kids : Int
  deriving DecidableEq, Inhabited

namespace Syn
def set0 (a : Nd) : Bool := a.c0 == 0 && a.c1 == 0 && a.c2 == 0 && a.c3 == 0
def reps (a : Nd) : Bool := decide (0 ≤ a.mn) && decide (a.mn ≤ 255) && (a.mx == -1 || (decide (a.mn ≤ a.mx) && decide (a.mx ≤ 255)))
/-- Just what its kind names. -/
def fields (a : Nd) : Bool :=
  if a.op == 1 then a.n == 0 && a.mn == 0 && a.mx == 0
  else if a.op == 7 || a.op == 8 then set0 a && a.mn == 0 && a.mx == 0
  else if a.op == 6 then reps a && set0 a && a.n == 0
  else if a.op == 2 || a.op == 3 || a.op == 4 || a.op == 5 then set0 a && a.n == 0 && a.mn == 0 && a.mx == 0
  else false
def count (a : Nd) : Bool :=
  if a.op == 6 || a.op == 7 then a.kids == 1 else if a.op == 5 then decide (2 ≤ a.kids) else if a.op == 4 then a.kids == 0 || decide (2 ≤ a.kids) else a.kids == 0
def okN (a : Nd) : Bool := fields a && count a
def refOk (a : Nd) (e : List Bool) : Bool := a.op != 8 || (decide (1 ≤ a.n) && decide (a.n ≤ (e.length : Int)) && e.getD (a.n.toNat - 1) false)
def grpOk (a : Nd) (e : List Bool) (g : Nat) : Bool := a.op != 7 || (a.n == (e.length : Int) + 1 && decide (a.n ≤ 255) && g != 64)

def iterO {σ : Type} (g : σ → Option σ) : Nat → σ → Option σ
  | 0, s => some s
  | n + 1, s => match g s with | none => none | some s' => iterO g n s'
theorem iterO_snoc {σ : Type} (g : σ → Option σ) : ∀ n s, iterO g (n + 1) s = match iterO g n s with | none => none | some s' => g s' := by
  intro n
  induction n with
  | zero => intro s; show (match g s with | none => none | some s' => some s') = g s; cases g s <;> rfl
  | succ n ih =>
    intro s
    rw [iterO]
    cases h : g s with
    | none => simp only [iterO, h]
    | some s' => simp only [ih s']; simp only [iterO, h]
theorem iterO_none {σ : Type} (g : σ → Option σ) (n : Nat) (s : σ) (h : iterO g n s = none) : ∀ m, n ≤ m → iterO g m s = none := by
  intro m
  induction m with
  | zero => intro hm; have : n = 0 := by omega
            subst this; exact h
  | succ m ih =>
    intro hm
    rcases Nat.lt_or_ge m n with hl | hl
    · have : n = m + 1 := by omega
      rw [← this]; exact h
    · rw [iterO_snoc, ih hl]

def deeper (a : Nd) (g : Nat) : Nat := if a.op == 7 then g + 1 else g
def opened (a : Nd) (e : List Bool) : List Bool := if a.op == 7 then e ++ [false] else e
def ended (a : Nd) (e : List Bool) : List Bool := if a.op == 7 then e.set (a.n.toNat - 1) true else e
/-- The node at a place, with all in it: the place behind it, which groups have ended. -/
def nodeF (re : List Nd) : Nat → Nat → Nat × List Bool → Option (Nat × List Bool)
  | 0, _, _ => none
  | f + 1, g, s => match re[s.1]? with
    | none => none
    | some a => if okN a && refOk a s.2 && grpOk a s.2 g then
        (match iterO (nodeF re f (deeper a g)) a.kids.toNat (s.1 + 1, opened a s.2) with | none => none | some t => some (t.1, ended a t.2)) else none
def times (a : Nd) : Nat := if a.op == 6 then (if decide (a.mx < 0) then a.mn.toNat + 1 else max a.mx.toNat 1) else 1
def addW (s : Nat × Nat) (w : Nat × Nat) : Nat × Nat := (min (s.1 + w.1) 16385, w.2)
/-- What the node at a place weighs, and the place behind it. -/
def weighF (re : List Nd) : Nat → Nat → Option (Nat × Nat)
  | 0, _ => none
  | f + 1, i => match re[i]? with
    | none => none
    | some a => match iterO (fun s => match weighF re f s.2 with | none => none | some w => some (addW s w)) a.kids.toNat (0, i + 1) with
      | none => none
      | some t => some (min (times a * t.1 + 1) 16385, t.2)
def shaped (re : List Nd) : Bool := match nodeF re 260 0 (0, []) with
  | none => false
  | some t => t.1 == re.length && (match weighF re 260 0 with | none => false | some w => decide (w.1 ≤ 16384))
def groupsIn (re : List Nd) : Nat := (re.filter (·.op == 7)).length
def groups (re : List Nd) : Nat := if shaped re then groupsIn re else 0

theorem node_weigh (re : List Nd) : ∀ f g s t, nodeF re f g s = some t → ∃ w, weighF re f s.1 = some (w, t.1) := by
  intro f
  induction f with
  | zero => intro g s t h; cases h
  | succ f ih =>
    intro g s t h
    rw [nodeF] at h
    rw [weighF]
    cases ha : re[s.1]? with
    | none => rw [ha] at h; cases h
    | some a =>
      rw [ha] at h
      simp only at h ⊢
      split at h
      case isFalse => cases h
      have key : ∀ n u v (k : Nat), iterO (nodeF re f (deeper a g)) n u = some v → ∃ w, iterO (fun s => match weighF re f s.2 with | none => none | some w => some (addW s w)) n (k, u.1) = some (w, v.1) := by
        intro n
        induction n with
        | zero => intro u v k h; injection h with h; subst h; exact ⟨k, rfl⟩
        | succ n ihn =>
          intro u v k h
          rw [iterO] at h
          cases hu : nodeF re f (deeper a g) u with
          | none => rw [hu] at h; cases h
          | some u' =>
            rw [hu] at h
            obtain ⟨w, hw⟩ := ih _ _ _ hu
            rw [iterO]
            simp only [hw]
            exact ihn _ _ _ h
      cases hv : iterO (nodeF re f (deeper a g)) a.kids.toNat (s.1 + 1, opened a s.2) with
      | none => rw [hv] at h; cases h
      | some v =>
        rw [hv] at h
        injection h with h
        subst h
        obtain ⟨w, hw⟩ := key _ _ _ 0 hv
        simp only at hw
        simp only [hw]
        exact ⟨_, rfl⟩
theorem node_le (re : List Nd) : ∀ f g s t, nodeF re f g s = some t → s.1 < t.1 ∧ t.1 ≤ re.length := by
  intro f
  induction f with
  | zero => intro g s t h; cases h
  | succ f ih =>
    intro g s t h
    rw [nodeF] at h
    cases ha : re[s.1]? with
    | none => rw [ha] at h; cases h
    | some a =>
      rw [ha] at h
      have hl : s.1 < re.length := by
        rcases Nat.lt_or_ge s.1 re.length with h | h
        · exact h
        · rw [List.getElem?_eq_none h] at ha; cases ha
      simp only at h
      split at h
      case isFalse => cases h
      have key : ∀ n u v, u.1 ≤ re.length → iterO (nodeF re f (deeper a g)) n u = some v → u.1 ≤ v.1 ∧ v.1 ≤ re.length := by
        intro n
        induction n with
        | zero => intro u v hu h; injection h with h; subst h; exact ⟨Nat.le_refl _, hu⟩
        | succ n ihn =>
          intro u v hu h
          rw [iterO] at h
          cases hu' : nodeF re f (deeper a g) u with
          | none => rw [hu'] at h; cases h
          | some u' =>
            rw [hu'] at h
            obtain ⟨a1, a2⟩ := ih _ _ _ hu'
            obtain ⟨b1, b2⟩ := ihn _ _ a2 h
            omega
      cases hv : iterO (nodeF re f (deeper a g)) a.kids.toNat (s.1 + 1, opened a s.2) with
      | none => rw [hv] at h; cases h
      | some v =>
        rw [hv] at h
        injection h with h
        subst h
        have := key _ _ _ (by simp only; omega) hv
        simp only at this ⊢
        omega
end Syn
end Go.Proofs.YtnpideapdjomgaaDoor
namespace Go.Proofs.YtnpideapdjomgaaDoor
namespace Syn
theorem opened_len (a : Nd) (e : List Bool) : e.length ≤ (opened a e).length := by unfold opened; split <;> simp
theorem ended_len (a : Nd) (e : List Bool) : (ended a e).length = e.length := by unfold ended; split <;> simp
theorem iterO_le {σ : Type} (g : σ → Option σ) (m : σ → Nat) (h : ∀ s t, g s = some t → m s ≤ m t) : ∀ n s t, iterO g n s = some t → m s ≤ m t := by
  intro n
  induction n with
  | zero => intro s t e; injection e with e; subst e; exact Nat.le_refl _
  | succ n ih =>
    intro s t e
    rw [iterO] at e
    cases hs : g s with
    | none => rw [hs] at e; cases e
    | some s' => rw [hs] at e; exact Nat.le_trans (h _ _ hs) (ih _ _ e)
theorem node_len (re : List Nd) : ∀ f g s t, nodeF re f g s = some t → s.2.length ≤ t.2.length := by
  intro f
  induction f with
  | zero => intro g s t h; cases h
  | succ f ih =>
    intro g s t h
    rw [nodeF] at h
    cases ha : re[s.1]? with
    | none => rw [ha] at h; cases h
    | some a =>
      rw [ha] at h
      simp only at h
      split at h
      case isFalse => cases h
      cases hv : iterO (nodeF re f (deeper a g)) a.kids.toNat (s.1 + 1, opened a s.2) with
      | none => rw [hv] at h; cases h
      | some v =>
        rw [hv] at h
        injection h with h
        subst h
        simp only [ended_len]
        exact Nat.le_trans (opened_len a s.2) (iterO_le _ (fun s => s.2.length) (fun s t => ih _ s t) _ _ _ hv)
theorem okN_kids {a : Nd} (h : okN a = true) : 0 ≤ a.kids := by
  unfold okN count at h
  simp only [Bool.and_eq_true] at h
  obtain ⟨_, h⟩ := h
  split at h
  · have : a.kids = 1 := by simpa using h
    omega
  split at h
  · have : 2 ≤ a.kids := by simpa using h
    omega
  split at h
  · have : a.kids = 0 ∨ 2 ≤ a.kids := by simpa using h
    omega
  · have : a.kids = 0 := by simpa using h
    omega
end Syn
end Go.Proofs.YtnpideapdjomgaaDoor
