/- Words of a script: what the calls compute, without memory. No program in sight. No conditions. -/
namespace Go.Proofs.YtooempbgpfhdcaaDoor.Words

/-! ### Numbers -/
def isDig (c : UInt8) : Bool := 48 ≤ c.toNat && c.toNat ≤ 57
def numStep (most : Int) (s : Int × Bool) (c : UInt8) : Int × Bool := if most < (c.toNat : Int) - 48 ∨ (most - ((c.toNat : Int) - 48)) / 10 < s.1 then (s.1, true) else (10 * s.1 + ((c.toNat : Int) - 48), s.2)
/-- The digits ahead. -/
def digs : List UInt8 → List UInt8
  | [] => []
  | c :: r => if isDig c then c :: digs r else []
theorem digs_len : ∀ l, (digs l).length ≤ l.length
  | [] => by simp [digs]
  | c :: r => by
    unfold digs
    split
    · have := digs_len r; simp; omega
    · simp
/-- The value of digits behind a value. -/
def val (v : Int) (l : List UInt8) : Int := l.foldl (fun v c => 10 * v + ((c.toNat : Int) - 48)) v
def numGo (most : Int) (s : Int × Bool) (l : List UInt8) : Int × Bool := l.foldl (numStep most) s
theorem num_high (most v : Int) : ∀ l : List UInt8, (numGo most (v, true) l).2 = true := by
  intro l
  induction l generalizing v with
  | nil => rfl
  | cons c r ih =>
    show (numGo most (numStep most (v, true) c) r).2 = true
    unfold numStep
    split <;> exact ih _
theorem val_ge : ∀ (l : List UInt8) (v : Int), (∀ c ∈ l, isDig c = true) → 0 ≤ v → v ≤ val v l
  | [], v, _, _ => Int.le_refl _
  | c :: r, v, h, hv => by
    have hc := h c (by simp)
    simp only [isDig, Bool.and_eq_true, decide_eq_true_eq] at hc
    have := val_ge r (10 * v + ((c.toNat : Int) - 48)) (fun x hx => h x (by simp [hx])) (by omega)
    show v ≤ val (10 * v + ((c.toNat : Int) - 48)) r
    omega
theorem num_val (most : Int) : ∀ (l : List UInt8) (v : Int), (∀ c ∈ l, isDig c = true) → 0 ≤ v → v ≤ most → (val v l ≤ most → numGo most (v, false) l = (val v l, false)) ∧ (most < val v l → (numGo most (v, false) l).2 = true)
  | [], v, _, _, hm => ⟨fun _ => rfl, fun h => by have h' : most < v := h; omega⟩
  | c :: r, v, h, hv, hm => by
    have hc := h c (by simp)
    have hr : ∀ x ∈ r, isDig x = true := fun x hx => h x (by simp [hx])
    simp only [isDig, Bool.and_eq_true, decide_eq_true_eq] at hc
    have e : val v (c :: r) = val (10 * v + ((c.toNat : Int) - 48)) r := rfl
    have e2 : numGo most (v, false) (c :: r) = numGo most (numStep most (v, false) c) r := rfl
    have hge := val_ge r (10 * v + ((c.toNat : Int) - 48)) hr (by omega)
    rw [e, e2]
    by_cases hb : 10 * v + ((c.toNat : Int) - 48) ≤ most
    · have hs : numStep most (v, false) c = (10 * v + ((c.toNat : Int) - 48), false) := by unfold numStep; rw [if_neg (by simp only; omega)]
      rw [hs]
      exact num_val most r _ hr (by omega) hb
    · have hs : numStep most (v, false) c = (v, true) := by unfold numStep; rw [if_pos (by simp only; omega)]
      rw [hs]
      exact ⟨fun h => by omega, fun _ => num_high most v r⟩
/-- What Number answers: the number, the error, how much further. -/
def number (most : Int) (l : List UInt8) : Int × Nat × Nat :=
  if (digs l).length = 0 ∨ (numGo most (0, false) (digs l)).2 = true then (0, 71, 0) else ((numGo most (0, false) (digs l)).1, 0, (digs l).length)
theorem digs_append : ∀ (l m : List UInt8), (∀ c ∈ l, isDig c = true) → (∀ c r, m = c :: r → isDig c = false) → digs (l ++ m) = l
  | [], [], _, _ => rfl
  | [], c :: r, _, h => by
    show (if isDig c then c :: digs r else []) = []
    rw [h c r rfl]
    rfl
  | c :: r, m, h, hm => by
    show (if isDig c then c :: digs (r ++ m) else []) = c :: r
    rw [if_pos (h c (by simp)), digs_append r m (fun x hx => h x (by simp [hx])) hm]
theorem number_of (most : Int) (l m : List UInt8) (h : ∀ c ∈ l, isDig c = true) (hm : ∀ c r, m = c :: r → isDig c = false) (h0 : l ≠ []) (hmost : 0 ≤ most) :
    number most (l ++ m) = if most < val 0 l then (0, 71, 0) else (val 0 l, 0, l.length) := by
  have hl : ¬ l.length = 0 := fun e => h0 (List.length_eq_zero_iff.1 e)
  have hv := num_val most l 0 h (Int.le_refl _) hmost
  unfold number
  rw [digs_append l m h hm]
  split
  · rename_i hc
    rcases hc with hc | hc
    · exact absurd hc hl
    · split
      · rfl
      · rename_i hn
        have := hv.1 (by omega)
        rw [this] at hc
        cases hc
  · rename_i hc
    simp only [not_or] at hc
    split
    · rename_i hn
      exact absurd (hv.2 hn) hc.2
    · rename_i hn
      rw [hv.1 (by omega)]
theorem val_snoc (v : Int) (c : UInt8) (l : List UInt8) : val v (c :: l) = val (10 * v + ((c.toNat : Int) - 48)) l := rfl
theorem val_zeros (k : Nat) (l : List UInt8) : val 0 (List.replicate k 48 ++ l) = val 0 l := by
  induction k with
  | zero => rfl
  | succ k ih =>
    rw [List.replicate_succ, List.cons_append, val_snoc]
    exact ih
/-! ### Parts -/
abbrev Mk := UInt8 × Bool
/-- The marks up to the delimiter, and what is behind it. -/
def part (d : UInt8) (ends : Bool) : List UInt8 → Option (List Mk × List UInt8)
  | [] => none
  | c :: r => if c = d then some ([], r) else if c = 10 then none else if c = 92 then
      match r with
      | [] => none
      | e :: r' => if e = 10 ∧ ends = false then none else (part d ends r').map fun x => ((if e = d then [(d, true)] else [(92, false), (e, false)]) ++ x.1, x.2)
    else (part d ends r).map fun x => ((c, false) :: x.1, x.2)
def writ : List Mk → List UInt8
  | [] => []
  | m :: r => (if m.2 then [92, m.1] else [m.1]) ++ writ r
def right (d : UInt8) (ends : Bool) : List Mk → Bool
  | [] => true
  | x :: r => if x.2 then x.1 == d && right d ends r else if x.1 = d ∨ x.1 = 10 then false else if x.1 = 92 then
      match r with
      | [] => false
      | y :: r' => if y.2 = true ∨ y.1 = d ∨ (y.1 = 10 ∧ ends = false) then false else right d ends r'
    else right d ends r
theorem part_cons (d : UInt8) (ends : Bool) (c : UInt8) (r : List UInt8) : part d ends (c :: r) = if c = d then some ([], r) else if c = 10 then none else if c = 92 then
      match r with
      | [] => none
      | e :: r' => if e = 10 ∧ ends = false then none else (part d ends r').map fun x => ((if e = d then [(d, true)] else [(92, false), (e, false)]) ++ x.1, x.2)
    else (part d ends r).map fun x => ((c, false) :: x.1, x.2) := by
  rw [part.eq_def]
theorem right_cons (d : UInt8) (ends : Bool) (x : Mk) (r : List Mk) : right d ends (x :: r) = if x.2 then x.1 == d && right d ends r else if x.1 = d ∨ x.1 = 10 then false else if x.1 = 92 then
      match r with
      | [] => false
      | y :: r' => if y.2 = true ∨ y.1 = d ∨ (y.1 = 10 ∧ ends = false) then false else right d ends r'
    else right d ends r := by
  rw [right.eq_def]
theorem part_of (d : UInt8) (ends : Bool) (h1 : d ≠ 92) (h2 : d ≠ 10) (t : List UInt8) : ∀ (k : Nat) (l : List Mk), l.length ≤ k → right d ends l = true → part d ends (writ l ++ d :: t) = some (l, t)
  | _, [], _, _ => by show part d ends (d :: t) = _; rw [part_cons, if_pos rfl]
  | 0, x :: r, h, _ => absurd h (by simp)
  | k + 1, (b, p) :: r, h, hr => by
    have hk : r.length ≤ k := by simpa using h
    cases p with
    | true =>
      rw [right_cons] at hr
      simp only [if_true, Bool.and_eq_true, beq_iff_eq] at hr
      obtain ⟨rfl, hr⟩ := hr
      have ih := part_of b ends h1 h2 t k r hk hr
      simp only [writ, if_true, List.cons_append, List.nil_append]
      rw [part_cons, if_neg (Ne.symm h1), if_neg (by decide), if_pos rfl]
      simp only
      rw [if_neg (by rintro ⟨h, -⟩; exact h2 h), ih]
      simp
    | false =>
      rw [right_cons] at hr
      simp only [Bool.false_eq_true, if_false] at hr
      split at hr
      · cases hr
      · rename_i hb
        simp only [not_or] at hb
        split at hr
        · rename_i h92
          subst h92
          cases r with
          | nil => cases hr
          | cons y r' =>
            simp only at hr
            split at hr
            · cases hr
            · rename_i hy
              simp only [not_or] at hy
              obtain ⟨hy1, hy2, hy3⟩ := hy
              obtain ⟨y1, y2⟩ := y
              obtain rfl : y2 = false := by simpa using hy1
              have ih := part_of d ends h1 h2 t k r' (by simp at hk; omega) hr
              simp only [writ, Bool.false_eq_true, if_false, List.cons_append, List.nil_append]
              rw [part_cons, if_neg hb.1, if_neg hb.2, if_pos rfl]
              simp only
              rw [if_neg hy3, ih]
              simp only [Option.map_some]
              rw [if_neg hy2]
              rfl
        · rename_i h92
          have ih := part_of d ends h1 h2 t k r hk hr
          simp only [writ, Bool.false_eq_true, if_false, List.cons_append, List.nil_append]
          rw [part_cons, if_neg hb.1, if_neg hb.2, if_neg h92, ih]
          rfl
theorem of_part (d : UInt8) (ends : Bool) : ∀ (k : Nat) (s : List UInt8) (l : List Mk) (t : List UInt8), s.length ≤ k → part d ends s = some (l, t) → right d ends l = true ∧ s = writ l ++ d :: t
  | _, [], l, t, _, h => by rw [part.eq_def] at h; cases h
  | 0, c :: r, l, t, hk, _ => absurd hk (by simp)
  | k + 1, c :: r, l, t, hk, h => by
    have hk' : r.length ≤ k := by simpa using hk
    rw [part_cons] at h
    split at h
    · rename_i hc
      subst hc
      simp only [Option.some.injEq, Prod.mk.injEq] at h
      obtain ⟨rfl, rfl⟩ := h
      exact ⟨rfl, rfl⟩
    · rename_i hd
      split at h
      · cases h
      · rename_i h10
        split at h
        · rename_i h92
          subst h92
          cases r with
          | nil => cases h
          | cons e r' =>
            simp only at h
            split at h
            · cases h
            · rename_i he
              cases hp : part d ends r' with
              | none => rw [hp] at h; cases h
              | some x =>
                rw [hp] at h
                obtain ⟨m, t'⟩ := x
                have ih := of_part d ends k r' m t' (by simp at hk'; omega) hp
                simp only [Option.map_some, Option.some.injEq, Prod.mk.injEq] at h
                obtain ⟨rfl, rfl⟩ := h
                by_cases hed : e = d
                · subst hed
                  rw [if_pos rfl]
                  exact ⟨by rw [List.singleton_append, right_cons]; simp [ih.1], by rw [ih.2]; simp [writ]⟩
                · rw [if_neg hed]
                  refine ⟨?_, by rw [ih.2]; simp [writ]⟩
                  rw [List.cons_append, right_cons]
                  simp only [List.cons_append, List.nil_append, Bool.false_eq_true, if_false]
                  rw [if_neg (by simp only [not_or]; exact ⟨hd, h10⟩), if_pos trivial, if_neg (by simp only [not_or]; exact ⟨fun h => h, hed, he⟩)]
                  exact ih.1
        · rename_i h92
          cases hp : part d ends r with
          | none => rw [hp] at h; cases h
          | some x =>
            rw [hp] at h
            obtain ⟨m, t'⟩ := x
            have ih := of_part d ends k r m t' hk' hp
            simp only [Option.map_some, Option.some.injEq, Prod.mk.injEq] at h
            obtain ⟨rfl, rfl⟩ := h
            refine ⟨?_, by rw [ih.2]; simp [writ]⟩
            rw [right_cons]
            simp only [Bool.false_eq_true, if_false]
            rw [if_neg (by simp only [not_or]; exact ⟨hd, h10⟩), if_neg h92]
            exact ih.1
end Go.Proofs.YtooempbgpfhdcaaDoor.Words
