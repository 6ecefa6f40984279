/- Texts that lead to the claim, one behind the other: What resolving commands reckons, in lists: labels, open blocks, files; what follows of it. Plain. | What follows of resolving: where each block leads, labels, files: in lists. Plain. | What follows of resolving, told of what is resolved: ResolveBlocks' plain law. Plain. | Resolving step by step, in lists; a command's sign. Plain. No conditions. -/
import Derived.Lib.Hide
namespace Go.Proofs.YtnpideapdjomgaaDoor
namespace Res

/-- What resolving looks at of a command. -/
structure RC where
  name : UInt8
  text : List UInt8
  write : Bool
  shaped : Bool
  deriving Inhabited

def RC.writes (c : RC) : Bool := c.name == 119 || (c.name == 115 && c.write)
def RC.leaps (c : RC) : Bool := c.name == 98 || c.name == 116
def tempB : List UInt8 := [46, 103, 97, 108, 108, 101, 121, 45]
def RC.temp (c : RC) : Bool := (c.name == 114 || c.writes) && tempB.isPrefixOf c.text

structure St where
  to : List Int
  labels : List (List UInt8 × Nat)
  opn : List Nat
  files : List (List UInt8)

def St.known (s : St) (t : List UInt8) : Bool := s.labels.any (·.1 == t)
def St.put (s : St) (i : Nat) (v : Int) : St := { s with to := s.to.set i v }
def St.file (s : St) (c : RC) : St := if c.writes && !s.files.contains c.text then { s with files := s.files ++ [c.text] } else s
/-- One command, behind its test. -/
def St.block (s : St) (i : Nat) (c : RC) : Except Int St :=
  if c.name == 123 then (if s.opn.length == 64 then .error 76 else .ok { s with opn := s.opn ++ [i] })
  else if c.name == 125 then (if s.opn.length == 0 then .error 76 else .ok { s with to := s.to.set (s.opn.getLastD 0) (i + 1), opn := s.opn.dropLast })
  else if c.name == 58 then (if s.known c.text then .error 75 else .ok { s with labels := s.labels ++ [(c.text, i + 1)] })
  else .ok s
def refuse (i : Nat) (c : RC) : Int := if decide (4096 ≤ i) then 2 else if !c.shaped then 72 else if c.temp then 77 else 0
def St.step (s : St) (i : Nat) (c : RC) : Except Int St :=
  if refuse i c == 0 then (match (s.put i (-1)).block i c with | .error e => .error e | .ok s' => .ok (s'.file c)) else .error (refuse i c)
def run : List RC → Nat → St → Except (Int × Nat) St
  | [], _, s => .ok s
  | c :: l, i, s => match s.step i c with | .error e => .error (e, i) | .ok s' => run l (i + 1) s'
def St.find (s : St) (t : List UInt8) : Option Nat := (s.labels.find? (·.1 == t)).map (·.2)
def link (N : Nat) (s : St) : List RC → Nat → List Int → Except (Int × Nat) (List Int)
  | [], _, to => .ok to
  | c :: l, i, to =>
    if c.leaps then
      (if c.text.isEmpty then link N s l (i + 1) (to.set i N)
       else match s.find c.text with | none => .error (75, i) | some k => link N s l (i + 1) (to.set i k))
    else link N s l (i + 1) to
def start (n : Nat) : St := ⟨List.replicate n 0, [], [], []⟩
/-- What is resolved: where each goes, the files; or the fault and its command. -/
def resolve (l : List RC) : Except (Int × Nat) (List Int × List (List UInt8)) :=
  match run l 0 (start l.length) with
  | .error e => .error e
  | .ok s => if s.opn.length == 0 then (match link l.length s l 0 s.to with | .error e => .error e | .ok to => .ok (to, s.files)) else .error (76, s.opn.getD 0 0)

theorem run_append : ∀ (a b : List RC) (i : Nat) (s : St), run (a ++ b) i s = (match run a i s with | .error e => .error e | .ok s' => run b (i + a.length) s') := by
  intro a
  induction a with
  | nil => intro b i s; rfl
  | cons c a ih =>
    intro b i s
    show run (c :: (a ++ b)) i s = _
    rw [run, run]
    cases s.step i c with
    | error e => rfl
    | ok s' => simp only; rw [ih, List.length_cons]; cases run a (i + 1) s' <;> simp only <;> congr 1 <;> omega
theorem run_snoc {a : List RC} {c : RC} {i : Nat} {s s' : St} (h : run a i s = .ok s') : run (a ++ [c]) i s = (match s'.step (i + a.length) c with | .error e => .error (e, i + a.length) | .ok s'' => .ok s'') := by
  rw [run_append, h]
  simp only [run]
theorem take_succ' {l : List RC} {i : Nat} (h : i < l.length) : l.take (i + 1) = l.take i ++ [l[i]] := by rw [List.take_add_one, List.getElem?_eq_getElem h]; rfl
theorem run_take {l : List RC} {i : Nat} {s s' : St} (hi : i < l.length) (h : run (l.take i) 0 s = .ok s') : run (l.take (i + 1)) 0 s = (match s'.step i l[i] with | .error e => .error (e, i) | .ok s'' => .ok s'') := by
  rw [take_succ' hi, run_snoc h]
  have : 0 + (l.take i).length = i := by rw [List.length_take]; omega
  rw [this]
theorem run_err {l : List RC} {i : Nat} {s : St} {e : Int × Nat} (h : run (l.take i) 0 s = .error e) : run l 0 s = .error e := by
  rw [← List.take_append_drop i l, run_append, h]
theorem run_pre {l : List RC} {i : Nat} {s s' : St} (h : run l 0 s = .ok s') : ∃ t, run (l.take i) 0 s = .ok t := by
  cases ht : run (l.take i) 0 s with
  | ok t => exact ⟨t, rfl⟩
  | error e => rw [run_err ht] at h; cases h
theorem link_append (N : Nat) (s : St) : ∀ (a b : List RC) (i : Nat) (to : List Int), link N s (a ++ b) i to = (match link N s a i to with | .error e => .error e | .ok to' => link N s b (i + a.length) to') := by
  intro a
  induction a with
  | nil => intro b i to; rfl
  | cons c a ih =>
    intro b i to
    have e : i + 1 + a.length = i + (a.length + 1) := by omega
    show link N s (c :: (a ++ b)) i to = _
    rw [link, link, List.length_cons]
    split
    · split
      · rw [ih, e]
      · split
        · rfl
        · rw [ih, e]
    · rw [ih, e]
end Res
end Go.Proofs.YtnpideapdjomgaaDoor
namespace Go.Proofs.YtnpideapdjomgaaDoor
namespace Res

def RC.opens (c : RC) : Int := if c.name == 123 then 1 else if c.name == 125 then -1 else 0
/-- How deep it is behind the first i commands. -/
def dep (l : List RC) (i : Nat) : Int := ((l.take i).map RC.opens).sum
theorem dep_succ {l : List RC} {i : Nat} (h : i < l.length) : dep l (i + 1) = dep l i + l[i].opens := by
  unfold dep
  rw [take_succ' h, List.map_append, List.sum_append]; simp
theorem dep_zero (l : List RC) : dep l 0 = 0 := by simp [dep]
theorem opens_l {c : RC} (h : c.name = 123) : c.opens = 1 := by simp [RC.opens, h]
theorem opens_r {c : RC} (h : c.name = 125) : c.opens = -1 := by simp [RC.opens, h]
theorem opens_o {c : RC} (h : c.name ≠ 123) (h' : c.name ≠ 125) : c.opens = 0 := by simp [RC.opens, h, h']

/-- A block that is closed: from j to behind m. -/
def Closed (l : List RC) (j m : Nat) : Prop := j < m ∧ ∃ h : m < l.length, l[m].name = 125 ∧ dep l (m + 1) = dep l j ∧ ∀ k, j < k → k ≤ m → dep l j < dep l k

structure Inv (l : List RC) (i : Nat) (s : St) : Prop where
  le : i ≤ l.length
  len : s.to.length = l.length
  deep : dep l i = s.opn.length
  few : s.opn.length ≤ 64
  range : ∀ k, k ≤ i → 0 ≤ dep l k ∧ dep l k ≤ 64
  opn : ∀ p, (h : p < s.opn.length) → s.opn[p] < i ∧ (∃ h' : s.opn[p] < l.length, l[s.opn[p]].name = 123) ∧ dep l s.opn[p] = p ∧ ∀ k, s.opn[p] < k → k ≤ i → (p : Int) < dep l k
  done : ∀ j, (h : j < l.length) → j < i → l[j].name = 123 → j ∈ s.opn ∨ ∃ m, m < i ∧ Closed l j m ∧ s.to[j]? = some ((m : Int) + 1)
  none : ∀ j, (h : j < l.length) → j < i → l[j].name ≠ 123 → s.to[j]? = some (-1)
  lab : ∀ t v, (t, v) ∈ s.labels ↔ ∃ j, j < i ∧ ∃ h : j < l.length, l[j].name = 58 ∧ l[j].text = t ∧ v = j + 1
  uniq : ∀ j k, j < k → k < i → (hj : j < l.length) → (hk : k < l.length) → l[j].name = 58 → l[k].name = 58 → l[j].text ≠ l[k].text

theorem start_inv (l : List RC) : Inv l 0 (start l.length) where
  le := Nat.zero_le _
  len := by simp [start]
  deep := by simp [start, dep_zero]
  few := by simp [start]
  range := by intro k hk; have : k = 0 := by omega
              subst this; rw [dep_zero]; omega
  opn := by intro p h; simp [start] at h
  done := by intro j _ h; omega
  none := by intro j _ h; omega
  lab := by intro t v; simp [start]
  uniq := by intro j k _ h; omega

theorem known_iff (s : St) (t : List UInt8) : s.known t = true ↔ ∃ v, (t, v) ∈ s.labels := by
  unfold St.known
  rw [List.any_eq_true]
  constructor
  · rintro ⟨⟨a, v⟩, hm, he⟩
    have : a = t := by simpa using he
    subst this; exact ⟨v, hm⟩
  · rintro ⟨v, hm⟩; exact ⟨(t, v), hm, by simp⟩

theorem step_inv {l : List RC} {i : Nat} {s s' : St} (hi : i < l.length) (I : Inv l i s) (h : s.step i l[i] = .ok s') : Inv l (i + 1) s' := by
  unfold St.step at h
  split at h
  case isFalse => cases h
  -- what stays when the files change
  have key : ∀ q : St, (s.put i (-1)).block i l[i] = .ok q → Inv l (i + 1) q := by
    intro q hq
    unfold St.block St.put at hq
    split at hq
    · rename_i h1
      have h1 : l[i].name = 123 := by simpa using h1
      split at hq
      · cases hq
      rename_i h2
      simp only [beq_iff_eq] at h2
      injection hq with hq
      subst hq
      have hd : dep l (i + 1) = dep l i + 1 := by rw [dep_succ hi, opens_l h1]
      refine ⟨hi, by simp [I.len], ?_, ?_, ?_, ?_, ?_, ?_, ?_, ?_⟩
      · simp only [List.length_append, List.length_singleton]; rw [hd, I.deep]; omega
      · have := I.few; simp only [List.length_append, List.length_singleton]; omega
      · intro k hk
        rcases Nat.lt_or_ge k (i + 1) with hl | hl
        · exact I.range k (by omega)
        · have : k = i + 1 := by omega
          subst this; rw [hd, I.deep]; have := I.few; omega
      · intro p hp
        simp only [List.length_append, List.length_singleton] at hp
        simp only [List.getElem_append]
        rcases Nat.lt_or_ge p s.opn.length with hl | hl
        · simp only [hl, dite_true]
          obtain ⟨a, b, c, d⟩ := I.opn p hl
          refine ⟨by omega, b, c, ?_⟩
          intro k hk hk'
          rcases Nat.lt_or_ge k (i + 1) with hx | hx
          · exact d k hk (by omega)
          · have : k = i + 1 := by omega
            subst this; rw [hd, I.deep]; omega
        · have hp' : p = s.opn.length := by omega
          simp only [show ¬ p < s.opn.length from by omega, dite_false, List.getElem_singleton]
          refine ⟨by omega, ⟨hi, h1⟩, by rw [I.deep, hp'], ?_⟩
          intro k hk hk'
          have : k = i + 1 := by omega
          subst this; rw [hd, I.deep, hp']; omega
      · intro j hj hji hn
        simp only [List.mem_append, List.mem_singleton]
        rcases Nat.lt_or_ge j i with hx | hx
        · rcases I.done j hj hx hn with hm | ⟨m, hm, hc, ht⟩
          · exact Or.inl (Or.inl hm)
          · exact Or.inr ⟨m, by omega, hc, by rw [List.getElem?_set_ne (by omega)]; exact ht⟩
        · exact Or.inl (Or.inr (by omega))
      · intro j hj hji hn
        rcases Nat.lt_or_ge j i with hx | hx
        · simp only; rw [List.getElem?_set_ne (by omega)]; exact I.none j hj hx hn
        · have : j = i := by omega
          subst this; exact absurd h1 hn
      · intro t v
        simp only
        rw [I.lab]
        constructor
        · rintro ⟨j, a, b⟩; exact ⟨j, by omega, b⟩
        · rintro ⟨j, a, b, c, d⟩
          have : j ≠ i := by rintro rfl; rw [h1] at c; exact absurd c (by decide)
          exact ⟨j, by omega, b, c, d⟩
      · intro j k hjk hk hj hk' a b
        have : k ≠ i := by rintro rfl; rw [h1] at b; exact absurd b (by decide)
        exact I.uniq j k hjk (by omega) hj hk' a b
    rename_i h1
    have h1 : l[i].name ≠ 123 := by simpa using h1
    split at hq
    · rename_i h2
      have h2 : l[i].name = 125 := by simpa using h2
      split at hq
      · cases hq
      rename_i h3
      simp only [beq_iff_eq] at h3
      injection hq with hq
      subst hq
      have hd : dep l (i + 1) = dep l i - 1 := by rw [dep_succ hi, opens_r h2]; omega
      obtain ⟨o, ho⟩ : ∃ o, o = s.opn.getLastD 0 := ⟨_, rfl⟩
      have hlast : s.opn.length - 1 < s.opn.length := by omega
      have ho' : o = s.opn[s.opn.length - 1] := by
        rw [ho, List.getLastD_eq_getLast?, List.getLast?_eq_getElem?, List.getElem?_eq_getElem hlast]; rfl
      obtain ⟨oa, ⟨ob, oc⟩, od, oe⟩ := I.opn _ hlast
      rw [← ho'] at oa ob od oe
      have oc : l[o].name = 123 := by simpa [ho'] using oc
      rw [← ho]
      refine ⟨hi, by simp [I.len], ?_, ?_, ?_, ?_, ?_, ?_, ?_, ?_⟩
      · simp only [List.length_dropLast]; rw [hd, I.deep]; omega
      · have := I.few; simp only [List.length_dropLast]; omega
      · intro k hk
        rcases Nat.lt_or_ge k (i + 1) with hl | hl
        · exact I.range k (by omega)
        · have : k = i + 1 := by omega
          subst this; rw [hd, I.deep]; have := I.few; omega
      · intro p hp
        simp only [List.length_dropLast] at hp
        simp only [List.getElem_dropLast]
        obtain ⟨a, b, c, d⟩ := I.opn p (by omega)
        refine ⟨by omega, b, c, ?_⟩
        intro k hk hk'
        rcases Nat.lt_or_ge k (i + 1) with hx | hx
        · exact d k hk (by omega)
        · have : k = i + 1 := by omega
          subst this; rw [hd, I.deep]; omega
      · intro j hj hji hn
        have hne : j ≠ i := by rintro rfl; exact h1 hn
        simp only
        rcases Nat.decEq j o with hjo | hjo
        · rcases I.done j hj (by omega) hn with hm | ⟨m, hm, hc, ht⟩
          · obtain ⟨p, hp, hpj⟩ := List.mem_iff_getElem.mp hm
            have hp' : p ≠ s.opn.length - 1 := by intro e; apply hjo; rw [ho', ← hpj]; simp [e]
            exact Or.inl (List.mem_iff_getElem.mpr ⟨p, by simp; omega, by simpa using hpj⟩)
          · refine Or.inr ⟨m, by omega, hc, ?_⟩
            rw [List.getElem?_set_ne (by omega), List.getElem?_set_ne (by omega)]; exact ht
        · subst hjo
          refine Or.inr ⟨i, by omega, ⟨oa, hi, h2, ?_, ?_⟩, ?_⟩
          · rw [hd, I.deep, od]; omega
          · intro k hk hk'; rw [od]; exact oe k hk (by omega)
          · rw [List.getElem?_set_self (by simp [I.len]; omega)]
      · intro j hj hji hn
        have hjo : j ≠ o := by rintro rfl; exact hn oc
        simp only
        rw [List.getElem?_set_ne (by omega)]
        rcases Nat.lt_or_ge j i with hx | hx
        · rw [List.getElem?_set_ne (by omega)]; exact I.none j hj hx hn
        · have : j = i := by omega
          subst this; rw [List.getElem?_set_self (by rw [I.len]; exact hi)]
      · intro t v
        simp only
        rw [I.lab]
        constructor
        · rintro ⟨j, a, b⟩; exact ⟨j, by omega, b⟩
        · rintro ⟨j, a, b, c, d⟩
          have : j ≠ i := by rintro rfl; rw [h2] at c; exact absurd c (by decide)
          exact ⟨j, by omega, b, c, d⟩
      · intro j k hjk hk hj hk' a b
        have : k ≠ i := by rintro rfl; rw [h2] at b; exact absurd b (by decide)
        exact I.uniq j k hjk (by omega) hj hk' a b
    rename_i h2
    have h2 : l[i].name ≠ 125 := by simpa using h2
    have hd : dep l (i + 1) = dep l i := by rw [dep_succ hi, opens_o h1 h2]; omega
    have common : ∀ q : St, q.to = s.to.set i (-1) → q.opn = s.opn → (∀ t v, (t, v) ∈ q.labels ↔ ∃ j, j < i + 1 ∧ ∃ h : j < l.length, l[j].name = 58 ∧ l[j].text = t ∧ v = j + 1) → (l[i].name = 58 → ∀ j, j < i → (hj : j < l.length) → l[j].name = 58 → l[j].text ≠ l[i].text) → Inv l (i + 1) q := by
      intro q e1 e2 hlab hun
      refine ⟨hi, by rw [e1]; simp [I.len], by rw [hd, e2]; exact I.deep, by rw [e2]; exact I.few, ?_, ?_, ?_, ?_, hlab, ?_⟩
      · intro k hk
        rcases Nat.lt_or_ge k (i + 1) with hl | hl
        · exact I.range k (by omega)
        · have : k = i + 1 := by omega
          subst this; rw [hd]; exact I.range i (by omega)
      · rw [e2]
        intro p hp
        obtain ⟨a, b, c, d⟩ := I.opn p hp
        refine ⟨by omega, b, c, ?_⟩
        intro k hk hk'
        rcases Nat.lt_or_ge k (i + 1) with hx | hx
        · exact d k hk (by omega)
        · have : k = i + 1 := by omega
          subst this; rw [hd]; exact d i a (by omega)
      · rw [e1, e2]
        intro j hj hji hn
        have hne : j ≠ i := by rintro rfl; exact h1 hn
        rcases I.done j hj (by omega) hn with hm | ⟨m, hm, hc, ht⟩
        · exact Or.inl hm
        · exact Or.inr ⟨m, by omega, hc, by rw [List.getElem?_set_ne (by omega)]; exact ht⟩
      · rw [e1]
        intro j hj hji hn
        rcases Nat.lt_or_ge j i with hx | hx
        · rw [List.getElem?_set_ne (by omega)]; exact I.none j hj hx hn
        · have : j = i := by omega
          subst this; rw [List.getElem?_set_self (by rw [I.len]; exact hi)]
      · intro j k hjk hk hj hk' a b
        rcases Nat.lt_or_ge k i with hx | hx
        · exact I.uniq j k hjk hx hj hk' a b
        · have : k = i := by omega
          subst this; exact hun b j hjk hj a
    split at hq
    · rename_i h3
      have h3 : l[i].name = 58 := by simpa using h3
      split at hq
      · cases hq
      rename_i h4
      injection hq with hq
      subst hq
      have h4 : ¬ ∃ v, (l[i].text, v) ∈ s.labels := by
        intro h; apply h4; exact (known_iff _ _).mpr h
      refine common _ rfl rfl ?_ ?_
      · intro t v
        simp only [List.mem_append, List.mem_singleton]
        rw [I.lab]
        constructor
        · rintro (⟨j, a, b⟩ | h)
          · exact ⟨j, by omega, b⟩
          · injection h with h5 h6
            exact ⟨i, by omega, hi, h3, h5.symm, h6⟩
        · rintro ⟨j, a, b, c, d, e⟩
          rcases Nat.lt_or_ge j i with hx | hx
          · exact Or.inl ⟨j, hx, b, c, d, e⟩
          · have : j = i := by omega
            subst this; exact Or.inr (by rw [d, e])
      · intro _ j hj hjl a b
        exact h4 ⟨j + 1, (I.lab _ _).mpr ⟨j, hj, hjl, a, b, rfl⟩⟩
    · rename_i h3
      have h3 : l[i].name ≠ 58 := by simpa using h3
      injection hq with hq
      subst hq
      refine common _ rfl rfl ?_ (fun h => absurd h h3)
      intro t v
      simp only
      rw [I.lab]
      constructor
      · rintro ⟨j, a, b⟩; exact ⟨j, by omega, b⟩
      · rintro ⟨j, a, b, c, d⟩
        have : j ≠ i := by rintro rfl; exact h3 c
        exact ⟨j, by omega, b, c, d⟩
  split at h
  · cases h
  · rename_i q hq
    injection h with h
    subst h
    have J := key q hq
    unfold St.file
    split
    · exact ⟨J.le, J.len, J.deep, J.few, J.range, J.opn, J.done, J.none, J.lab, J.uniq⟩
    · exact J

theorem run_inv {l : List RC} : ∀ i, i ≤ l.length → ∀ s, run (l.take i) 0 (start l.length) = .ok s → Inv l i s := by
  intro i
  induction i with
  | zero => intro _ s h; rw [List.take_zero, run] at h; injection h with h; subst h; exact start_inv l
  | succ i ih =>
    intro hi s h
    have hi' : i < l.length := hi
    cases ht : run (l.take i) 0 (start l.length) with
    | error e =>
      rw [take_succ' hi', run_append, ht] at h; cases h
    | ok t =>
      rw [run_take hi' ht] at h
      cases hs : t.step i l[i] with
      | error e => rw [hs] at h; cases h
      | ok t' => rw [hs] at h; injection h with h; subst h; exact step_inv hi' (ih (by omega) t ht) hs
end Res
end Go.Proofs.YtnpideapdjomgaaDoor
namespace Go.Proofs.YtnpideapdjomgaaDoor
namespace Res


theorem link_take {l : List RC} {N i : Nat} {s : St} {to to' : List Int} (hi : i < l.length) (h : link N s (l.take i) 0 to = .ok to') : link N s (l.take (i + 1)) 0 to =
    (if l[i].leaps then (if l[i].text.isEmpty then .ok (to'.set i N) else match s.find l[i].text with | none => .error (75, i) | some k => .ok (to'.set i k)) else .ok to') := by
  rw [take_succ' hi, link_append, h]
  have : 0 + (l.take i).length = i := by rw [List.length_take]; omega
  rw [this]
  show link N s (l[i] :: []) i to' = _
  rw [link.eq_2]
  split
  · split
    · rfl
    · cases s.find l[i].text <;> rfl
  · rfl
theorem link_err {l : List RC} {N i : Nat} {s : St} {to : List Int} {e : Int × Nat} (h : link N s (l.take i) 0 to = .error e) : link N s l 0 to = .error e := by
  rw [← List.take_append_drop i l, link_append, h]

/-- Where a command goes that leaps. -/
def Leaps (l : List RC) (j : Nat) (to : List Int) : Prop :=
  ∀ h : j < l.length, l[j].leaps = true → (l[j].text = [] ∧ to[j]? = some (l.length : Int)) ∨ (l[j].text ≠ [] ∧ ∃ k, ∃ hk : k < l.length, l[k].name = 58 ∧ l[k].text = l[j].text ∧ to[j]? = some ((k : Int) + 1))

theorem find_lab {l : List RC} {i : Nat} {s : St} (I : Inv l i s) {t : List UInt8} {v : Nat} (h : s.find t = some v) : ∃ k, ∃ hk : k < l.length, l[k].name = 58 ∧ l[k].text = t ∧ v = k + 1 := by
  unfold St.find at h
  obtain ⟨⟨a, b⟩, h1, h2⟩ := Option.map_eq_some_iff.mp h
  have hm := List.mem_of_find?_eq_some h1
  have he := List.find?_some h1
  have : a = t := by simpa using he
  subst this
  subst h2
  obtain ⟨j, _, hj, hn, ht, hv⟩ := (I.lab _ _).mp hm
  exact ⟨j, hj, hn, ht, hv⟩

theorem link_inv {l : List RC} {s : St} (I : Inv l l.length s) {to : List Int} (hl : to.length = l.length) : ∀ i, i ≤ l.length → ∀ to', link l.length s (l.take i) 0 to = .ok to' →
    to'.length = l.length ∧ (∀ j, j < i → Leaps l j to') ∧ (∀ j, (h : j < l.length) → (i ≤ j ∨ l[j].leaps = false) → to'[j]? = to[j]?) := by
  intro i
  induction i with
  | zero => intro _ to' h; rw [List.take_zero, link] at h; injection h with h; subst h; exact ⟨hl, fun j h => by omega, fun _ _ _ => rfl⟩
  | succ i ih =>
    intro hi to' h
    have hi' : i < l.length := hi
    cases ht : link l.length s (l.take i) 0 to with
    | error e => rw [take_succ' hi', link_append, ht] at h; cases h
    | ok t =>
      obtain ⟨a, b, c⟩ := ih (by omega) t ht
      rw [link_take hi' ht] at h
      have set1 : ∀ v : Int, (l[i].text = [] ∧ v = l.length ∨ l[i].text ≠ [] ∧ ∃ k, ∃ hk : k < l.length, l[k].name = 58 ∧ l[k].text = l[i].text ∧ v = (k : Int) + 1) → l[i].leaps = true → to' = t.set i v →
          to'.length = l.length ∧ (∀ j, j < i + 1 → Leaps l j to') ∧ (∀ j, (h : j < l.length) → (i + 1 ≤ j ∨ l[j].leaps = false) → to'[j]? = to[j]?) := by
        rintro v hv hlp rfl
        refine ⟨by simp [a], ?_, ?_⟩
        · intro j hj hjl hjp
          rcases Nat.lt_or_ge j i with hx | hx
          · rw [List.getElem?_set_ne (by omega)]; exact b j hx hjl hjp
          · have : j = i := by omega
            subst this
            rw [List.getElem?_set_self (by omega)]
            rcases hv with ⟨h1, h2⟩ | ⟨h1, k, hk, h2, h3, h4⟩
            · exact Or.inl ⟨h1, by rw [h2]⟩
            · exact Or.inr ⟨h1, k, hk, h2, h3, by rw [h4]⟩
        · intro j hj hjs
          have hne : i ≠ j := by rintro rfl; rcases hjs with hx | hx; · omega
                                 · rw [hlp] at hx; cases hx
          rw [List.getElem?_set_ne hne]
          exact c j hj (by rcases hjs with hx | hx; · exact Or.inl (by omega)
                           · exact Or.inr hx)
      split at h
      · rename_i hlp
        split at h
        · rename_i hte
          injection h with h
          exact set1 _ (Or.inl ⟨by simpa using hte, rfl⟩) hlp h.symm
        · rename_i hte
          split at h
          · cases h
          · rename_i k hk
            injection h with h
            obtain ⟨k', hk', h1, h2, h3⟩ := find_lab I hk
            exact set1 _ (Or.inr ⟨by simpa using hte, k', hk', h1, h2, by rw [h3]; simp⟩) hlp h.symm
      · rename_i hlp
        injection h with h
        subst h
        have hlp : l[i].leaps = false := by simpa using hlp
        refine ⟨a, ?_, ?_⟩
        · intro j hj hjl hjp
          rcases Nat.lt_or_ge j i with hx | hx
          · exact b j hx hjl hjp
          · have : j = i := by omega
            subst this; rw [hlp] at hjp; cases hjp
        · intro j hj hjs
          exact c j hj (by rcases hjs with hx | hx; · exact Or.inl (by omega)
                           · exact Or.inr hx)

/-- The files behind the first i commands. -/
def filesAt : List RC → List (List UInt8)
  | l => l.foldl (fun f c => if c.writes && !f.contains c.text then f ++ [c.text] else f) []
theorem filesAt_snoc (a : List RC) (c : RC) : filesAt (a ++ [c]) = if c.writes && !(filesAt a).contains c.text then filesAt a ++ [c.text] else filesAt a := by
  unfold filesAt; rw [List.foldl_append]; rfl
theorem block_files {s q : St} {i : Nat} {c : RC} (h : s.block i c = .ok q) : q.files = s.files := by
  unfold St.block at h
  split at h
  · split at h
    · cases h
    · injection h with h; subst h; rfl
  split at h
  · split at h
    · cases h
    · injection h with h; subst h; rfl
  split at h
  · split at h
    · cases h
    · injection h with h; subst h; rfl
  injection h with h; subst h; rfl
theorem step_files {s q : St} {i : Nat} {c : RC} (h : s.step i c = .ok q) : q.files = if c.writes && !s.files.contains c.text then s.files ++ [c.text] else s.files := by
  unfold St.step at h
  split at h
  case isFalse => cases h
  split at h
  · cases h
  · rename_i q' hq
    injection h with h
    subst h
    have := block_files hq
    unfold St.put at this
    unfold St.file
    rw [this]
    split <;> simp only [this]
theorem run_files {l : List RC} {n : Nat} : ∀ i, i ≤ l.length → ∀ s, run (l.take i) 0 (start n) = .ok s → s.files = filesAt (l.take i) := by
  intro i
  induction i with
  | zero => intro _ s h; rw [List.take_zero, run] at h; injection h with h; subst h; rfl
  | succ i ih =>
    intro hi s h
    have hi' : i < l.length := hi
    cases ht : run (l.take i) 0 (start n) with
    | error e => rw [take_succ' hi', run_append, ht] at h; cases h
    | ok t =>
      rw [run_take hi' ht] at h
      cases hs : t.step i l[i] with
      | error e => rw [hs] at h; cases h
      | ok t' =>
        rw [hs] at h; injection h with h; subst h
        rw [take_succ' hi', filesAt_snoc, step_files hs, ih (by omega) t ht]
theorem files_pre (l : List RC) : ∀ i, i ≤ l.length → ∃ m, filesAt l = filesAt (l.take i) ++ m := by
  intro i hi
  obtain ⟨k, hk⟩ : ∃ k, k = l.length - i := ⟨_, rfl⟩
  induction k generalizing i with
  | zero => have : i = l.length := by omega
            subst this; exact ⟨[], by rw [List.take_length, List.append_nil]⟩
  | succ k ih =>
    obtain ⟨m, hm⟩ := ih (i + 1) (by omega) (by omega)
    rw [take_succ' (by omega), filesAt_snoc] at hm
    split at hm
    · exact ⟨_ :: m, by rw [hm, List.append_assoc]; rfl⟩
    · exact ⟨m, hm⟩

/-- What is told of what was resolved. -/
structure Told (l : List RC) (to : List Int) (files : List (List UInt8)) : Prop where
  len : to.length = l.length
  deep : ∀ i, i ≤ l.length → 0 ≤ dep l i ∧ dep l i ≤ 64
  shut : dep l l.length = 0
  few : l.length ≤ 4096
  block : ∀ j, (h : j < l.length) → l[j].name = 123 → ∃ m, Closed l j m ∧ to[j]? = some ((m : Int) + 1)
  leap : ∀ j, Leaps l j to
  none : ∀ j, (h : j < l.length) → l[j].name ≠ 123 → l[j].leaps = false → to[j]? = some (-1)
  uniq : ∀ j k, j < k → (hj : j < l.length) → (hk : k < l.length) → l[j].name = 58 → l[k].name = 58 → l[j].text ≠ l[k].text
  files : files = filesAt l

theorem step_few {s q : St} {i : Nat} {c : RC} (h : s.step i c = .ok q) : i < 4096 := by
  unfold St.step at h
  split at h
  · rename_i h1
    unfold refuse at h1
    split at h1
    · cases h1
    · rename_i h2; simpa using h2
  · cases h
theorem run_few {l : List RC} {n : Nat} {s : St} (h : run l 0 (start n) = .ok s) : l.length ≤ 4096 := by
  rcases Nat.lt_or_ge 0 l.length with hl | hl
  · obtain ⟨t, ht⟩ := run_pre (i := l.length - 1) h
    have := run_take (l := l) (i := l.length - 1) (by omega) ht
    rw [show l.length - 1 + 1 = l.length from by omega, List.take_length, h] at this
    cases hs : t.step (l.length - 1) l[l.length - 1] with
    | error e => rw [hs] at this; cases this
    | ok q => have := step_few hs; omega
  · omega

theorem resolve_ok {l : List RC} {to : List Int} {files : List (List UInt8)} (h : resolve l = .ok (to, files)) : ∃ s, run l 0 (start l.length) = .ok s ∧ s.opn.length = 0 ∧ link l.length s l 0 s.to = .ok to ∧ files = s.files := by
  unfold resolve at h
  split at h
  · cases h
  · rename_i s hs
    split at h
    · rename_i h1
      split at h
      · cases h
      · rename_i t ht
        injection h with h
        injection h with h2 h3
        subst h2 h3
        exact ⟨s, hs, by simpa using h1, ht, rfl⟩
    · cases h

theorem told {l : List RC} {to : List Int} {files : List (List UInt8)} (h : resolve l = .ok (to, files)) : Told l to files := by
  obtain ⟨s, hs, ho, hl, hf⟩ := resolve_ok h
  have hs' := hs
  rw [← List.take_length (l := l)] at hs'
  rw [List.length_take, Nat.min_self] at hs'
  have I := run_inv l.length (Nat.le_refl _) s hs'
  have hl' : link l.length s (l.take l.length) 0 s.to = .ok to := by rw [List.take_length]; exact hl
  obtain ⟨a, b, c⟩ := link_inv I I.len l.length (Nat.le_refl _) to hl'
  have nb : ∀ j, (h : j < l.length) → l[j].name = 123 → l[j].leaps = false := by intro j h hn; simp [RC.leaps, hn]
  refine ⟨a, I.range, by rw [I.deep, ho]; rfl, run_few hs, ?_, ?_, ?_, fun j k h1 h2 h3 => I.uniq j k h1 h3 h2 h3, by rw [hf, run_files l.length (Nat.le_refl _) s hs', List.take_length]⟩
  · intro j hj hn
    rcases I.done j hj hj hn with hm | ⟨m, _, hc, ht⟩
    · rw [List.length_eq_zero_iff.mp ho] at hm; cases hm
    · exact ⟨m, hc, by rw [c j hj (Or.inr (nb j hj hn))]; exact ht⟩
  · intro j hj; exact b j hj hj
  · intro j hj hn hlp
    rw [c j hj (Or.inr hlp)]; exact I.none j hj hj hn

/-- Alike but for where each goes. -/
def Like (s t : St) : Prop := s.labels = t.labels ∧ s.opn = t.opn ∧ s.files = t.files
def Both : Except Int St → Except Int St → Prop
  | .ok a, .ok b => Like a b
  | .error e, .error f => e = f
  | _, _ => False
theorem step_like {s t : St} {i : Nat} {c : RC} (h : Like s t) : Both (s.step i c) (t.step i c) := by
  obtain ⟨to, lb, op, fi⟩ := s
  obtain ⟨to', lb', op', fi'⟩ := t
  obtain ⟨h1, h2, h3⟩ := h
  simp only at h1 h2 h3
  subst h1 h2 h3
  unfold St.step St.block St.put St.known
  simp only
  have fin : ∀ (a b : List Int) (lb : List (List UInt8 × Nat)) (op : List Nat) (fi : List (List UInt8)), Like (St.file ⟨a, lb, op, fi⟩ c) (St.file ⟨b, lb, op, fi⟩ c) := by
    intro a b lb op fi
    unfold St.file
    simp only
    split <;> exact ⟨rfl, rfl, rfl⟩
  cases refuse i c == 0
  case false => exact rfl
  simp only [if_true]
  cases c.name == 123
  case true =>
    simp only [if_true]
    cases op.length == 64
    · exact fin _ _ _ _ _
    · exact rfl
  simp only [Bool.false_eq_true, if_false]
  cases c.name == 125
  case true =>
    simp only [if_true]
    cases op.length == 0
    · exact fin _ _ _ _ _
    · exact rfl
  simp only [Bool.false_eq_true, if_false]
  cases c.name == 58
  case true =>
    simp only [if_true]
    cases lb.any fun x => x.fst == c.text
    · exact fin _ _ _ _ _
    · exact rfl
  simp only [Bool.false_eq_true, if_false]
  exact fin _ _ _ _ _

/-- A fault stays whatever stands behind it. -/
theorem longer : ∀ {l : List RC} {m : List RC} {i : Nat} {s t : St} {e : Int × Nat}, Like s t → run l i s = .error e → run (l ++ m) i t = .error e := by
  intro l
  induction l with
  | nil => intro m i s t e _ h; cases h
  | cons c l ih =>
    intro m i s t e hl h
    have hb := step_like (i := i) (c := c) hl
    rw [List.cons_append, run]
    rw [run] at h
    revert h hb
    cases s.step i c with
    | error a =>
      cases t.step i c with
      | error b => intro h hb; rw [show b = a from hb.symm]; exact h
      | ok b => intro _ hb; exact hb.elim
    | ok a =>
      cases t.step i c with
      | error b => intro _ hb; exact hb.elim
      | ok b => intro h hb; exact ih hb h
theorem start_like (n n' : Nat) : Like (start n) (start n') := ⟨rfl, rfl, rfl⟩
theorem step_code {s : St} {i : Nat} {c : RC} {e : Int} (h : s.step i c = .error e) : e = 2 ∨ e = 72 ∨ e = 77 ∨ e = 75 ∨ e = 76 := by
  unfold St.step at h
  split at h
  · split at h
    · rename_i e' he
      injection h with h
      subst h
      unfold St.block at he
      split at he
      · split at he
        · injection he with he; exact Or.inr (Or.inr (Or.inr (Or.inr he.symm)))
        · cases he
      split at he
      · split at he
        · injection he with he; exact Or.inr (Or.inr (Or.inr (Or.inr he.symm)))
        · cases he
      split at he
      · split at he
        · injection he with he; exact Or.inr (Or.inr (Or.inr (Or.inl he.symm)))
        · cases he
      cases he
    · cases h
  · rename_i h0
    injection h with h
    subst h
    unfold refuse at h0 ⊢
    split
    · exact Or.inl rfl
    · rename_i h1
      rw [if_neg h1] at h0
      split
      · exact Or.inr (Or.inl rfl)
      · rename_i h2
        rw [if_neg h2] at h0
        split
        · exact Or.inr (Or.inr (Or.inl rfl))
        · rename_i h3; rw [if_neg h3] at h0; exact absurd rfl h0
theorem run_code : ∀ {l : List RC} {i : Nat} {s : St} {e : Int × Nat}, run l i s = .error e → (e.1 = 2 ∨ e.1 = 72 ∨ e.1 = 77 ∨ e.1 = 75 ∨ e.1 = 76) ∧ i ≤ e.2 ∧ e.2 < i + l.length := by
  intro l
  induction l with
  | nil => intro i s e h; cases h
  | cons c l ih =>
    intro i s e h
    rw [run] at h
    revert h
    cases hs : s.step i c with
    | error a => intro h; injection h with h; subst h; exact ⟨step_code hs, Nat.le_refl _, by simp⟩
    | ok a => intro h; obtain ⟨x, y, z⟩ := ih h; exact ⟨x, by omega, by simp only [List.length_cons]; omega⟩
theorem link_code {N : Nat} {s : St} : ∀ {l : List RC} {i : Nat} {to : List Int} {e : Int × Nat}, link N s l i to = .error e → e.1 = 75 ∧ i ≤ e.2 ∧ e.2 < i + l.length := by
  intro l
  induction l with
  | nil => intro i to e h; cases h
  | cons c l ih =>
    intro i to e h
    have go : ∀ to, link N s l (i + 1) to = .error e → e.1 = 75 ∧ i ≤ e.2 ∧ e.2 < i + (c :: l).length := by
      intro to h; obtain ⟨x, y, z⟩ := ih h; exact ⟨x, by omega, by simp only [List.length_cons]; omega⟩
    rw [link] at h
    split at h
    · split at h
      · exact go _ h
      · split at h
        · injection h with h; subst h; exact ⟨rfl, Nat.le_refl _, by simp⟩
        · exact go _ h
    · exact go _ h
/-- The faults that are told; those of a command's own stay whatever stands behind. -/
theorem resolve_code {l : List RC} {e : Int × Nat} (h : resolve l = .error e) : (e.1 = 2 ∨ e.1 = 72 ∨ e.1 = 77 ∨ e.1 = 75 ∨ e.1 = 76) ∧ e.2 < l.length ∧ (e.1 = 2 ∨ e.1 = 72 ∨ e.1 = 77 → ∀ m, resolve (l ++ m) = .error e) := by
  unfold resolve at h
  split at h
  · rename_i e' he
    injection h with h
    subst h
    obtain ⟨a, _, c⟩ := run_code he
    refine ⟨a, by omega, fun _ m => ?_⟩
    unfold resolve
    rw [longer (m := m) (start_like l.length (l ++ m).length) he]
  · rename_i s hs
    split at h
    · split at h
      · rename_i e' he
        injection h with h
        subst h
        obtain ⟨a, _, c⟩ := link_code he
        refine ⟨Or.inr (Or.inr (Or.inr (Or.inl a))), by omega, ?_⟩
        rw [a]; omega
      · cases h
    · rename_i h0
      injection h with h
      subst h
      have hs' := hs
      rw [← List.take_length (l := l)] at hs'
      rw [List.length_take, Nat.min_self] at hs'
      have I := run_inv l.length (Nat.le_refl _) s hs'
      refine ⟨Or.inr (Or.inr (Or.inr (Or.inr rfl))), ?_, by simp⟩
      simp only [beq_iff_eq] at h0
      have hp : 0 < s.opn.length := by omega
      obtain ⟨a, _⟩ := I.opn 0 hp
      simp only [List.getD_eq_getElem?_getD, List.getElem?_eq_getElem hp, Option.getD_some]
      exact a
end Res
end Go.Proofs.YtnpideapdjomgaaDoor
namespace Go.Proofs.YtnpideapdjomgaaDoor
namespace Res

theorem step_refuse {s : St} {i : Nat} {c : RC} {e : Int} (h : refuse i c = e) (he : e ≠ 0) : s.step i c = .error e := by
  unfold St.step
  rw [h]
  have : (e == 0) = false := by simpa using he
  rw [this]; rfl
theorem step_go {s : St} {i : Nat} {c : RC} (h : refuse i c = 0) : s.step i c = (match (s.put i (-1)).block i c with | .error e => .error e | .ok s' => .ok (s'.file c)) := by
  unfold St.step
  rw [h]; rfl
theorem step_err {s : St} {i : Nat} {c : RC} {e : Int} (h : refuse i c = 0) (hb : (s.put i (-1)).block i c = .error e) : s.step i c = .error e := by rw [step_go h, hb]
theorem step_ok {s s' : St} {i : Nat} {c : RC} (h : refuse i c = 0) (hb : (s.put i (-1)).block i c = .ok s') : s.step i c = .ok (s'.file c) := by rw [step_go h, hb]
theorem refuse_2 {i : Nat} {c : RC} (h : 4096 ≤ i) : refuse i c = 2 := by simp [refuse, h]
theorem refuse_72 {i : Nat} {c : RC} (h : i < 4096) (hs : c.shaped = false) : refuse i c = 72 := by
  have : decide (4096 ≤ i) = false := by simp; omega
  simp [refuse, hs, this]
theorem refuse_77 {i : Nat} {c : RC} (h : i < 4096) (hs : c.shaped = true) (ht : c.temp = true) : refuse i c = 77 := by
  have : decide (4096 ≤ i) = false := by simp; omega
  simp [refuse, hs, this, ht]
theorem refuse_0 {i : Nat} {c : RC} (h : i < 4096) (hs : c.shaped = true) (ht : c.temp = false) : refuse i c = 0 := by
  have : decide (4096 ≤ i) = false := by simp; omega
  simp [refuse, hs, this, ht]
theorem block_l76 {s : St} {i : Nat} {c : RC} (h : c.name = 123) (ho : s.opn.length = 64) : s.block i c = .error 76 := by simp [St.block, h, ho]
theorem block_l {s : St} {i : Nat} {c : RC} (h : c.name = 123) (ho : s.opn.length ≠ 64) : s.block i c = .ok { s with opn := s.opn ++ [i] } := by simp [St.block, h, ho]
theorem block_r76 {s : St} {i : Nat} {c : RC} (h : c.name = 125) (ho : s.opn.length = 0) : s.block i c = .error 76 := by simp [St.block, h, ho]
theorem block_r {s : St} {i : Nat} {c : RC} (h : c.name = 125) (ho : s.opn.length ≠ 0) : s.block i c = .ok { s with to := s.to.set (s.opn.getLastD 0) (i + 1), opn := s.opn.dropLast } := by simp [St.block, h, ho]
theorem block_c75 {s : St} {i : Nat} {c : RC} (h : c.name = 58) (hk : s.known c.text = true) : s.block i c = .error 75 := by simp [St.block, h, hk]
theorem block_c {s : St} {i : Nat} {c : RC} (h : c.name = 58) (hk : s.known c.text = false) : s.block i c = .ok { s with labels := s.labels ++ [(c.text, i + 1)] } := by simp [St.block, h, hk]
theorem block_o {s : St} {i : Nat} {c : RC} (h1 : c.name ≠ 123) (h2 : c.name ≠ 125) (h3 : c.name ≠ 58) : s.block i c = .ok s := by simp [St.block, h1, h2, h3]
theorem file_no {s : St} {c : RC} (h : c.writes = false) : s.file c = s := by simp [St.file, h]
theorem file_old {s : St} {c : RC} (h : c.text ∈ s.files) : s.file c = s := by simp [St.file, h]
theorem file_new {s : St} {c : RC} (h : c.writes = true) (hf : c.text ∉ s.files) : s.file c = { s with files := s.files ++ [c.text] } := by simp [St.file, h, hf]
theorem filesAt_len (l : List RC) : (filesAt l).length ≤ l.length := by
  suffices h : ∀ i, i ≤ l.length → (filesAt (l.take i)).length ≤ i by
    have := h l.length (Nat.le_refl _)
    rwa [List.take_length] at this
  intro i
  induction i with
  | zero => intro _; simp [filesAt]
  | succ i ih =>
    intro hi
    rw [take_succ' hi, filesAt_snoc]
    have := ih (by omega)
    split
    · rw [List.length_append]; simp; omega
    · omega
theorem files_few {l : List RC} {i n : Nat} {s : St} (hi : i ≤ l.length) (h : run (l.take i) 0 (start n) = .ok s) : s.files.length ≤ i := by
  rw [run_files i hi s h]
  have := filesAt_len (l.take i)
  rw [List.length_take] at this
  omega
theorem resolve_err {l : List RC} {i : Nat} {s : St} {e : Int} (hi : i < l.length) (h : run (l.take i) 0 (start l.length) = .ok s) (hs : s.step i l[i] = .error e) : resolve l = .error (e, i) := by
  have h1 := run_take hi h
  rw [hs] at h1
  have h2 := run_err h1
  unfold resolve
  rw [h2]
theorem run_next {l : List RC} {i : Nat} {s0 s s' : St} (hi : i < l.length) (h : run (l.take i) 0 s0 = .ok s) (hs : s.step i l[i] = .ok s') : run (l.take (i + 1)) 0 s0 = .ok s' := by
  rw [run_take hi h, hs]
theorem resolve_open {l : List RC} {s : St} (h : run l 0 (start l.length) = .ok s) (ho : s.opn.length ≠ 0) : resolve l = .error (76, s.opn.getD 0 0) := by
  unfold resolve
  rw [h]
  simp only
  rw [if_neg (by simpa using ho)]
theorem link_err' {N : Nat} {l : List RC} {i : Nat} {s : St} {t t' : List Int} (hi : i < l.length) (h : link N s (l.take i) 0 t = .ok t') (hl : l[i].leaps = true) (he : l[i].text.isEmpty = false) (hf : s.find l[i].text = none) : link N s l 0 t = .error (75, i) := by
  rw [← List.take_append_drop (i + 1) l, link_append, link_take hi h, if_pos hl, if_neg (by simp [he]), hf]
theorem resolve_link_err {l : List RC} {s : St} {e : Int × Nat} (h : run l 0 (start l.length) = .ok s) (ho : s.opn.length = 0) (hl : link l.length s l 0 s.to = .error e) : resolve l = .error e := by
  unfold resolve
  rw [h]
  simp only
  rw [if_pos (by simpa using ho), hl]
theorem resolve_link {l : List RC} {s : St} {t : List Int} (h : run l 0 (start l.length) = .ok s) (ho : s.opn.length = 0) (hl : link l.length s l 0 s.to = .ok t) : resolve l = .ok (t, s.files) := by
  unfold resolve
  rw [h]
  simp only
  rw [if_pos (by simpa using ho), hl]
end Res
end Go.Proofs.YtnpideapdjomgaaDoor
