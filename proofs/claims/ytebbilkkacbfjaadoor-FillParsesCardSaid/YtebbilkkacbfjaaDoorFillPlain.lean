/- A replacement written and read: what is well shaped comes back, what is read is well shaped. No program in sight (the definitions of reading lie in the walk of Parse). No conditions. -/
import Derived.Test.YtebbilkkacbfjaaDoorProg
import Derived.Test.YtebbilkkacbfjaaDoorParse
import Derived.Test.YtebbilkkacbfjaaDoorShaped16
namespace Go.Proofs.YtebbilkkacbfjaaDoor
open Go.RowKit

/-- What a byte of a text is written as; what a piece is. -/
def escB (b : UInt8) : List UInt8 := if b.toNat = 38 ∨ b.toNat = 92 then [92, b] else if b.toNat = 10 then [92, 110] else [b]
def printOne (p : Piece) : List UInt8 := if p.group = -1 then p.text.flatMap escB else if p.group = 0 then [38] else [92, UInt8.ofNat (48 + p.group.toNat)]
def printed (l : List Piece) : List UInt8 := l.flatMap printOne
def bare (l : List UInt8) : List Mark := l.map fun b => ⟨b, false⟩
theorem bare_append (a b : List UInt8) : bare (a ++ b) = bare a ++ bare b := by simp [bare]
theorem bare_cons (a : UInt8) (b : List UInt8) : bare (a :: b) = ⟨a, false⟩ :: bare b := rfl

def addAll (q : List Piece) (t : List UInt8) : List Piece := t.foldl addB q
theorem parse_one (q : List Piece) (b : UInt8) (r : List Mark) (h1 : b.toNat ≠ 38) (h2 : b.toNat ≠ 92) : parseFrom q (⟨b, false⟩ :: r) = parseFrom (addB q b) r := by
  cases r <;> simp [parseFrom, h1, h2]
theorem parse_two (q : List Piece) (y : Mark) (r : List Mark) : parseFrom q (⟨92, false⟩ :: y :: r) = parseFrom (esc q y) r := by simp [parseFrom]
theorem parse_byte (q : List Piece) (b : UInt8) (r : List Mark) : parseFrom q (bare (escB b) ++ r) = parseFrom (addB q b) r := by
  unfold escB
  split
  · rename_i h
    show parseFrom q (⟨92, false⟩ :: ⟨b, false⟩ :: r) = _
    rw [parse_two]
    have : esc q ⟨b, false⟩ = addB q b := by
      unfold esc
      rw [if_neg (by simp; omega), if_neg (by simp; omega)]
    rw [this]
  · rename_i h
    split
    · rename_i h2
      show parseFrom q (⟨92, false⟩ :: ⟨110, false⟩ :: r) = _
      rw [parse_two]
      have e : b = 10 := by rw [← UInt8.toNat_inj]; simpa using h2
      subst e
      rfl
    · exact parse_one q b r (by omega) (by omega)
theorem parse_text (t : List UInt8) : ∀ (q : List Piece) (r : List Mark), parseFrom q (bare (t.flatMap escB) ++ r) = parseFrom (addAll q t) r := by
  induction t with
  | nil => intro q r; rfl
  | cons b t ih =>
    intro q r
    rw [List.flatMap_cons, bare_append, List.append_assoc, parse_byte, ih]; rfl

theorem addAll_text (q : List Piece) (t0 : List UInt8) : ∀ t : List UInt8, addAll (q ++ [⟨-1, t0⟩]) t = q ++ [⟨-1, t0 ++ t⟩]
  | [] => by simp [addAll]
  | b :: t => by
    show addAll (addB (q ++ [⟨-1, t0⟩]) b) t = _
    rw [addB_yes _ _ _ rfl]
    show addAll (q ++ [⟨-1, t0 ++ [b]⟩]) t = _
    rw [addAll_text q (t0 ++ [b]) t]
    simp
theorem addB_new (q : List Piece) (b : UInt8) (h : ∀ l0 p, q = l0 ++ [p] → p.group ≠ -1) : addB q b = q ++ [⟨-1, [b]⟩] := by
  rcases List.eq_nil_or_concat q with rfl | ⟨l0, p, rfl⟩
  · rfl
  · rw [List.concat_eq_append] at *
    exact addB_no _ _ _ (h l0 p rfl)
theorem addAll_new (q : List Piece) (t : List UInt8) (ht : t ≠ []) (h : ∀ l0 p, q = l0 ++ [p] → p.group ≠ -1) : addAll q t = q ++ [⟨-1, t⟩] := by
  cases t with
  | nil => exact absurd rfl ht
  | cons b t =>
    show addAll (addB q b) t = _
    rw [addB_new q b h, addAll_text]; rfl

theorem parse_printed (l : List Piece) : ∀ (tb : Bool) (q : List Piece), shapedFrom tb l = true → (tb = false → ∀ l0 p, q = l0 ++ [p] → p.group ≠ -1) → parseFrom q (bare (printed l)) = some (q ++ l) := by
  induction l with
  | nil => intro tb q _ _; simp [printed, bare, parseFrom]
  | cons p r ih =>
    intro tb q hs hq
    unfold shapedFrom at hs
    have hp : printed (p :: r) = printOne p ++ printed r := by simp [printed]
    rw [hp, bare_append]
    by_cases hg : p.group = -1
    · rw [if_pos hg] at hs
      simp only [Bool.and_eq_true, decide_eq_true_eq, Bool.not_eq_true'] at hs
      obtain ⟨⟨ht, rfl⟩, hs⟩ := hs
      have : printOne p = p.text.flatMap escB := by simp [printOne, hg]
      rw [this, parse_text, addAll_new q p.text ht (hq rfl), ih true _ hs (fun e => by cases e)]
      obtain ⟨g, t⟩ := p
      simp only at hg
      subst hg
      simp
    · rw [if_neg hg] at hs
      split at hs
      · rename_i h9
        simp only [Bool.and_eq_true, decide_eq_true_eq] at hs
        obtain ⟨ht, hs⟩ := hs
        obtain ⟨g, t⟩ := p
        simp only at hg h9 ht
        subst ht
        have hnext : ∀ l0 p', q ++ [⟨g, []⟩] = l0 ++ [p'] → p'.group ≠ -1 := by
          intro l0 p' e
          have := List.append_inj_right' e rfl
          simp at this
          rw [← this]; exact hg
        by_cases h0 : g = 0
        · subst h0
          show parseFrom q (⟨38, false⟩ :: bare (printed r)) = _
          have : parseFrom q (⟨38, false⟩ :: bare (printed r)) = parseFrom (q ++ [⟨0, []⟩]) (bare (printed r)) := by
            cases bare (printed r) <;> simp [parseFrom]
          rw [this, ih false _ hs (fun _ => hnext)]
          simp
        · have hpo : printOne ⟨g, []⟩ = [92, UInt8.ofNat (48 + g.toNat)] := by simp [printOne, hg, h0]
          rw [hpo]
          show parseFrom q (⟨92, false⟩ :: ⟨UInt8.ofNat (48 + g.toNat), false⟩ :: bare (printed r)) = _
          rw [parse_two]
          have hn : (UInt8.ofNat (48 + g.toNat)).toNat = 48 + g.toNat := by simp; omega
          have : esc q ⟨UInt8.ofNat (48 + g.toNat), false⟩ = q ++ [⟨g, []⟩] := by
            unfold esc
            rw [if_pos ⟨rfl, by simp only [hn]; omega, by simp only [hn]; omega⟩]
            simp only [hn]
            congr 3
            omega
          rw [this, ih false _ hs (fun _ => hnext)]
          simp
      · cases hs

/-- THERE AND BACK. -/
theorem parse_print (l : List Piece) (h : shaped l = true) : parse (bare (printed l)) = some l := by
  have := parse_printed l false [] h (fun _ l0 p e => by simp at e)
  simpa [parse] using this

/-- No line end is written. -/
theorem printed_ten (l : List Piece) (h : shaped l = true) : ∀ b ∈ printed l, b.toNat ≠ 10 := by
  suffices H : ∀ (l : List Piece) tb, shapedFrom tb l = true → ∀ b ∈ printed l, b.toNat ≠ 10 from H l false h
  intro l
  induction l with
  | nil => intro tb _ b hb; simp [printed] at hb
  | cons p r ih =>
    intro tb hs b hb
    unfold shapedFrom at hs
    have hp : printed (p :: r) = printOne p ++ printed r := by simp [printed]
    rw [hp, List.mem_append] at hb
    by_cases hg : p.group = -1
    · rw [if_pos hg] at hs
      simp only [Bool.and_eq_true] at hs
      rcases hb with hb | hb
      · simp only [printOne, if_pos hg, List.mem_flatMap] at hb
        obtain ⟨x, _, hx⟩ := hb
        unfold escB at hx
        split at hx
        · rename_i h; simp at hx; rcases hx with rfl | rfl
          · decide
          · omega
        · rename_i h
          split at hx
          · simp at hx; rcases hx with rfl | rfl <;> decide
          · simp at hx; subst hx; assumption
      · exact ih _ hs.2 b hb
    · rw [if_neg hg] at hs
      split at hs
      · rename_i h9
        simp only [Bool.and_eq_true] at hs
        rcases hb with hb | hb
        · simp only [printOne, if_neg hg] at hb
          split at hb
          · simp at hb; subst hb; decide
          · simp at hb; rcases hb with rfl | rfl
            · decide
            · simp; omega
        · exact ih _ hs.2 b hb
      · cases hs

/-! ### What is read is well shaped -/
/-- Was the last one a text? -/
def endsText : Bool → List Piece → Bool
  | t, [] => t
  | _, p :: r => endsText (decide (p.group = -1)) r
theorem shapedFrom_cons (t : Bool) (p : Piece) (r : List Piece) : shapedFrom t (p :: r) = if p.group = -1 then (p.text ≠ [] && !t) && shapedFrom true r else if 0 ≤ p.group ∧ p.group ≤ 9 then p.text = [] && shapedFrom false r else false := rfl
theorem shapedFrom_app (l : List Piece) : ∀ (tb : Bool) (m : List Piece), shapedFrom tb (l ++ m) = (shapedFrom tb l && shapedFrom (endsText tb l) m) := by
  induction l with
  | nil => intro tb m; simp [shapedFrom, endsText]
  | cons p r ih =>
    intro tb m
    rw [List.cons_append, shapedFrom_cons, shapedFrom_cons, ih, ih]
    by_cases hg : p.group = -1
    · have e : endsText tb (p :: r) = endsText true r := by simp [endsText, hg]
      rw [e, if_pos hg, if_pos hg]; simp only [Bool.and_assoc]
    · have e : endsText tb (p :: r) = endsText false r := by simp [endsText, hg]
      rw [e, if_neg hg, if_neg hg]
      by_cases h9 : 0 ≤ p.group ∧ p.group ≤ 9
      · rw [if_pos h9, if_pos h9, Bool.and_assoc]
      · rw [if_neg h9, if_neg h9]; rfl
theorem endsText_app (l : List Piece) : ∀ (tb : Bool) (p : Piece), endsText tb (l ++ [p]) = decide (p.group = -1) := by
  induction l with
  | nil => intro tb p; rfl
  | cons q r ih => intro tb p; exact ih _ p
theorem shaped_group (q : List Piece) (g : Int) (h : shaped q = true) (h0 : 0 ≤ g) (h9 : g ≤ 9) : shaped (q ++ [⟨g, []⟩]) = true := by
  unfold shaped at *
  rw [shapedFrom_app, h]
  simp only [Bool.true_and]
  unfold shapedFrom
  rw [if_neg (by simp; omega), if_pos ⟨h0, h9⟩]
  simp [shapedFrom]
theorem shaped_add (q : List Piece) (b : UInt8) (h : shaped q = true) : shaped (addB q b) = true := by
  unfold shaped at *
  rcases List.eq_nil_or_concat q with rfl | ⟨l0, p, rfl⟩
  · rfl
  · rw [List.concat_eq_append] at *
    rw [shapedFrom_app] at h
    by_cases hp : p.group = -1
    · rw [addB_yes _ _ _ hp, shapedFrom_app]
      simp only [Bool.and_eq_true, shapedFrom, hp, if_pos] at h ⊢
      exact ⟨h.1, ⟨by simp, h.2.1.2⟩, trivial⟩
    · rw [addB_no _ _ _ hp, shapedFrom_app, shapedFrom_app, h, endsText_app]
      simp [shapedFrom, hp]
theorem shaped_esc (q : List Piece) (y : Mark) (h : shaped q = true) : shaped (esc q y) = true := by
  unfold esc
  split
  · exact shaped_group q _ h (by omega) (by omega)
  · split
    · exact shaped_add q _ h
    · exact shaped_add q _ h
theorem shaped_parseFrom : ∀ (q : List Piece) (l : List Mark) (r : List Piece), shaped q = true → parseFrom q l = some r → shaped r = true
  | q, [], r, h, e => by rw [parse_nil] at e; injection e with e; rw [← e]; exact h
  | q, [m], r, h, e => by
    unfold parseFrom at e
    split at e
    · injection e with e; rw [← e]; exact shaped_add q _ h
    · split at e
      · injection e with e; rw [← e]; exact shaped_group q 0 h (by omega) (by omega)
      · split at e
        · cases e
        · injection e with e; rw [← e]; exact shaped_add q _ h
  | q, m :: y :: l, r, h, e => by
    unfold parseFrom at e
    split at e
    · exact shaped_parseFrom _ _ _ (shaped_add q _ h) e
    · split at e
      · exact shaped_parseFrom _ _ _ (shaped_group q 0 h (by omega) (by omega)) e
      · split at e
        · exact shaped_parseFrom _ _ _ (shaped_esc q y h) e
        · exact shaped_parseFrom _ _ _ (shaped_add q _ h) e
theorem shaped_parse (l : List Mark) (r : List Piece) (e : parse l = some r) : shaped r = true := shaped_parseFrom [] l r rfl e

/-- What is not read ends with a backslash. -/
theorem parse_bad : ∀ (q : List Piece) (l : List Mark), parseFrom q l = none → ∃ l0, l = l0 ++ [⟨92, false⟩]
  | q, [], e => by rw [parse_nil] at e; cases e
  | q, [m], e => by
    unfold parseFrom at e
    split at e
    · cases e
    · rename_i h1
      split at e
      · cases e
      · split at e
        · rename_i h3
          obtain ⟨b, p⟩ := m
          simp only [Bool.not_eq_true] at h1 h3
          subst h1
          have : b = 92 := by rw [← UInt8.toNat_inj]; simpa using h3
          subst this
          exact ⟨[], rfl⟩
        · cases e
  | q, m :: y :: l, e => by
    have key : ∀ q', parseFrom q' (y :: l) = none → ∃ l0, m :: y :: l = l0 ++ [⟨92, false⟩] := fun q' h => by
      obtain ⟨l0, e0⟩ := parse_bad q' (y :: l) h
      exact ⟨m :: l0, by rw [e0]; rfl⟩
    unfold parseFrom at e
    split at e
    · exact key _ e
    · split at e
      · exact key _ e
      · split at e
        · obtain ⟨l0, e0⟩ := parse_bad _ l e
          exact ⟨m :: y :: l0, by rw [e0]; rfl⟩
        · exact key _ e

/-! ### Sizes -/
theorem escB_len (b : UInt8) : (escB b).length ≤ 2 := by
  unfold escB
  split
  · simp
  · split <;> simp
def wt (l : List Piece) : Nat := (l.map fun p => p.text.length + 1).sum
theorem printOne_len (p : Piece) : (printOne p).length ≤ 2 * (p.text.length + 1) := by
  unfold printOne
  split
  · have : ∀ t : List UInt8, (t.flatMap escB).length ≤ 2 * t.length := by
      intro t
      induction t with
      | nil => simp
      | cons b t ih =>
        have : (escB b).length ≤ 2 := escB_len b
        rw [List.flatMap_cons, List.length_append, List.length_cons]; omega
    have := this p.text
    omega
  · split <;> simp <;> omega
theorem printed_len (l : List Piece) : (printed l).length ≤ 2 * wt l := by
  induction l with
  | nil => simp [printed, wt]
  | cons p r ih =>
    have h1 := printOne_len p
    have hp : printed (p :: r) = printOne p ++ printed r := by simp [printed]
    have hw : wt (p :: r) = p.text.length + 1 + wt r := by simp [wt]
    rw [hp, hw, List.length_append]; omega
theorem addB_wt (q : List Piece) (b : UInt8) : wt (addB q b) ≤ wt q + 2 := by
  rcases List.eq_nil_or_concat q with rfl | ⟨l0, p, rfl⟩
  · simp [addB, wt]
  · rw [List.concat_eq_append] at *
    by_cases hp : p.group = -1
    · rw [addB_yes _ _ _ hp]; simp [wt]; omega
    · rw [addB_no _ _ _ hp]; simp [wt]; omega
theorem esc_wt (q : List Piece) (y : Mark) : wt (esc q y) ≤ wt q + 2 := by
  unfold esc
  split
  · simp [wt]
  · split <;> exact addB_wt q _
theorem parse_wt : ∀ (q : List Piece) (l : List Mark) (r : List Piece), parseFrom q l = some r → wt r ≤ wt q + 2 * l.length
  | q, [], r, e => by rw [parse_nil] at e; injection e with e; rw [← e]; omega
  | q, [m], r, e => by
    have hg : wt (q ++ [⟨0, []⟩]) ≤ wt q + 2 := by simp [wt]
    have ha := addB_wt q m.byte
    unfold parseFrom at e
    split at e
    · injection e with e; rw [← e]; simp; omega
    · split at e
      · injection e with e; rw [← e]; simp; omega
      · split at e
        · cases e
        · injection e with e; rw [← e]; simp; omega
  | q, m :: y :: l, r, e => by
    have hg : wt (q ++ [⟨0, []⟩]) ≤ wt q + 2 := by simp [wt]
    have ha := addB_wt q m.byte
    have hb := esc_wt q y
    unfold parseFrom at e
    split at e
    · have := parse_wt _ _ _ e; simp at this ⊢; omega
    · split at e
      · have := parse_wt _ _ _ e; simp at this ⊢; omega
      · split at e
        · have := parse_wt _ _ _ e; simp at this ⊢; omega
        · have := parse_wt _ _ _ e; simp at this ⊢; omega
end Go.Proofs.YtebbilkkacbfjaaDoor
