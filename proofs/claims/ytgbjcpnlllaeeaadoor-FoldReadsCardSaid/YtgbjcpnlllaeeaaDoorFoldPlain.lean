/- Bytes as the command l shows them: pieces, rows, and what is read back. No program in sight. No conditions. -/
namespace Go.Proofs.YtgbjcpnlllaeeaaDoor.Fold

/-- The letters' list. -/
def ltrs : List UInt8 := [97, 98, 116, 110, 118, 102, 114]
def ltr (i : Nat) : UInt8 := ltrs.getD i 0
/-- 0: itself; 1: a letter; 2: octal. -/
def kind (c : UInt8) : Nat := if c.toNat = 92 ∨ (7 ≤ c.toNat ∧ c.toNat ≤ 13) then 1 else if 32 ≤ c.toNat ∧ c.toNat ≤ 126 then 0 else 2
def piece (c : UInt8) : List UInt8 :=
  if c.toNat = 92 then [92, 92] else if 7 ≤ c.toNat ∧ c.toNat ≤ 13 then [92, ltr (c.toNat - 7)] else if 32 ≤ c.toNat ∧ c.toNat ≤ 126 then [c]
  else [92, UInt8.ofNat (48 + c.toNat / 64), UInt8.ofNat (48 + c.toNat / 8 % 8), UInt8.ofNat (48 + c.toNat % 8)]
/-- The rows of bytes, from so many of a row on. -/
def rowGo (W : Nat) : Nat → List UInt8 → List UInt8
  | _, [] => []
  | row, c :: r => if row + (piece c).length > W then [92, 10] ++ piece c ++ rowGo W (piece c).length r else piece c ++ rowGo W (row + (piece c).length) r
def Row (W : Nat) (b : List UInt8) : List UInt8 := rowGo W 0 b ++ [36, 10]

def idxFrom : Nat → List UInt8 → UInt8 → Option Nat
  | _, [], _ => none
  | i, x :: r, d => if x = d then some i else idxFrom (i + 1) r d
def digit (d : UInt8) : Bool := decide (48 ≤ d.toNat ∧ d.toNat ≤ 55)
def one (b : List UInt8) : UInt8 × Nat :=
  match b with
  | [] => (0, 0)
  | c :: r =>
    if c.toNat ≠ 92 then (if kind c = 0 then (c, 1) else (0, 0)) else
    match r with
    | [] => (0, 0)
    | d :: r' =>
      if d.toNat = 92 then (92, 2) else
      match idxFrom 0 ltrs d with
      | some i => (UInt8.ofNat (7 + i), 2)
      | none => match r' with
        | e :: f :: _ => if d.toNat ≤ 51 ∧ digit d ∧ digit e ∧ digit f then
            (let n := 64 * (d.toNat - 48) + 8 * (e.toNat - 48) + (f.toNat - 48); if kind (UInt8.ofNat n) = 2 then (UInt8.ofNat n, 4) else (0, 0)) else (0, 0)
        | _ => (0, 0)

theorem piece_len (c : UInt8) : 1 ≤ (piece c).length ∧ (piece c).length ≤ 4 := by
  unfold piece
  split
  · simp
  · split
    · simp
    · split <;> simp
theorem idx_some (d : UInt8) (i : Nat) (h : idxFrom 0 ltrs d = some i) : i ≤ 6 ∧ ltr i = d := by
  simp only [ltrs, idxFrom] at h
  repeat' split at h
  all_goals first | (injection h with h; subst h; subst_vars; exact ⟨by omega, rfl⟩) | cases h

theorem kind_lt (c : UInt8) : (kind c = 0 ∧ c.toNat ≠ 92 ∧ ¬ (7 ≤ c.toNat ∧ c.toNat ≤ 13) ∧ 32 ≤ c.toNat ∧ c.toNat ≤ 126) ∨ (kind c = 1 ∧ (c.toNat = 92 ∨ (7 ≤ c.toNat ∧ c.toNat ≤ 13))) ∨ (kind c = 2 ∧ c.toNat ≠ 92 ∧ ¬ (7 ≤ c.toNat ∧ c.toNat ≤ 13) ∧ ¬ (32 ≤ c.toNat ∧ c.toNat ≤ 126)) := by
  unfold kind
  split
  · rename_i h; exact .inr (.inl ⟨rfl, h⟩)
  · rename_i h
    split
    · rename_i h2; exact .inl ⟨rfl, by omega, by omega, h2.1, h2.2⟩
    · rename_i h2; exact .inr (.inr ⟨rfl, by omega, by omega, h2⟩)

theorem ofN (n : Nat) (h : n < 256) : (UInt8.ofNat n).toNat = n := by simp; omega
theorem idx_digit (d : UInt8) (h : d.toNat ≤ 57) : idxFrom 0 ltrs d = none := by
  have k : ∀ x : UInt8, 57 < x.toNat → x ≠ d := by intro x hx e; rw [e] at hx; omega
  simp only [ltrs, idxFrom]
  rw [if_neg (k _ (by decide)), if_neg (k _ (by decide)), if_neg (k _ (by decide)), if_neg (k _ (by decide)), if_neg (k _ (by decide)), if_neg (k _ (by decide)), if_neg (k _ (by decide))]

/-- Of a piece and what follows the byte is read. -/
theorem one_piece (c : UInt8) (r : List UInt8) : one (piece c ++ r) = (c, (piece c).length) := by
  rcases kind_lt c with ⟨hk, h1, h2, h3, h4⟩ | ⟨hk, h⟩ | ⟨hk, h1, h2, h3⟩
  · have e : piece c = [c] := by unfold piece; rw [if_neg h1, if_neg h2, if_pos ⟨h3, h4⟩]
    rw [e]
    show (if c.toNat ≠ 92 then (if kind c = 0 then (c, 1) else (0, 0)) else _) = _
    rw [if_pos h1, if_pos hk]; rfl
  · rcases h with h | h
    · have ec : c = 92 := by rw [← UInt8.toNat_inj]; exact h
      subst ec; rfl
    · have : c.toNat = 7 ∨ c.toNat = 8 ∨ c.toNat = 9 ∨ c.toNat = 10 ∨ c.toNat = 11 ∨ c.toNat = 12 ∨ c.toNat = 13 := by omega
      have hc : c = 7 ∨ c = 8 ∨ c = 9 ∨ c = 10 ∨ c = 11 ∨ c = 12 ∨ c = 13 := by
        rcases this with h | h | h | h | h | h | h <;> simp only [← UInt8.toNat_inj, h] <;> decide
      rcases hc with rfl | rfl | rfl | rfl | rfl | rfl | rfl <;> rfl
  · have hlt := c.toNat_lt
    have e : piece c = [92, UInt8.ofNat (48 + c.toNat / 64), UInt8.ofNat (48 + c.toNat / 8 % 8), UInt8.ofNat (48 + c.toNat % 8)] := by unfold piece; rw [if_neg h1, if_neg h2, if_neg h3]
    have a1 := ofN (48 + c.toNat / 64) (by omega)
    have a2 := ofN (48 + c.toNat / 8 % 8) (by omega)
    have a3 := ofN (48 + c.toNat % 8) (by omega)
    rw [e]
    simp only [List.cons_append, List.nil_append, one]
    rw [if_neg (by decide), if_neg (by rw [a1]; omega), idx_digit _ (by rw [a1]; omega)]
    simp only [digit, a1, a2, a3]
    have hn : 64 * (48 + c.toNat / 64 - 48) + 8 * (48 + c.toNat / 8 % 8 - 48) + (48 + c.toNat % 8 - 48) = c.toNat := by omega
    rw [if_pos (by simp; omega), hn, UInt8.ofNat_toNat, if_pos hk]
    rfl

/-- What is read is a piece that stands there. -/
theorem one_some (b : List UInt8) (h : (one b).2 ≠ 0) : b = piece (one b).1 ++ b.drop (one b).2 ∧ (one b).2 = (piece (one b).1).length := by
  unfold one at h ⊢
  cases b with
  | nil => simp at h
  | cons c r =>
    simp only at h ⊢
    by_cases hc : c.toNat ≠ 92
    · rw [if_pos hc] at h ⊢
      by_cases hk : kind c = 0
      · rw [if_pos hk] at h ⊢
        rcases kind_lt c with ⟨_, h1, h2, h3, h4⟩ | ⟨hk', _⟩ | ⟨hk', _⟩
        · have e : piece c = [c] := by unfold piece; rw [if_neg h1, if_neg h2, if_pos ⟨h3, h4⟩]
          simp [e]
        · omega
        · omega
      · rw [if_neg hk] at h; simp at h
    · rw [if_neg hc] at h ⊢
      have ec : c = 92 := by rw [← UInt8.toNat_inj]; simpa using hc
      subst ec
      cases r with
      | nil => simp at h
      | cons d r' =>
        simp only at h ⊢
        by_cases hd : d.toNat = 92
        · rw [if_pos hd]
          have ed : d = 92 := by rw [← UInt8.toNat_inj]; simpa using hd
          subst ed
          exact ⟨rfl, rfl⟩
        · rw [if_neg hd] at h ⊢
          cases hi : idxFrom 0 ltrs d with
          | some i =>
            obtain ⟨hi6, hl⟩ := idx_some d i hi
            have hx := ofN (7 + i) (by omega)
            have e : piece (UInt8.ofNat (7 + i)) = [92, d] := by
              unfold piece
              rw [if_neg (by rw [hx]; omega), if_pos (by rw [hx]; omega), hx, Nat.add_sub_cancel_left, hl]
            show 92 :: d :: r' = piece (UInt8.ofNat (7 + i)) ++ r' ∧ 2 = (piece (UInt8.ofNat (7 + i))).length
            rw [e]; exact ⟨rfl, rfl⟩
          | none =>
            rw [hi] at h
            simp only at h ⊢
            match r', h with
            | [], h => simp at h
            | [_], h => simp at h
            | e :: f :: r'', h =>
              simp only at h ⊢
              by_cases hdig : d.toNat ≤ 51 ∧ digit d = true ∧ digit e = true ∧ digit f = true
              · rw [if_pos hdig] at h ⊢
                obtain ⟨g1, g2, g3, g4⟩ := hdig
                simp only [digit, decide_eq_true_eq] at g2 g3 g4
                split at h
                · rename_i hk
                  rw [if_pos hk]
                  have hn := ofN (64 * (d.toNat - 48) + 8 * (e.toNat - 48) + (f.toNat - 48)) (by omega)
                  rcases kind_lt (UInt8.ofNat (64 * (d.toNat - 48) + 8 * (e.toNat - 48) + (f.toNat - 48))) with ⟨hk', _⟩ | ⟨hk', _⟩ | ⟨_, h1, h2, h3⟩
                  · omega
                  · omega
                  · have ep : piece (UInt8.ofNat (64 * (d.toNat - 48) + 8 * (e.toNat - 48) + (f.toNat - 48))) = [92, d, e, f] := by
                      unfold piece
                      rw [if_neg h1, if_neg h2, if_neg h3, hn]
                      have e1 : 48 + (64 * (d.toNat - 48) + 8 * (e.toNat - 48) + (f.toNat - 48)) / 64 = d.toNat := by omega
                      have e2 : 48 + (64 * (d.toNat - 48) + 8 * (e.toNat - 48) + (f.toNat - 48)) / 8 % 8 = e.toNat := by omega
                      have e3 : 48 + (64 * (d.toNat - 48) + 8 * (e.toNat - 48) + (f.toNat - 48)) % 8 = f.toNat := by omega
                      rw [e1, e2, e3, UInt8.ofNat_toNat, UInt8.ofNat_toNat, UInt8.ofNat_toNat]
                    show 92 :: d :: e :: f :: r'' = piece (UInt8.ofNat (64 * (d.toNat - 48) + 8 * (e.toNat - 48) + (f.toNat - 48))) ++ r'' ∧ 4 = (piece (UInt8.ofNat (64 * (d.toNat - 48) + 8 * (e.toNat - 48) + (f.toNat - 48)))).length
                    rw [ep]; exact ⟨rfl, rfl⟩
                · simp at h
              · rw [if_neg hdig] at h; simp at h
theorem rowGo_len (W : Nat) : ∀ (b : List UInt8) (row : Nat), b.length ≤ (rowGo W row b).length ∧ (rowGo W row b).length ≤ 6 * b.length := by
  intro b
  induction b with
  | nil => intro row; exact ⟨Nat.le_refl _, Nat.le_refl _⟩
  | cons c r ih =>
    intro row
    have hl := piece_len c
    have i1 := ih (piece c).length
    have i2 := ih (row + (piece c).length)
    show _ ≤ (if row + (piece c).length > W then [92, 10] ++ piece c ++ rowGo W (piece c).length r else piece c ++ rowGo W (row + (piece c).length) r).length ∧ (if row + (piece c).length > W then [92, 10] ++ piece c ++ rowGo W (piece c).length r else piece c ++ rowGo W (row + (piece c).length) r).length ≤ _
    split
    · simp only [List.length_append, List.length_cons, List.length_nil]; omega
    · simp only [List.length_append, List.length_cons]; omega
theorem row_len (W : Nat) (b : List UInt8) : b.length + 2 ≤ (Row W b).length ∧ (Row W b).length ≤ 6 * b.length + 2 := by
  have := rowGo_len W b 0
  unfold Row
  rw [List.length_append]
  simp only [List.length_cons, List.length_nil]
  omega
/-! ### Reading back -/
/-- What is read of a text without its end, in a state: is it the beginning; the row at hand, the longest one, the least width that would have had room for more. -/
def backGo (fuel : Nat) (first : Bool) (row longest room : Nat) (t : List UInt8) : Option (List UInt8) :=
  match fuel with
  | 0 => if longest ≥ room then none else some []
  | k + 1 =>
    if t = [] then (if longest ≥ room then none else some []) else
    let fresh := !first && [92, 10].isPrefixOf t
    let u := if fresh then t.drop 2 else t
    if (one u).2 = 0 then none else
    let row' := if fresh then (one u).2 else row + (one u).2
    (backGo k false row' (max longest row') (if fresh then min room (row + (one u).2) else room) (u.drop (one u).2)).map ((one u).1 :: ·)
theorem one_le (b : List UInt8) : (one b).2 ≤ b.length := by
  by_cases h : (one b).2 = 0
  · omega
  · obtain ⟨h1, h2⟩ := one_some b h
    have := congrArg List.length h1
    rw [List.length_append, List.length_drop, ← h2] at this
    omega
theorem backGo_succ (k : Nat) (first : Bool) (row longest room : Nat) (t : List UInt8) (u : List UInt8) (fresh : Bool) (ht : t ≠ []) (hf : fresh = (!first && [92, 10].isPrefixOf t)) (hu : u = if fresh then t.drop 2 else t) :
    backGo (k + 1) first row longest room t = if (one u).2 = 0 then none else
      (backGo k false (if fresh then (one u).2 else row + (one u).2) (max longest (if fresh then (one u).2 else row + (one u).2)) (if fresh then min room (row + (one u).2) else room) (u.drop (one u).2)).map ((one u).1 :: ·) := by
  subst hu; subst hf
  conv => lhs; unfold backGo
  rw [if_neg ht]
theorem backGo_nil (k : Nat) (first : Bool) (row longest room : Nat) : backGo k first row longest room [] = if longest ≥ room then none else some [] := by
  cases k <;> simp [backGo]
/-- Fuel enough is fuel. -/
theorem backGo_fuel : ∀ (k j : Nat) (first : Bool) (row longest room : Nat) (t : List UInt8), t.length ≤ k → t.length ≤ j → backGo k first row longest room t = backGo j first row longest room t := by
  intro k
  induction k with
  | zero =>
    intro j first row longest room t hk hj
    have : t = [] := List.eq_nil_of_length_eq_zero (by omega)
    subst this
    rw [backGo_nil, backGo_nil]
  | succ k ih =>
    intro j first row longest room t hk hj
    by_cases ht : t = []
    · subst ht; rw [backGo_nil, backGo_nil]
    · have hp := List.length_pos_iff.2 ht
      cases j with
      | zero => omega
      | succ j =>
        obtain ⟨fresh, hf⟩ : ∃ fresh, fresh = (!first && [92, 10].isPrefixOf t) := ⟨_, rfl⟩
        obtain ⟨u, hu⟩ : ∃ u, u = if fresh then t.drop 2 else t := ⟨_, rfl⟩
        rw [backGo_succ k first row longest room t u fresh ht hf hu, backGo_succ j first row longest room t u fresh ht hf hu]
        by_cases h0 : (one u).2 = 0
        · rw [if_pos h0, if_pos h0]
        · rw [if_neg h0, if_neg h0]
          have hl : u.length ≤ t.length := by rw [hu]; split <;> simp
          rw [ih j _ _ _ _ _ (by rw [List.length_drop]; omega) (by rw [List.length_drop]; omega)]
def back (b : List UInt8) : Option (List UInt8) := if [36, 10].isSuffixOf b then backGo b.length true 0 4 4611686018427387904 (b.take (b.length - 2)) else none

theorem piece_fresh (c : UInt8) (r : List UInt8) : [92, 10].isPrefixOf (piece c ++ r) = false := by
  cases h : [92, 10].isPrefixOf (piece c ++ r) with
  | false => rfl
  | true =>
    obtain ⟨t, ht⟩ := List.isPrefixOf_iff_prefix.1 h
    have := one_piece c r
    rw [← ht] at this
    have hz : one ([92, 10] ++ t) = (0, 0) := by
      match t with
      | [] => rfl
      | [_] => rfl
      | _ :: _ :: _ => rfl
    rw [hz] at this
    have := (Prod.mk.inj this).2
    have := piece_len c
    omega

/-- What is shown is read back: at any width. -/
theorem back_rowGo (W : Nat) (hW : 4 ≤ W) : ∀ (b : List UInt8) (k row longest room : Nat) (first : Bool), (first = true → row = 0) → row ≤ longest → longest ≤ W → longest + 4 * b.length < 4611686018427387904 → (room > W ∨ room = 4611686018427387904) →
    (rowGo W row b).length ≤ k → backGo k first row longest room (rowGo W row b) = some b := by
  intro b
  induction b with
  | nil =>
    intro k row longest room first _ _ h1 h2 h3 _
    show backGo k first row longest room [] = _
    rw [backGo_nil, if_neg (by simp at h2; omega)]
  | cons c r ih =>
    intro k row longest room first h0 hr h1 h2 h3 hk
    have hl := piece_len c
    simp only [List.length_cons] at h2
    by_cases hb : row + (piece c).length > W
    · have e : rowGo W row (c :: r) = [92, 10] ++ (piece c ++ rowGo W (piece c).length r) := by
        show (if row + (piece c).length > W then _ else _) = _
        rw [if_pos hb, List.append_assoc]
      have hfirst : first = false := by
        cases first with
        | false => rfl
        | true => have := h0 rfl; omega
      rw [e] at hk ⊢
      cases k with
      | zero => simp at hk
      | succ k =>
        have hone := one_piece c (rowGo W (piece c).length r)
        rw [backGo_succ k first row longest room _ (piece c ++ rowGo W (piece c).length r) true (by simp) (by rw [hfirst]; rfl) rfl, hone]
        simp only [if_true]
        rw [if_neg (by omega), List.drop_left, ih k _ _ _ false (fun h => by cases h) (by omega) (by omega) (by omega) (by omega) (by simp at hk; omega)]
        rfl
    · have e : rowGo W row (c :: r) = piece c ++ rowGo W (row + (piece c).length) r := by
        show (if row + (piece c).length > W then _ else _) = _
        rw [if_neg hb]
      rw [e] at hk ⊢
      cases k with
      | zero => simp at hk; have := hk.1; simp [this] at hl
      | succ k =>
        have hone := one_piece c (rowGo W (row + (piece c).length) r)
        rw [backGo_succ k first row longest room _ (piece c ++ rowGo W (row + (piece c).length) r) false (fun h => by have := congrArg List.length h; rw [List.length_append, List.length_nil] at this; omega) (by rw [piece_fresh]; simp) rfl, hone]
        simp only [Bool.false_eq_true, if_false]
        rw [if_neg (by omega), List.drop_left, ih k _ _ _ false (fun h => by cases h) (by omega) (by omega) (by omega) h3 (by rw [List.length_append] at hk; omega)]
        rfl
theorem back_row (W : Nat) (hW : 4 ≤ W) (b : List UInt8) (hb : b.length < 1000000000) : back (Row W b) = some b := by
  unfold back Row
  rw [if_pos (by rw [List.isSuffixOf_iff_suffix]; exact ⟨_, rfl⟩)]
  have : (rowGo W 0 b ++ [36, 10]).take ((rowGo W 0 b ++ [36, 10]).length - 2) = rowGo W 0 b := by
    rw [List.length_append]
    exact List.take_left' (by simp)
  rw [this]
  exact back_rowGo W hW b _ 0 4 _ true (fun _ => rfl) (by omega) hW (by omega) (.inr rfl) (by simp)

/-- The length of the longest row, as the document reckons it. -/
def leastGo : Nat → Nat → List UInt8 → Nat
  | _, most, [] => most
  | n, most, b :: r => leastGo (if b.toNat = 10 then 0 else n + 1) (if (if b.toNat = 10 then 0 else n + 1) > most + 1 ∧ r.head? = some 10 then (if b.toNat = 10 then 0 else n + 1) - 1 else most) r
theorem leastGo_run (p : List UInt8) (hp : ∀ x ∈ p, x.toNat ≠ 10) (r : List UInt8) (hr : r.head? ≠ some 10) : ∀ n most, leastGo n most (p ++ r) = leastGo (n + p.length) most r := by
  induction p with
  | nil => intro n most; rfl
  | cons a p ih =>
    intro n most
    have ha := hp a (by simp)
    have hh : (p ++ r).head? ≠ some 10 := by
      cases p with
      | nil => exact hr
      | cons x p => have := hp x (by simp); simp; rintro rfl; exact this rfl
    show leastGo _ _ (p ++ r) = _
    rw [if_neg ha, if_neg (fun h => hh h.2), ih (fun x hx => hp x (by simp [hx]))]
    rw [List.length_cons]; congr 1; omega
theorem piece_ten (c : UInt8) : ∀ x ∈ piece c, x.toNat ≠ 10 := by
  have hlt := c.toNat_lt
  intro x hx
  unfold piece at hx
  split at hx
  · simp at hx; subst hx; decide
  · split at hx
    · rename_i h
      simp at hx
      rcases hx with rfl | rfl
      · decide
      · have : c.toNat - 7 = 0 ∨ c.toNat - 7 = 1 ∨ c.toNat - 7 = 2 ∨ c.toNat - 7 = 3 ∨ c.toNat - 7 = 4 ∨ c.toNat - 7 = 5 ∨ c.toNat - 7 = 6 := by omega
        rcases this with h | h | h | h | h | h | h <;> rw [h] <;> decide
    · split at hx
      · simp at hx; subst hx; omega
      · simp only [List.mem_cons, List.not_mem_nil, or_false] at hx
        rcases hx with rfl | rfl | rfl | rfl
        · decide
        · rw [ofN _ (by omega)]; omega
        · rw [ofN _ (by omega)]; omega
        · rw [ofN _ (by omega)]; omega
theorem piece_head (c : UInt8) (r : List UInt8) : (piece c ++ r).head? ≠ some 10 := by
  have h1 := piece_ten c
  have h2 := piece_len c
  cases h : piece c with
  | nil => rw [h] at h2; simp at h2
  | cons x p => rw [h] at h1; have := h1 x (by simp); simp; rintro rfl; exact this rfl
/-- Behind a break, or at the end. -/
theorem leastGo_break (a : UInt8) (ha : a.toNat ≠ 10) (r : List UInt8) (n most : Nat) : leastGo n most (a :: 10 :: r) = leastGo 0 (max most n) r := by
  show leastGo _ _ (10 :: r) = _
  rw [if_neg ha]
  show leastGo (if (10 : UInt8).toNat = 10 then 0 else _) _ r = _
  rw [if_pos (by decide)]
  have h10 : (10 :: r).head? = some 10 := rfl
  simp only [h10, and_true]
  have : ¬ (0 > (if n + 1 > most + 1 then n + 1 - 1 else most) + 1 ∧ r.head? = some 10) := by omega
  rw [if_neg this]
  congr 1
  split <;> omega

/-- What is read is shown so, at the width of its longest row. -/
theorem row_backGo : ∀ (k : Nat) (first : Bool) (row longest most room : Nat) (t x : List UInt8), t.length ≤ k → longest = max most row → backGo k first row longest room t = some x →
    longest ≤ leastGo row most (t ++ [36, 10]) ∧ leastGo row most (t ++ [36, 10]) < room ∧ rowGo (leastGo row most (t ++ [36, 10])) row x = t := by
  intro k
  induction k with
  | zero =>
    intro first row longest most room t x hk hm h
    have : t = [] := List.eq_nil_of_length_eq_zero (by omega)
    subst this
    rw [backGo_nil] at h
    split at h
    · cases h
    · injection h with h; subst h
      rw [List.nil_append, leastGo_break 36 (by decide)]
      exact ⟨by simp [leastGo]; omega, by simp [leastGo]; omega, rfl⟩
  | succ k ih =>
    intro first row longest most room t x hk hm h
    by_cases ht : t = []
    · subst ht
      rw [backGo_nil] at h
      split at h
      · cases h
      · injection h with h; subst h
        rw [List.nil_append, leastGo_break 36 (by decide)]
        exact ⟨by simp [leastGo]; omega, by simp [leastGo]; omega, rfl⟩
    · obtain ⟨fresh, hf⟩ : ∃ fresh, fresh = (!first && [92, 10].isPrefixOf t) := ⟨_, rfl⟩
      obtain ⟨u, hu⟩ : ∃ u, u = if fresh then t.drop 2 else t := ⟨_, rfl⟩
      rw [backGo_succ k first row longest room t u fresh ht hf hu] at h
      split at h
      · cases h
      · rename_i h0
        obtain ⟨hu1, hu2⟩ := one_some u h0
        obtain ⟨c, hc⟩ : ∃ c, c = (one u).1 := ⟨_, rfl⟩
        obtain ⟨l, hl⟩ : ∃ l, l = (one u).2 := ⟨_, rfl⟩
        rw [← hc] at h hu1 hu2
        rw [← hl] at h hu1 hu2 h0
        obtain ⟨t', ht'⟩ : ∃ t', t' = u.drop l := ⟨_, rfl⟩
        rw [← ht'] at h hu1
        have hhead : (t' ++ [36, 10]).head? ≠ some 10 ∨ t'.head? = some 10 := by
          cases t' with
          | nil => left; decide
          | cons a q => by_cases ha : a = 10
                        · right; rw [ha]; rfl
                        · left; simpa using ha
        cases hx : backGo k false (if fresh = true then l else row + l) (max longest (if fresh = true then l else row + l)) (if fresh = true then min room (row + l) else room) t' with
        | none => rw [hx] at h; cases h
        | some x' =>
          rw [hx] at h
          simp only [Option.map_some, Option.some.injEq] at h
          subst h
          have hlt : t'.length ≤ k := by
            have h1 := congrArg List.length hu1
            rw [List.length_append, ← hu2] at h1
            have h2 : u.length ≤ t.length := by rw [hu]; split <;> simp
            omega
          have hnt : (t' ++ [36, 10]).head? ≠ some 10 := by
            rcases hhead with h | h
            · exact h
            · exfalso
              cases t' with
              | nil => cases h
              | cons a q =>
                simp at h
                subst h
                cases k with
                | zero => simp at hlt
                | succ k =>
                  rw [backGo_succ k _ _ _ _ (10 :: q) (10 :: q) false (by simp) (by simp [List.isPrefixOf]) rfl] at hx
                  rw [if_pos (by rfl)] at hx
                  cases hx
          cases fresh with
          | true =>
            have h2 : [92, 10].isPrefixOf t = true := by simp only [Bool.true_eq, Bool.and_eq_true] at hf; exact hf.2
            obtain ⟨t2, ht2⟩ := List.isPrefixOf_iff_prefix.1 h2
            have hut : u = t2 := by rw [hu, ← ht2]; rfl
            have et : t = 92 :: 10 :: (piece c ++ t') := by rw [← ht2, ← hut, hu1]; rfl
            simp only [if_true] at hx
            obtain ⟨i1, i2, i3⟩ := ih false l (max longest l) longest (min room (row + l)) t' x' hlt rfl hx
            have eL : leastGo row most (t ++ [36, 10]) = leastGo l longest (t' ++ [36, 10]) := by
              rw [et]
              show leastGo row most (92 :: 10 :: (piece c ++ t' ++ [36, 10])) = _
              rw [leastGo_break 92 (by decide), List.append_assoc, leastGo_run _ (piece_ten c) _ hnt, ← hu2, hm]
              simp
            rw [eL]
            refine ⟨by omega, by omega, ?_⟩
            show (if row + (piece c).length > _ then [92, 10] ++ piece c ++ rowGo _ (piece c).length x' else _) = _
            rw [if_pos (by omega), ← hu2, i3, et]
            simp
          | false =>
            have hut : u = t := by rw [hu]; rfl
            have et : t = piece c ++ t' := by rw [← hut, hu1]
            simp only [Bool.false_eq_true, if_false] at hx
            obtain ⟨i1, i2, i3⟩ := ih false (row + l) (max longest (row + l)) most room t' x' hlt (by omega) hx
            have eL : leastGo row most (t ++ [36, 10]) = leastGo (row + l) most (t' ++ [36, 10]) := by
              rw [et, List.append_assoc, leastGo_run _ (piece_ten c) _ hnt, ← hu2]
            rw [eL]
            refine ⟨by omega, i2, ?_⟩
            show (if row + (piece c).length > _ then _ else piece c ++ rowGo _ (row + (piece c).length) x') = _
            rw [if_neg (by omega), ← hu2, i3, et]
theorem row_back (b x : List UInt8) (h : back b = some x) : 4 ≤ leastGo 0 4 b ∧ Row (leastGo 0 4 b) x = b := by
  unfold back at h
  split at h
  · rename_i hs
    obtain ⟨t, ht⟩ := List.isSuffixOf_iff_suffix.1 hs
    have ht2 : b.take (b.length - 2) = t := by
      rw [← ht, List.length_append]
      exact List.take_left' (by simp)
    rw [ht2] at h
    obtain ⟨h1, _, h3⟩ := row_backGo b.length true 0 4 4 _ t x (by rw [← ht]; simp) (by omega) h
    rw [ht] at h1 h3
    exact ⟨h1, by unfold Row; rw [h3, ht]⟩
  · cases h
/-! ### The rows joined -/
def pieces (b : List UInt8) : List UInt8 := b.flatMap piece
theorem rowGo_one (W : Nat) : ∀ (b : List UInt8) (row : Nat), row + 4 * b.length ≤ W → rowGo W row b = pieces b := by
  intro b
  induction b with
  | nil => intro row _; rfl
  | cons c r ih =>
    intro row h
    have hl := piece_len c
    simp only [List.length_cons] at h
    show (if row + (piece c).length > W then _ else _) = _
    rw [if_neg (by omega), ih _ (by omega)]
    simp [pieces]
theorem row_one (b : List UInt8) (W : Nat) (h : 4 * b.length ≤ W) : Row W b = pieces b ++ [36, 10] := by
  unfold Row; rw [rowGo_one W b 0 (by omega)]
/-- What stands ahead of the last two bytes, without the breaks; none: a row is too long, or a byte is none that a person sees. -/
def joinGo (most : Nat) : Nat → Nat → List UInt8 → Option (List UInt8)
  | 0, _, _ => some []
  | _ + 1, _, [] => some []
  | _ + 1, _, [_] => some []
  | _ + 1, _, [_, _] => some []
  | k + 1, row, a :: b :: c :: r => if a.toNat = 92 ∧ b.toNat = 10 then joinGo most k 0 (c :: r) else if row + 1 > most ∨ a.toNat < 32 ∨ a.toNat > 126 then none else (joinGo most k (row + 1) (b :: c :: r)).map (a :: ·)
theorem piece_seen (c : UInt8) : ∀ x ∈ piece c, 32 ≤ x.toNat ∧ x.toNat ≤ 126 := by
  have hlt := c.toNat_lt
  intro x hx
  unfold piece at hx
  split at hx
  · simp at hx; subst hx; decide
  · split at hx
    · rename_i h
      simp at hx
      rcases hx with rfl | rfl
      · decide
      · have : c.toNat - 7 = 0 ∨ c.toNat - 7 = 1 ∨ c.toNat - 7 = 2 ∨ c.toNat - 7 = 3 ∨ c.toNat - 7 = 4 ∨ c.toNat - 7 = 5 ∨ c.toNat - 7 = 6 := by omega
        rcases this with h | h | h | h | h | h | h <;> rw [h] <;> decide
    · split at hx
      · simp at hx; subst hx; omega
      · simp only [List.mem_cons, List.not_mem_nil, or_false] at hx
        rcases hx with rfl | rfl | rfl | rfl
        · decide
        · rw [ofN _ (by omega)]; omega
        · rw [ofN _ (by omega)]; omega
        · rw [ofN _ (by omega)]; omega
/-- Bytes without a line end, and what is no line end behind them. -/
theorem joinGo_run (most : Nat) (p : List UInt8) (hp : ∀ x ∈ p, 32 ≤ x.toNat ∧ x.toNat ≤ 126) : ∀ (k row : Nat) (r : List UInt8), 2 ≤ r.length → r.head? ≠ some 10 → p.length ≤ k → row + p.length ≤ most →
    joinGo most k row (p ++ r) = (joinGo most (k - p.length) (row + p.length) r).map (p ++ ·) := by
  induction p with
  | nil => intro k row r _ _ _ _; simp
  | cons a p ih =>
    intro k row r hr hh hk hm
    have ha := hp a (by simp)
    simp only [List.length_cons] at hk hm ⊢
    cases k with
    | zero => omega
    | succ k =>
      have hnx : (p ++ r).head? ≠ some 10 := by
        cases p with
        | nil => exact hh
        | cons x p => have := hp x (by simp); simp; rintro rfl; simp at this
      have hlen : 2 ≤ (p ++ r).length := by rw [List.length_append]; omega
      have ihh := ih (fun x hx => hp x (by simp [hx])) k (row + 1) r hr hh (by omega) (by omega)
      generalize hq : p ++ r = q at *
      match q, hlen, hnx with
      | b :: c :: q', _, hnx =>
        have hq' : a :: p ++ r = a :: b :: c :: q' := by rw [List.cons_append, hq]
        rw [hq']
        show (if a.toNat = 92 ∧ b.toNat = 10 then _ else _) = _
        have hb : b.toNat ≠ 10 := fun e => hnx (by simp; rw [← UInt8.toNat_inj]; exact e)
        rw [if_neg (fun h => hb h.2), if_neg (by omega), ihh, Option.map_map]
        have e1 : k + 1 - (p.length + 1) = k - p.length := by omega
        have e2 : row + 1 + p.length = row + (p.length + 1) := by omega
        rw [e1, e2]
        congr 1
theorem rowGo_head (W row : Nat) (b : List UInt8) : (rowGo W row b ++ [36, 10]).head? ≠ some 10 ∧ 2 ≤ (rowGo W row b ++ [36, 10]).length := by
  refine ⟨?_, by simp⟩
  cases b with
  | nil => simp [rowGo]
  | cons c r =>
    show ((if row + (piece c).length > W then _ else _) ++ [36, 10] : List UInt8).head? ≠ _
    split
    · simp
    · rw [List.append_assoc]; exact piece_head c _
theorem joinGo_row (W : Nat) (hW : 4 ≤ W) : ∀ (b : List UInt8) (k row : Nat), row ≤ W → (rowGo W row b).length ≤ k → joinGo W k row (rowGo W row b ++ [36, 10]) = some (pieces b) := by
  intro b
  induction b with
  | nil =>
    intro k row _ _
    cases k <;> rfl
  | cons c r ih =>
    intro k row hr hk
    have hl := piece_len c
    by_cases hb : row + (piece c).length > W
    · have e : rowGo W row (c :: r) = [92, 10] ++ (piece c ++ rowGo W (piece c).length r) := by
        show (if row + (piece c).length > W then _ else _) = _
        rw [if_pos hb, List.append_assoc]
      rw [e] at hk ⊢
      rw [List.length_append, List.length_append] at hk
      simp only [List.length_cons, List.length_nil] at hk
      cases k with
      | zero => omega
      | succ k =>
        obtain ⟨h1, h2⟩ := rowGo_head W (piece c).length r
        have hrun := joinGo_run W (piece c) (piece_seen c) k 0 (rowGo W (piece c).length r ++ [36, 10]) h2 h1 (by omega) (by omega)
        rw [Nat.zero_add, ih (k - (piece c).length) (piece c).length (by omega) (by omega)] at hrun
        rw [← List.append_assoc] at hrun
        have hne : 1 ≤ (piece c ++ rowGo W (piece c).length r ++ [36, 10]).length := by simp; omega
        show joinGo W (k + 1) row (92 :: 10 :: (piece c ++ rowGo W (piece c).length r ++ [36, 10])) = _
        generalize piece c ++ rowGo W (piece c).length r ++ [36, 10] = q at *
        match q, hne with
        | x :: q', _ =>
          show (if (92 : UInt8).toNat = 92 ∧ (10 : UInt8).toNat = 10 then _ else _) = _
          rw [if_pos ⟨by decide, by decide⟩, hrun]
          simp [pieces]
    · have e : rowGo W row (c :: r) = piece c ++ rowGo W (row + (piece c).length) r := by
        show (if row + (piece c).length > W then _ else _) = _
        rw [if_neg hb]
      rw [e] at hk ⊢
      rw [List.length_append] at hk
      obtain ⟨h1, h2⟩ := rowGo_head W (row + (piece c).length) r
      rw [List.append_assoc, joinGo_run W (piece c) (piece_seen c) k row _ h2 h1 (by omega) (by omega), ih (k - (piece c).length) _ (by omega) (by omega)]
      simp [pieces]
end Go.Proofs.YtgbjcpnlllaeeaaDoor.Fold
