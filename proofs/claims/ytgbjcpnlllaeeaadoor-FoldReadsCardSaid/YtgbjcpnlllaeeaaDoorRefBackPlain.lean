/- What the document reads of bytes that are shown: the same. No program in sight. No conditions. -/
import Derived.Test.YtgbjcpnlllaeeaaDoorFoldPlain
namespace Go.Proofs.YtgbjcpnlllaeeaaDoor.Fold

/-- What is decoded of a text without its end. -/
def decGo : Nat → Bool → List UInt8 → Option (List UInt8)
  | 0, _, t => if t = [] then some [] else none
  | k + 1, first, t =>
    if t = [] then some [] else
    if !first && [92, 10].isPrefixOf t then decGo k false (t.drop 2) else
    if (one t).2 = 0 then none else (decGo k false (t.drop (one t).2)).map ((one t).1 :: ·)
def refBack (b : List UInt8) : Option (List UInt8) :=
  if [36, 10].isSuffixOf b then
    match decGo b.length true (b.take (b.length - 2)) with
    | none => none
    | some x => if Row (leastGo 0 4 b) x = b then some x else none
  else none
theorem decGo_nil (k : Nat) (first : Bool) : decGo k first [] = some [] := by cases k <;> simp [decGo]
theorem decGo_skip (k : Nat) (t : List UInt8) (ht : [92, 10].isPrefixOf t = true) : decGo (k + 1) false t = decGo k false (t.drop 2) := by
  have : t ≠ [] := by rintro rfl; simp at ht
  rw [decGo, if_neg this, if_pos (by simpa using ht)]
theorem decGo_one (k : Nat) (first : Bool) (t : List UInt8) (h0 : t ≠ []) (ht : (!first && [92, 10].isPrefixOf t) = false) : decGo (k + 1) first t = if (one t).2 = 0 then none else (decGo k false (t.drop (one t).2)).map ((one t).1 :: ·) := by
  rw [decGo, if_neg h0, if_neg (by rw [ht]; simp)]
theorem dec_rowGo (W : Nat) (hW : 4 ≤ W) : ∀ (b : List UInt8) (k row : Nat) (first : Bool), (first = true → row = 0) → (rowGo W row b).length ≤ k → decGo k first (rowGo W row b) = some b := by
  intro b
  induction b with
  | nil => intro k row first _ _; exact decGo_nil k first
  | cons c r ih =>
    intro k row first h0 hk
    have hl := piece_len c
    by_cases hb : row + (piece c).length > W
    · have e : rowGo W row (c :: r) = [92, 10] ++ (piece c ++ rowGo W (piece c).length r) := by
        show (if row + (piece c).length > W then _ else _) = _
        rw [if_pos hb, List.append_assoc]
      have hfirst : first = false := by
        cases first with
        | false => rfl
        | true => have := h0 rfl; omega
      rw [e] at hk ⊢
      simp only [List.length_append, List.length_cons, List.length_nil] at hk
      obtain ⟨k, rfl⟩ : ∃ j, k = j + 1 + 1 := ⟨k - 2, by omega⟩
      have hone := one_piece c (rowGo W (piece c).length r)
      have hne : piece c ++ rowGo W (piece c).length r ≠ [] := fun h => by have := congrArg List.length h; rw [List.length_append, List.length_nil] at this; omega
      rw [hfirst, decGo_skip _ _ (by rfl)]
      show decGo (k + 1) false (piece c ++ rowGo W (piece c).length r) = _
      rw [decGo_one _ _ _ hne (by rw [piece_fresh]; rfl), hone, if_neg (by simp only; omega)]
      simp only [List.drop_left]
      rw [ih k _ false (fun h => by cases h) (by omega)]
      rfl
    · have e : rowGo W row (c :: r) = piece c ++ rowGo W (row + (piece c).length) r := by
        show (if row + (piece c).length > W then _ else _) = _
        rw [if_neg hb]
      rw [e] at hk ⊢
      rw [List.length_append] at hk
      obtain ⟨k, rfl⟩ : ∃ j, k = j + 1 := ⟨k - 1, by omega⟩
      have hone := one_piece c (rowGo W (row + (piece c).length) r)
      have hne : piece c ++ rowGo W (row + (piece c).length) r ≠ [] := fun h => by have := congrArg List.length h; rw [List.length_append, List.length_nil] at this; omega
      rw [decGo_one _ _ _ hne (by rw [piece_fresh]; simp), hone, if_neg (by simp only; omega)]
      simp only [List.drop_left]
      rw [ih k _ false (fun h => by cases h) (by omega)]
      rfl
theorem dec_len : ∀ (k : Nat) (first : Bool) (t x : List UInt8), decGo k first t = some x → x.length ≤ t.length := by
  intro k
  induction k with
  | zero =>
    intro first t x h
    rw [decGo] at h
    split at h
    · injection h with h; subst h; simp
    · cases h
  | succ k ih =>
    intro first t x h
    rw [decGo] at h
    split at h
    · injection h with h; subst h; simp
    · split at h
      · have := ih _ _ _ h
        simp at this; omega
      · split at h
        · cases h
        · rename_i h0
          cases hd : decGo k false (t.drop (one t).2) with
          | none => rw [hd] at h; cases h
          | some y =>
            rw [hd] at h
            simp only [Option.map_some, Option.some.injEq] at h
            subst h
            have h1 := ih _ _ _ hd
            have h2 := one_le t
            simp at h1 ⊢
            omega
theorem leastGo_ge : ∀ (b : List UInt8) (n most : Nat), most ≤ leastGo n most b := by
  intro b
  induction b with
  | nil => intro n most; exact Nat.le_refl _
  | cons c r ih =>
    intro n most
    rw [leastGo]
    refine Nat.le_trans ?_ (ih _ _)
    repeat' split
    all_goals omega
/-- The two read the same. -/
theorem refBack_eq (b : List UInt8) (hb : b.length ≤ 4294967296) : refBack b = back b := by
  unfold refBack
  cases hx : back b with
  | some x =>
    obtain ⟨h4, hr⟩ := row_back b x hx
    have hs : [36, 10].isSuffixOf b = true := by
      unfold back at hx
      split at hx
      · assumption
      · cases hx
    have ht : b.take (b.length - 2) = rowGo (leastGo 0 4 b) 0 x := by
      obtain ⟨L, hL⟩ : ∃ L, L = leastGo 0 4 b := ⟨_, rfl⟩
      rw [← hL] at hr ⊢
      rw [← hr]
      unfold Row
      rw [List.length_append]
      exact List.take_left' (by simp)
    rw [if_pos hs, ht, dec_rowGo _ h4 x _ 0 true (fun _ => rfl) (by rw [← ht]; simp)]
    show (if Row (leastGo 0 4 b) x = b then some x else none) = _
    rw [if_pos hr]
  | none =>
    split
    · rename_i hs
      cases hd : decGo b.length true (b.take (b.length - 2)) with
      | none => rfl
      | some x =>
        simp only
        split
        · rename_i hr
          exfalso
          have hlen := dec_len _ _ _ _ hd
          simp at hlen
          have h4 := leastGo_ge b 0 4
          have : back (Row (leastGo 0 4 b) x) = some x := by
            unfold back Row
            rw [if_pos (by rw [List.isSuffixOf_iff_suffix]; exact ⟨_, rfl⟩)]
            have : (rowGo (leastGo 0 4 b) 0 x ++ [36, 10]).take ((rowGo (leastGo 0 4 b) 0 x ++ [36, 10]).length - 2) = rowGo (leastGo 0 4 b) 0 x := by
              rw [List.length_append]
              exact List.take_left' (by simp)
            rw [this]
            exact back_rowGo _ h4 x _ 0 4 _ true (fun _ => rfl) (by omega) h4 (by omega) (.inr rfl) (by simp)
          rw [hr, hx] at this
          cases this
        · rfl
    · rfl
/-- The first byte whose piece stands there, from a byte on. -/
def readGo : Nat → Nat → List UInt8 → UInt8 × Nat
  | 0, _, _ => (0, 0)
  | f + 1, c, t => if (piece (UInt8.ofNat c)).isPrefixOf t then (UInt8.ofNat c, (piece (UInt8.ofNat c)).length) else readGo f (c + 1) t
theorem readGo_one (t : List UInt8) : ∀ f c, f + c = 256 → (∀ d, d < c → (piece (UInt8.ofNat d)).isPrefixOf t = false) → readGo f c t = if (one t).2 = 0 then (0, 0) else one t := by
  have hone : ∀ x : UInt8, (piece x).isPrefixOf t = true → one t = (x, (piece x).length) := fun x h => by
    obtain ⟨r, hr⟩ := List.isPrefixOf_iff_prefix.1 h
    rw [← hr]
    exact one_piece x r
  intro f
  induction f with
  | zero =>
    intro c hc hn
    rw [readGo]
    split
    · rfl
    · rename_i h0
      exfalso
      obtain ⟨h1, h2⟩ := one_some t h0
      have h3 := hn (one t).1.toNat (by have := (one t).1.toNat_lt; omega)
      rw [UInt8.ofNat_toNat] at h3
      have : (piece (one t).1).isPrefixOf t = true := List.isPrefixOf_iff_prefix.2 ⟨_, h1.symm⟩
      rw [h3] at this
      cases this
  | succ f ih =>
    intro c hc hn
    rw [readGo]
    split
    · rename_i hp
      have := hone _ hp
      rw [this, if_neg (by simp only; have := piece_len (UInt8.ofNat c); omega)]
    · rename_i hp
      refine ih (c + 1) (by omega) fun d hd => ?_
      rcases Nat.lt_or_ge d c with h | h
      · exact hn d h
      · obtain rfl : d = c := by omega
        simpa only [Bool.not_eq_true] using hp
end Go.Proofs.YtgbjcpnlllaeeaaDoor.Fold
