/- Texts that lead to the claim, one behind the other: Bytes shown as text and read again: what quote's functions and the document's do, without memory. No program in sight. No conditions. | Characters of UTF-8 as the program's range over a string meets them, against the plain reading of a list of bytes. No program in sight. No conditions. | Characters from 128 on, as a range over a string meets them. No program in sight. No conditions. -/
import Derived.Laws.RangeAny
import Derived.Lib.Small
namespace Go.Proofs.YtnpideapdjomgaaDoor.Quote
open Go

/-- How many bytes the character has with which a list begins; 0: none begins there. -/
def sz : List UInt8 → Nat
  | [] => 0
  | a :: r =>
    if a.toNat < 128 then 1
    else if 192 ≤ a.toNat ∧ a.toNat < 224 then
      match r with
      | b :: _ => if 128 ≤ b.toNat ∧ b.toNat ≤ 191 ∧ 128 ≤ 64 * (a.toNat - 192) + (b.toNat - 128) then 2 else 0
      | [] => 0
    else if 224 ≤ a.toNat ∧ a.toNat < 240 then
      match r with
      | b :: c :: _ =>
        let code := 64 * (64 * (a.toNat - 224) + (b.toNat - 128)) + (c.toNat - 128)
        if 128 ≤ b.toNat ∧ b.toNat ≤ 191 ∧ 128 ≤ c.toNat ∧ c.toNat ≤ 191 ∧ 2048 ≤ code ∧ ¬ (55296 ≤ code ∧ code ≤ 57343) then 3 else 0
      | _ => 0
    else if 240 ≤ a.toNat ∧ a.toNat < 248 then
      match r with
      | b :: c :: d :: _ =>
        let code := 64 * (64 * (64 * (a.toNat - 240) + (b.toNat - 128)) + (c.toNat - 128)) + (d.toNat - 128)
        if 128 ≤ b.toNat ∧ b.toNat ≤ 191 ∧ 128 ≤ c.toNat ∧ c.toNat ≤ 191 ∧ 128 ≤ d.toNat ∧ d.toNat ≤ 191 ∧ 65536 ≤ code ∧ code ≤ 1114111 then 4 else 0
      | _ => 0
    else 0
theorem sz_le : ∀ l : List UInt8, sz l ≤ l.length
  | [] => by simp [sz]
  | [a] => by simp only [sz]; (repeat' split) <;> simp
  | [a, b] => by simp only [sz]; (repeat' split) <;> simp
  | [a, b, c] => by simp only [sz]; (repeat' split) <;> simp
  | a :: b :: c :: d :: r => by simp only [sz]; (repeat' split) <;> simp
/-- A byte's text, where it does not stand as it is. -/
def hexd (n : Nat) : UInt8 := if n < 10 then UInt8.ofNat (48 + n) else UInt8.ofNat (87 + n)
def esc (c : UInt8) : List UInt8 :=
  if c.toNat = 34 then [92, 34] else if c.toNat = 92 then [92, 92] else if c.toNat = 10 then [92, 110] else if c.toNat = 9 then [92, 116] else if c.toNat = 13 then [92, 114]
  else [92, 120, hexd (c.toNat / 16), hexd (c.toNat % 16)]
/-- May the character of n bytes stand as it is? -/
def fair : List UInt8 → Nat → Bool
  | [], _ => false
  | a :: r, n => if n = 1 then decide (32 ≤ a.toNat ∧ a.toNat ≠ 127 ∧ a.toNat ≠ 34 ∧ a.toNat ≠ 92) else !decide (n = 2 ∧ a.toNat = 194 ∧ (r.getD 0 0).toNat < 160)
/-- What stands between the quotes. -/
def bodyGo : Nat → List UInt8 → List UInt8
  | 0, _ => []
  | _ + 1, [] => []
  | k + 1, a :: r => if 0 < sz (a :: r) ∧ fair (a :: r) (sz (a :: r)) = true then (a :: r).take (sz (a :: r)) ++ bodyGo k ((a :: r).drop (sz (a :: r))) else esc a ++ bodyGo k r
def body (l : List UInt8) : List UInt8 := bodyGo l.length l
def show_ (l : List UInt8) : List UInt8 := 34 :: (body l ++ [34])
theorem bodyGo_more : ∀ (k : Nat) (l : List UInt8), l.length ≤ k → bodyGo k l = body l := by
  intro k
  induction k using Nat.strongRecOn with
  | ind k ih =>
    intro l hl
    match k, l, hl with
    | 0, [], _ => rfl
    | 0, a :: r, h => simp at h
    | k + 1, [], _ => rfl
    | k + 1, a :: r, hl =>
      have hk : r.length ≤ k := by simpa using hl
      unfold body
      simp only [List.length_cons, bodyGo]
      by_cases h : 0 < sz (a :: r) ∧ fair (a :: r) (sz (a :: r)) = true
      · rw [if_pos h, if_pos h]
        have hlen : ((a :: r).drop (sz (a :: r))).length ≤ r.length := by rw [List.length_drop, List.length_cons]; omega
        rw [ih k (Nat.lt_succ_self k) _ (by omega)]
        rcases Nat.lt_or_ge r.length (k + 1) with h2 | h2
        · rw [ih r.length (by omega) _ hlen]
        · omega
      · rw [if_neg h, if_neg h, ih k (Nat.lt_succ_self k) _ hk]
        rfl
theorem body_nil : body [] = [] := rfl
theorem body_fair {a : UInt8} {r : List UInt8} (h : 0 < sz (a :: r)) (hf : fair (a :: r) (sz (a :: r)) = true) : body (a :: r) = (a :: r).take (sz (a :: r)) ++ body ((a :: r).drop (sz (a :: r))) := by
  have e : body (a :: r) = bodyGo (r.length + 1) (a :: r) := rfl
  rw [e]
  simp only [bodyGo]
  rw [if_pos ⟨h, hf⟩, bodyGo_more _ _ (by rw [List.length_drop, List.length_cons]; omega)]
theorem body_esc {a : UInt8} {r : List UInt8} (h : ¬ (0 < sz (a :: r) ∧ fair (a :: r) (sz (a :: r)) = true)) : body (a :: r) = esc a ++ body r := by
  have e : body (a :: r) = bodyGo (r.length + 1) (a :: r) := rfl
  rw [e]
  simp only [bodyGo]
  rw [if_neg h, bodyGo_more _ _ (Nat.le_refl _)]
/-! ### Read again -/
def hexv (c : UInt8) : Option Nat :=
  if 48 ≤ c.toNat ∧ c.toNat ≤ 57 then some (c.toNat - 48) else if 97 ≤ c.toNat ∧ c.toNat ≤ 102 then some (c.toNat - 87) else none
theorem hexv_hexd : ∀ n, n < 16 → hexv (hexd n) = some n := by decide
/-- The bytes that a text between quotes says; 'hx': what two signs behind \\x say. -/
def readGo (hx : UInt8 → UInt8 → Option UInt8) : Nat → List UInt8 → Option (List UInt8)
  | 0, _ => some []
  | _ + 1, [] => some []
  | _ + 1, [a] => some [a]
  | k + 1, a :: c :: r =>
    if a.toNat ≠ 92 then (readGo hx k (c :: r)).map (a :: ·)
    else if c.toNat = 110 then (readGo hx k r).map (10 :: ·)
    else if c.toNat = 116 then (readGo hx k r).map (9 :: ·)
    else if c.toNat = 114 then (readGo hx k r).map (13 :: ·)
    else if c.toNat = 120 then
      match r with
      | u :: v :: r' => match hx u v with
        | some y => (readGo hx k r').map (y :: ·)
        | none => none
      | _ => none
    else (readGo hx k r).map (c :: ·)
def read (hx : UInt8 → UInt8 → Option UInt8) (l : List UInt8) : Option (List UInt8) := readGo hx l.length l
section
variable (hx : UInt8 → UInt8 → Option UInt8)
def stepR (f : List UInt8 → Option (List UInt8)) (a c : UInt8) (r : List UInt8) : Option (List UInt8) :=
  if a.toNat ≠ 92 then (f (c :: r)).map (a :: ·)
  else if c.toNat = 110 then (f r).map (10 :: ·)
  else if c.toNat = 116 then (f r).map (9 :: ·)
  else if c.toNat = 114 then (f r).map (13 :: ·)
  else if c.toNat = 120 then
    match r with
    | u :: v :: r' => match hx u v with
      | some y => (f r').map (y :: ·)
      | none => none
    | _ => none
  else (f r).map (c :: ·)
theorem readGo_step (k : Nat) (a c : UInt8) (r : List UInt8) : readGo hx (k + 1) (a :: c :: r) = stepR hx (readGo hx k) a c r := by
  match r with
  | [] => rfl
  | [u] => rfl
  | u :: v :: r' => rfl
theorem stepR_congr {f g : List UInt8 → Option (List UInt8)} (a c : UInt8) (r : List UInt8) (h : ∀ m, m.length ≤ r.length + 1 → f m = g m) : stepR hx f a c r = stepR hx g a c r := by
  unfold stepR
  rw [h (c :: r) (by simp), h r (by omega)]
  match r, h with
  | [], h => rfl
  | [u], h => rfl
  | u :: v :: r', h => simp only; rw [h r' (by simp; omega)]
theorem readGo_more : ∀ (k : Nat) (l : List UInt8), l.length ≤ k → readGo hx k l = read hx l := by
  intro k
  induction k using Nat.strongRecOn with
  | ind k ih =>
    intro l hl
    match k, l, hl with
    | 0, [], _ => rfl
    | 0, a :: r, h => simp at h
    | k + 1, [], _ => rfl
    | k + 1, [a], _ => rfl
    | k + 1, a :: c :: r, hl =>
      have hk : r.length + 1 ≤ k := by simpa using hl
      show readGo hx (k + 1) (a :: c :: r) = readGo hx (r.length + 1 + 1) (a :: c :: r)
      rw [readGo_step, readGo_step]
      refine stepR_congr hx a c r fun m hm => ?_
      rw [ih k (Nat.lt_succ_self k) m (by omega)]
      rcases Nat.lt_or_ge (r.length + 1) (k + 1) with h2 | h2
      · exact (ih (r.length + 1) h2 m hm).symm
      · omega
theorem read_step (a c : UInt8) (r : List UInt8) : read hx (a :: c :: r) = stepR hx (read hx) a c r := by
  show readGo hx (r.length + 1 + 1) (a :: c :: r) = _
  rw [readGo_step]
  exact stepR_congr hx a c r fun m hm => readGo_more hx _ m hm
theorem read_nil : read hx [] = some [] := rfl
theorem read_plain {a : UInt8} (r : List UInt8) (h : a.toNat ≠ 92) : read hx (a :: r) = (read hx r).map (a :: ·) := by
  cases r with
  | nil => rfl
  | cons c r => rw [read_step]; unfold stepR; rw [if_pos h]
theorem read_back {c : UInt8} (r : List UInt8) (h : c.toNat ≠ 110 ∧ c.toNat ≠ 116 ∧ c.toNat ≠ 114 ∧ c.toNat ≠ 120) : read hx (92 :: c :: r) = (read hx r).map (c :: ·) := by
  rw [read_step]; unfold stepR
  rw [if_neg (by decide), if_neg h.1, if_neg h.2.1, if_neg h.2.2.1, if_neg h.2.2.2]
theorem read_n (r : List UInt8) : read hx (92 :: 110 :: r) = (read hx r).map (10 :: ·) := by
  rw [read_step]; unfold stepR
  rw [if_neg (by decide), if_pos (by decide)]
theorem read_t (r : List UInt8) : read hx (92 :: 116 :: r) = (read hx r).map (9 :: ·) := by
  rw [read_step]; unfold stepR
  rw [if_neg (by decide), if_neg (by decide), if_pos (by decide)]
theorem read_r (r : List UInt8) : read hx (92 :: 114 :: r) = (read hx r).map (13 :: ·) := by
  rw [read_step]; unfold stepR
  rw [if_neg (by decide), if_neg (by decide), if_neg (by decide), if_pos (by decide)]
theorem read_x (u v y : UInt8) (r : List UInt8) (h : hx u v = some y) : read hx (92 :: 120 :: u :: v :: r) = (read hx r).map (y :: ·) := by
  rw [read_step]; unfold stepR
  rw [if_neg (by decide), if_neg (by decide), if_neg (by decide), if_neg (by decide), if_pos (by decide)]
  simp only
  rw [h]
theorem u8_eq {c : UInt8} {n : Nat} (h : c.toNat = n) : c = UInt8.ofNat n := by rw [← h]; simp
theorem read_esc (hh : ∀ i j, i < 16 → j < 16 → hx (hexd i) (hexd j) = some (UInt8.ofNat (16 * i + j))) (c : UInt8) (r : List UInt8) : read hx (esc c ++ r) = (read hx r).map (c :: ·) := by
  unfold esc
  by_cases h1 : c.toNat = 34
  · rw [if_pos h1, u8_eq h1]; exact read_back hx r (by decide)
  rw [if_neg h1]
  by_cases h2 : c.toNat = 92
  · rw [if_pos h2, u8_eq h2]; exact read_back hx r (by decide)
  rw [if_neg h2]
  by_cases h3 : c.toNat = 10
  · rw [if_pos h3, u8_eq h3]; exact read_n hx r
  rw [if_neg h3]
  by_cases h4 : c.toNat = 9
  · rw [if_pos h4, u8_eq h4]; exact read_t hx r
  rw [if_neg h4]
  by_cases h5 : c.toNat = 13
  · rw [if_pos h5, u8_eq h5]; exact read_r hx r
  rw [if_neg h5]
  have hc := c.toNat_lt
  have h6 := hh (c.toNat / 16) (c.toNat % 16) (by omega) (by omega)
  rw [Nat.div_add_mod, ← u8_eq rfl] at h6
  exact read_x hx _ _ c r h6
theorem high : ∀ (l : List UInt8) (n : Nat), n = sz l → 2 ≤ n → ∀ x ∈ l.take n, 128 ≤ x.toNat
  | [], n, hn, h2, x, hx => by simp [sz] at hn; omega
  | [a], n, hn, h2, x, hx => by
    simp only [sz] at hn
    (repeat' split at hn) <;> omega
  | [a, b], n, hn, h2, x, hx => by
    simp only [sz] at hn
    (repeat' split at hn) <;> first | omega | (subst hn; simp at hx; rcases hx with rfl | rfl <;> omega)
  | [a, b, c], n, hn, h2, x, hx => by
    simp only [sz] at hn
    (repeat' split at hn) <;> first | omega | (subst hn; simp at hx; rcases hx with rfl | rfl <;> omega) | (subst hn; simp at hx; rcases hx with rfl | rfl | rfl <;> omega)
  | a :: b :: c :: d :: r, n, hn, h2, x, hx => by
    simp only [sz] at hn
    (repeat' split at hn) <;> first | omega | (subst hn; simp at hx; rcases hx with rfl | rfl <;> omega) | (subst hn; simp at hx; rcases hx with rfl | rfl | rfl <;> omega) | (subst hn; simp at hx; rcases hx with rfl | rfl | rfl | rfl <;> omega)
/-- The bytes of a fair character are none of them a backslash. -/
theorem fair_plain (l : List UInt8) (h : 0 < sz l) (hf : fair l (sz l) = true) : ∀ x ∈ l.take (sz l), x.toNat ≠ 92 := by
  intro x hx
  rcases Nat.lt_or_ge (sz l) 2 with h1 | h1
  · have e : sz l = 1 := by omega
    rw [e] at hf hx
    cases l with
    | nil => simp at hx
    | cons a r =>
      simp only [List.take_succ_cons, List.take_zero, List.mem_singleton] at hx
      subst hx
      have h2 : decide (32 ≤ x.toNat ∧ x.toNat ≠ 127 ∧ x.toNat ≠ 34 ∧ x.toNat ≠ 92) = true := hf
      exact (of_decide_eq_true h2).2.2.2
  · have := high l _ rfl h1 x hx
    omega
theorem read_row : ∀ (t r : List UInt8), (∀ x ∈ t, x.toNat ≠ 92) → read hx (t ++ r) = (read hx r).map (t ++ ·)
  | [], r, _ => by simp
  | a :: t, r, h => by
    rw [List.cons_append, read_plain hx (t ++ r) (h a (by simp)), read_row t r (fun x hx => h x (by simp [hx])), Option.map_map]
    rfl
/-- THERE AND BACK. -/
theorem read_body (hh : ∀ i j, i < 16 → j < 16 → hx (hexd i) (hexd j) = some (UInt8.ofNat (16 * i + j))) : ∀ (n : Nat) (l : List UInt8), l.length ≤ n → read hx (body l) = some l
  | n, [], _ => rfl
  | 0, a :: r, h => by simp at h
  | n + 1, a :: r, h => by
    have hr : r.length ≤ n := by simpa using h
    by_cases hc : 0 < sz (a :: r) ∧ fair (a :: r) (sz (a :: r)) = true
    · rw [body_fair hc.1 hc.2, read_row hx _ _ (fair_plain _ hc.1 hc.2), read_body hh n _ (by rw [List.length_drop, List.length_cons]; omega)]
      simp
    · rw [body_esc hc, read_esc hx hh, read_body hh n r hr]
      rfl
end
/-! ### The document's guess -/
def guessStep (f : List UInt8 → List UInt8) (a c : UInt8) (r : List UInt8) : List UInt8 :=
  if a.toNat ≠ 92 ∨ r = [] then a :: f (c :: r)
  else if c.toNat = 110 then 10 :: f r
  else if c.toNat = 116 then 9 :: f r
  else if c.toNat = 114 then 13 :: f r
  else if c.toNat = 120 then
    (match r with
      | u :: v :: _ => match hexv u, hexv v with
        | some i, some j => [UInt8.ofNat (16 * i + j)]
        | _, _ => []
      | _ => []) ++ f (r.drop 2)
  else c :: f r
def guessGo : Nat → List UInt8 → List UInt8
  | 0, _ => []
  | _ + 1, [] => []
  | _ + 1, [_] => []
  | k + 1, a :: c :: r => guessStep (guessGo k) a c r
/-- What a text without its first sign says (the last sign closes it). -/
def guess (l : List UInt8) : List UInt8 := guessGo l.length l
theorem guessStep_congr {f g : List UInt8 → List UInt8} (a c : UInt8) (r : List UInt8) (h : ∀ m, m.length ≤ r.length + 1 → f m = g m) : guessStep f a c r = guessStep g a c r := by
  unfold guessStep
  rw [h (c :: r) (by simp), h r (by omega), h (r.drop 2) (by rw [List.length_drop]; omega)]
theorem guessGo_more : ∀ (k : Nat) (l : List UInt8), l.length ≤ k → guessGo k l = guess l := by
  intro k
  induction k using Nat.strongRecOn with
  | ind k ih =>
    intro l hl
    match k, l, hl with
    | 0, [], _ => rfl
    | 0, a :: r, h => simp at h
    | k + 1, [], _ => rfl
    | k + 1, [a], _ => rfl
    | k + 1, a :: c :: r, hl =>
      have hk : r.length + 1 ≤ k := by simpa using hl
      show guessStep (guessGo k) a c r = guessStep (guessGo (r.length + 1)) a c r
      refine guessStep_congr a c r fun m hm => ?_
      rw [ih k (Nat.lt_succ_self k) m (by omega)]
      rcases Nat.lt_or_ge (r.length + 1) (k + 1) with h2 | h2
      · exact (ih (r.length + 1) h2 m hm).symm
      · omega
theorem guess_step (a c : UInt8) (r : List UInt8) : guess (a :: c :: r) = guessStep guess a c r := by
  show guessStep (guessGo (r.length + 1)) a c r = _
  exact guessStep_congr a c r fun m hm => guessGo_more _ m hm
theorem guess_one (a : UInt8) : guess [a] = [] := rfl
theorem guess_plain {a : UInt8} (r : List UInt8) (h : a.toNat ≠ 92) (hr : r ≠ []) : guess (a :: r) = a :: guess r := by
  cases r with
  | nil => exact absurd rfl hr
  | cons c r => rw [guess_step]; unfold guessStep; rw [if_pos (.inl h)]
theorem guess_esc (c : UInt8) (r : List UInt8) (hr : r ≠ []) : guess (esc c ++ r) = c :: guess r := by
  unfold esc
  have hb : ¬ ((92 : UInt8).toNat ≠ 92 ∨ r = []) := by rintro (h | h); exact h rfl; exact hr h
  by_cases h1 : c.toNat = 34
  · rw [if_pos h1, u8_eq h1]; show guess (92 :: 34 :: r) = _
    rw [guess_step]; unfold guessStep
    rw [if_neg hb, if_neg (by decide), if_neg (by decide), if_neg (by decide), if_neg (by decide)]; rfl
  rw [if_neg h1]
  by_cases h2 : c.toNat = 92
  · rw [if_pos h2, u8_eq h2]; show guess (92 :: 92 :: r) = _
    rw [guess_step]; unfold guessStep
    rw [if_neg hb, if_neg (by decide), if_neg (by decide), if_neg (by decide), if_neg (by decide)]; rfl
  rw [if_neg h2]
  by_cases h3 : c.toNat = 10
  · rw [if_pos h3, u8_eq h3]; show guess (92 :: 110 :: r) = _
    rw [guess_step]; unfold guessStep
    rw [if_neg hb, if_pos (by decide)]; rfl
  rw [if_neg h3]
  by_cases h4 : c.toNat = 9
  · rw [if_pos h4, u8_eq h4]; show guess (92 :: 116 :: r) = _
    rw [guess_step]; unfold guessStep
    rw [if_neg hb, if_neg (by decide), if_pos (by decide)]; rfl
  rw [if_neg h4]
  by_cases h5 : c.toNat = 13
  · rw [if_pos h5, u8_eq h5]; show guess (92 :: 114 :: r) = _
    rw [guess_step]; unfold guessStep
    rw [if_neg hb, if_neg (by decide), if_neg (by decide), if_pos (by decide)]; rfl
  rw [if_neg h5]
  have hc := c.toNat_lt
  show guess (92 :: 120 :: hexd (c.toNat / 16) :: hexd (c.toNat % 16) :: r) = _
  rw [guess_step]; unfold guessStep
  rw [if_neg (by simp), if_neg (by decide), if_neg (by decide), if_neg (by decide), if_pos (by decide)]
  simp only [hexv_hexd _ (show c.toNat / 16 < 16 by omega), hexv_hexd _ (show c.toNat % 16 < 16 by omega), Nat.div_add_mod, ← u8_eq rfl]
  rfl
theorem guess_row : ∀ (t r : List UInt8), (∀ x ∈ t, x.toNat ≠ 92) → r ≠ [] → guess (t ++ r) = t ++ guess r
  | [], r, _, _ => rfl
  | a :: t, r, h, hr => by
    rw [List.cons_append, guess_plain (t ++ r) (h a (by simp)) (by simp [hr]), guess_row t r (fun x hx => h x (by simp [hx])) hr]
    rfl
theorem guess_body : ∀ (n : Nat) (l : List UInt8), l.length ≤ n → guess (body l ++ [34]) = l
  | _, [], _ => rfl
  | 0, a :: r, h => by simp at h
  | n + 1, a :: r, h => by
    have hr : r.length ≤ n := by simpa using h
    by_cases hc : 0 < sz (a :: r) ∧ fair (a :: r) (sz (a :: r)) = true
    · rw [body_fair hc.1 hc.2, List.append_assoc, guess_row _ _ (fair_plain _ hc.1 hc.2) (by simp), guess_body n _ (by rw [List.length_drop, List.length_cons]; omega)]
      simp
    · rw [body_esc hc, List.append_assoc, guess_esc _ _ (by simp), guess_body n r hr]
/-! ### Behind whole characters -/
theorem sz_append : ∀ (l r : List UInt8), 0 < sz l → sz (l ++ r) = sz l
  | [], r, h => by simp [sz] at h
  | [a], r, h => by
    by_cases ha : a.toNat < 128
    · simp [sz, ha]
    · exfalso
      simp only [sz, if_neg ha] at h
      (repeat' split at h) <;> simp at h
  | [a, b], r, h => by
    simp only [List.cons_append, List.nil_append]
    simp only [sz] at h ⊢
    (repeat' split at h) <;> simp_all
  | [a, b, c], r, h => by
    simp only [List.cons_append, List.nil_append]
    simp only [sz] at h ⊢
    (repeat' split at h) <;> simp_all
  | a :: b :: c :: d :: t, r, h => by
    simp only [List.cons_append]
    simp only [sz]
theorem sz_cont {b : UInt8} (t : List UInt8) (h1 : 128 ≤ b.toNat) (h2 : b.toNat ≤ 191) : sz (b :: t) = 0 := by
  simp only [sz]
  rw [if_neg (by omega), if_neg (by omega), if_neg (by omega), if_neg (by omega)]
theorem fair_append (l r : List UInt8) (h : 0 < sz l) : fair (l ++ r) (sz l) = fair l (sz l) := by
  match l, h with
  | [], h => simp [sz] at h
  | [a], h =>
    have h1 : sz [a] = 1 := by have := sz_le [a]; simp at this; omega
    rw [h1]; rfl
  | a :: b :: t, h => rfl
/-- What a character becomes. -/
def seg (l : List UInt8) : List UInt8 := if fair l (sz l) = true then l.take (sz l) else (l.take (sz l)).flatMap esc
/-- An unfair character of more than a byte has two. -/
theorem unfair_two {l : List UInt8} (h : 1 < sz l) (hf : fair l (sz l) ≠ true) : ∃ a b t, l = a :: b :: t ∧ sz l = 2 ∧ 128 ≤ b.toNat ∧ b.toNat ≤ 191 := by
  match l, h, hf with
  | [], h, _ => simp [sz] at h
  | [a], h, _ => have := sz_le [a]; simp at this; omega
  | a :: b :: t, h, hf =>
    have h2 : ¬ sz (a :: b :: t) = 1 := by omega
    have hf : sz (a :: b :: t) = 2 ∧ a.toNat = 194 ∧ ((b :: t).getD 0 0).toNat < 160 := by
      simp only [fair, if_neg h2] at hf
      cases hd : decide (sz (a :: b :: t) = 2 ∧ a.toNat = 194 ∧ ((b :: t).getD 0 0).toNat < 160) with
      | true => exact of_decide_eq_true hd
      | false => rw [hd] at hf; exact absurd rfl hf
    have hx := high (a :: b :: t) _ rfl (by omega) b (by rw [hf.1]; simp)
    refine ⟨a, b, t, rfl, hf.1, hx, ?_⟩
    have h3 : (b.toNat) < 160 := by simpa using hf.2.2
    omega
theorem body_step (l r : List UInt8) (h : 0 < sz l) : body (l ++ r) = seg l ++ body (l.drop (sz l) ++ r) := by
  have hs := sz_append l r h
  have hfa := fair_append l r h
  unfold seg
  by_cases hf : fair l (sz l) = true
  · rw [if_pos hf]
    match l, h, hs, hfa, hf with
    | [], h, _, _, _ => simp [sz] at h
    | a :: t, h, hs, hfa, hf =>
      have hle := sz_le (a :: t)
      rw [List.cons_append] at hs hfa ⊢
      rw [body_fair (by rw [hs]; exact h) (by rw [hs, hfa]; exact hf), hs, ← List.cons_append, List.take_append_of_le_length hle, List.drop_append_of_le_length hle]
  · rw [if_neg hf]
    rcases Nat.lt_or_ge 1 (sz l) with h1 | h1
    · obtain ⟨a, b, t, rfl, h2, h3, h4⟩ := unfair_two h1 hf
      rw [h2] at hs hfa hf ⊢
      rw [List.cons_append] at hs hfa ⊢
      rw [body_esc (by rw [hs, hfa]; exact fun e => hf e.2), List.cons_append, body_esc (by rw [sz_cont _ h3 h4]; exact fun e => absurd e.1 (by omega))]
      simp
    · have h2 : sz l = 1 := by omega
      match l, h, hs, hfa, hf, h2 with
      | [], h, _, _, _, _ => simp [sz] at h
      | a :: t, h, hs, hfa, hf, h2 =>
        rw [h2] at hs hfa hf ⊢
        rw [List.cons_append] at hs hfa ⊢
        rw [body_esc (by rw [hs, hfa]; exact fun e => hf e.2)]
        simp
/-- Made of whole characters. -/
def wholeGo : Nat → List UInt8 → Bool
  | 0, l => l.isEmpty
  | _ + 1, [] => true
  | k + 1, a :: r => if sz (a :: r) = 0 then false else wholeGo k ((a :: r).drop (sz (a :: r)))
def whole (l : List UInt8) : Bool := wholeGo l.length l
theorem body_append (r : List UInt8) : ∀ (n : Nat) (l : List UInt8), wholeGo n l = true → body (l ++ r) = body l ++ body r
  | n, [], _ => by simp [body_nil]
  | 0, a :: t, h => by simp [wholeGo] at h
  | n + 1, a :: t, h => by
    simp only [wholeGo] at h
    by_cases h0 : sz (a :: t) = 0
    · rw [if_pos h0] at h; cases h
    · rw [if_neg h0] at h
      have h1 : 0 < sz (a :: t) := by omega
      have e1 := body_step (a :: t) r h1
      have e2 := body_step (a :: t) [] h1
      rw [List.append_nil, List.append_nil] at e2
      rw [e1, e2, body_append r n _ h, List.append_assoc]
/-! ### What is shown is made of whole characters, and readable -/
theorem sz_four (l : List UInt8) : sz l ≤ 4 := by
  match l with
  | [] => simp [sz]
  | a :: r => unfold sz; (repeat' split) <;> first | omega | (simp only; (repeat' split) <;> omega)
theorem sz_pre1 (a : UInt8) (t : List UInt8) (h : sz (a :: t) = 1) : sz [a] = 1 := by
  by_cases ha : a.toNat < 128
  · simp [sz, ha]
  · exfalso
    simp only [sz, if_neg ha] at h
    (repeat' split at h) <;> omega
theorem sz_pre2 (a b : UInt8) (t : List UInt8) (h : sz (a :: b :: t) = 2) : sz [a, b] = 2 := by
  simp only [sz] at h ⊢
  (repeat' split at h) <;> simp_all
theorem sz_pre3 (a b c : UInt8) (t : List UInt8) (h : sz (a :: b :: c :: t) = 3) : sz [a, b, c] = 3 := by
  simp only [sz] at h ⊢
  (repeat' split at h) <;> first | (simp_all; done) | (simp_all; rw [if_neg (by omega), if_neg (by omega)])
theorem sz_pre4 (a b c d : UInt8) (t : List UInt8) (h : sz (a :: b :: c :: d :: t) = 4) : sz [a, b, c, d] = 4 := h
theorem sz_take (l : List UInt8) (h : 0 < sz l) : sz (l.take (sz l)) = sz l := by
  have hle := sz_le l
  have h4 := sz_four l
  obtain ⟨n, hn⟩ : ∃ n, n = sz l := ⟨_, rfl⟩
  rw [← hn] at h hle h4 ⊢
  match l, n, hn, h, hle, h4 with
  | a :: t, 1, hn, _, _, _ => exact sz_pre1 a t hn.symm
  | a :: b :: t, 2, hn, _, _, _ => exact sz_pre2 a b t hn.symm
  | a :: b :: c :: t, 3, hn, _, _, _ => exact sz_pre3 a b c t hn.symm
  | a :: b :: c :: d :: t, 4, hn, _, _, _ => exact sz_pre4 a b c d t hn.symm
  | [], n + 1, _, _, hle, _ => simp at hle
  | [a], n + 2, _, _, hle, _ => simp at hle
  | [a, b], n + 3, _, _, hle, _ => simp at hle
  | [a, b, c], n + 4, _, _, hle, _ => simp at hle
  | l, n + 5, _, _, _, h4 => omega
theorem wholeGo_more : ∀ (k : Nat) (l : List UInt8), l.length ≤ k → wholeGo k l = whole l := by
  intro k
  induction k using Nat.strongRecOn with
  | ind k ih =>
    intro l hl
    match k, l, hl with
    | 0, [], _ => rfl
    | 0, a :: r, h => simp at h
    | k + 1, [], _ => rfl
    | k + 1, a :: r, hl =>
      have hk : r.length ≤ k := by simpa using hl
      show wholeGo (k + 1) (a :: r) = wholeGo (r.length + 1) (a :: r)
      simp only [wholeGo]
      by_cases h0 : sz (a :: r) = 0
      · rw [if_pos h0, if_pos h0]
      · rw [if_neg h0, if_neg h0]
        have hlen : ((a :: r).drop (sz (a :: r))).length ≤ r.length := by rw [List.length_drop, List.length_cons]; omega
        rw [ih k (Nat.lt_succ_self k) _ (by omega)]
        rcases Nat.lt_or_ge r.length (k + 1) with h2 | h2
        · exact (ih r.length h2 _ hlen).symm
        · omega
theorem whole_char (l r : List UInt8) (h : 0 < sz l) (hl : sz l = l.length) : whole (l ++ r) = whole r := by
  have hs := sz_append l r h
  match l, h, hl, hs with
  | [], h, _, _ => simp [sz] at h
  | a :: t, h, hl, hs =>
    show wholeGo ((a :: t ++ r).length) (a :: (t ++ r)) = _
    rw [List.cons_append] at hs
    have e : ∀ k, wholeGo (k + 1) (a :: (t ++ r)) = if sz (a :: (t ++ r)) = 0 then false else wholeGo k ((a :: (t ++ r)).drop (sz (a :: (t ++ r)))) := fun k => rfl
    rw [show (a :: t ++ r).length = (t ++ r).length + 1 by simp, e, hs, if_neg (by omega), hl]
    rw [← List.cons_append, List.drop_left]
    exact wholeGo_more _ _ (by simp)
theorem whole_ascii (a : UInt8) (r : List UInt8) (h : a.toNat < 128) : whole (a :: r) = whole r :=
  whole_char [a] r (by simp [sz, h]) (by simp [sz, h])
theorem hexd_lt : ∀ n, n < 16 → (hexd n).toNat < 128 ∧ 32 ≤ (hexd n).toNat ∧ (hexd n).toNat ≠ 34 ∧ (hexd n).toNat ≠ 92 ∧ (hexd n).toNat ≠ 127 := by decide
theorem esc_ascii (c : UInt8) : ∀ x ∈ esc c, x.toNat < 128 := by
  unfold esc
  have hc := c.toNat_lt
  have h1 := hexd_lt (c.toNat / 16) (by omega)
  have h2 := hexd_lt (c.toNat % 16) (by omega)
  (repeat' split) <;> intro x hx <;> simp at hx
  all_goals first | (subst hx; decide) | (rcases hx with rfl | rfl <;> decide) | (rcases hx with rfl | rfl | rfl | rfl; decide; decide; exact h1.1; exact h2.1)
theorem whole_row : ∀ (t r : List UInt8), (∀ x ∈ t, x.toNat < 128) → whole (t ++ r) = whole r
  | [], _, _ => rfl
  | a :: t, r, h => by rw [List.cons_append, whole_ascii a _ (h a (by simp)), whole_row t r fun x hx => h x (by simp [hx])]
theorem whole_body (r : List UInt8) : ∀ (n : Nat) (l : List UInt8), l.length ≤ n → whole (body l ++ r) = whole r
  | _, [], _ => by simp [body_nil]
  | 0, a :: t, h => by simp at h
  | n + 1, a :: t, h => by
    have ht : t.length ≤ n := by simpa using h
    by_cases hc : 0 < sz (a :: t) ∧ fair (a :: t) (sz (a :: t)) = true
    · have hle := sz_le (a :: t)
      rw [body_fair hc.1 hc.2, List.append_assoc, whole_char _ _ (by rw [sz_take _ hc.1]; exact hc.1) (by rw [sz_take _ hc.1, List.length_take]; omega), whole_body r n _ (by rw [List.length_drop, List.length_cons]; omega)]
    · rw [body_esc hc, List.append_assoc, whole_row _ _ (esc_ascii a), whole_body r n t ht]
/-- Is all of it readable: no sign below 32, no 127, no quote but behind a backslash? -/
def plainB : Bool → List UInt8 → Bool
  | sl, [] => !sl
  | sl, a :: r => if a.toNat < 32 ∨ a.toNat = 127 ∨ (a.toNat = 34 ∧ sl = false) then false else plainB (decide (a.toNat = 92) && !sl) r
theorem plain_one {a : UInt8} (r : List UInt8) (h : 32 ≤ a.toNat ∧ a.toNat ≠ 127 ∧ a.toNat ≠ 34 ∧ a.toNat ≠ 92) : plainB false (a :: r) = plainB false r := by
  simp only [plainB]
  rw [if_neg (by omega), decide_eq_false h.2.2.2]
  rfl
theorem plain_back {a : UInt8} (r : List UInt8) (h : 32 ≤ a.toNat ∧ a.toNat ≠ 127) : plainB false (92 :: a :: r) = plainB false r := by
  have e : plainB false (92 :: a :: r) = plainB true (a :: r) := rfl
  rw [e]
  simp only [plainB]
  rw [if_neg (by rintro (h1 | h1 | h1); omega; omega; exact absurd h1.2 (by simp))]
  simp
theorem plain_esc (c : UInt8) (r : List UInt8) : plainB false (esc c ++ r) = plainB false r := by
  have hc := c.toNat_lt
  have h1 := hexd_lt (c.toNat / 16) (by omega)
  have h2 := hexd_lt (c.toNat % 16) (by omega)
  unfold esc
  (repeat' split)
  · exact plain_back r (by decide)
  · exact plain_back r (by decide)
  · exact plain_back r (by decide)
  · exact plain_back r (by decide)
  · exact plain_back r (by decide)
  · show plainB false (92 :: 120 :: hexd (c.toNat / 16) :: hexd (c.toNat % 16) :: r) = _
    rw [plain_back _ (by decide), plain_one _ ⟨h1.2.1, h1.2.2.2.2, h1.2.2.1, h1.2.2.2.1⟩, plain_one _ ⟨h2.2.1, h2.2.2.2.2, h2.2.2.1, h2.2.2.2.1⟩]
theorem plain_row : ∀ (t r : List UInt8), (∀ x ∈ t, 32 ≤ x.toNat ∧ x.toNat ≠ 127 ∧ x.toNat ≠ 34 ∧ x.toNat ≠ 92) → plainB false (t ++ r) = plainB false r
  | [], _, _ => rfl
  | a :: t, r, h => by rw [List.cons_append, plain_one _ (h a (by simp)), plain_row t r fun x hx => h x (by simp [hx])]
theorem fair_signs (l : List UInt8) (h : 0 < sz l) (hf : fair l (sz l) = true) : ∀ x ∈ l.take (sz l), 32 ≤ x.toNat ∧ x.toNat ≠ 127 ∧ x.toNat ≠ 34 ∧ x.toNat ≠ 92 := by
  intro x hx
  rcases Nat.lt_or_ge (sz l) 2 with h1 | h1
  · have e : sz l = 1 := by omega
    rw [e] at hf hx
    cases l with
    | nil => simp at hx
    | cons a r =>
      simp only [List.take_succ_cons, List.take_zero, List.mem_singleton] at hx
      subst hx
      have h2 : decide (32 ≤ x.toNat ∧ x.toNat ≠ 127 ∧ x.toNat ≠ 34 ∧ x.toNat ≠ 92) = true := hf
      exact of_decide_eq_true h2
  · have := high l _ rfl h1 x hx
    omega
theorem plain_body : ∀ (n : Nat) (l : List UInt8), l.length ≤ n → plainB false (body l) = true
  | _, [], _ => rfl
  | 0, a :: t, h => by simp at h
  | n + 1, a :: t, h => by
    have ht : t.length ≤ n := by simpa using h
    by_cases hc : 0 < sz (a :: t) ∧ fair (a :: t) (sz (a :: t)) = true
    · rw [body_fair hc.1 hc.2, plain_row _ _ (fair_signs _ hc.1 hc.2), plain_body n _ (by rw [List.length_drop, List.length_cons]; omega)]
    · rw [body_esc hc, plain_esc, plain_body n t ht]
/-- Unlike bytes have unlike texts. -/
theorem body_inj {a b : List UInt8} (h : body a = body b) : a = b := by
  have h1 := guess_body a.length a (Nat.le_refl _)
  rw [h, guess_body b.length b (Nat.le_refl _)] at h1
  exact h1.symm
end Go.Proofs.YtnpideapdjomgaaDoor.Quote
namespace Go.Proofs.YtnpideapdjomgaaDoor.Quote
open Go
/-- A character at the head of a list, as a range over a string reads it. -/
def decL (L : List UInt8) : Nat × Nat :=
  let at' (k : Nat) : Nat := (L.getD k 0).toNat
  let cont (k : Nat) : Bool := decide (k < L.length) && at' k / 64 == 2
  let b0 := at' 0
  if b0 < 0x80 then (b0, 1)
  else if b0 / 32 == 6 && cont 1 then
    let c := (b0 % 32) * 64 + at' 1 % 64
    if c ≥ 0x80 then (c, 2) else (Utf8.runeError, 1)
  else if b0 / 16 == 14 && cont 1 && cont 2 then
    let c := (b0 % 16) * 4096 + (at' 1 % 64) * 64 + at' 2 % 64
    if c ≥ 0x800 && Utf8.valid c then (c, 3) else (Utf8.runeError, 1)
  else if b0 / 8 == 30 && cont 1 && cont 2 && cont 3 then
    let c := (b0 % 8) * 262144 + (at' 1 % 64) * 4096 + (at' 2 % 64) * 64 + at' 3 % 64
    if c ≥ 0x10000 && Utf8.valid c then (c, 4) else (Utf8.runeError, 1)
  else (Utf8.runeError, 1)
theorem get_drop (s : ByteArray) (pos k : Nat) : s.get! (pos + k) = (s.data.toList.drop pos).getD k 0 := by
  show s.data[pos + k]! = _
  rw [List.getD_eq_getElem?_getD, List.getElem?_drop, Array.getElem?_toList]
  by_cases h : pos + k < s.data.size
  · rw [getElem!_pos s.data (pos + k) h, Array.getElem?_eq_getElem h]; rfl
  · rw [getElem!_neg s.data (pos + k) h, Array.getElem?_eq_none (by omega)]; rfl
theorem decode_list (s : ByteArray) (pos : Nat) : Utf8.decode s pos = decL (s.data.toList.drop pos) := by
  have hc : ∀ k, decide (pos + k < s.size) = decide (k < (s.data.toList.drop pos).length) := fun k => by
    rw [List.length_drop, Array.length_toList]
    exact decide_eq_decide.mpr (by show pos + k < s.data.size ↔ _; omega)
  simp only [Utf8.decode, decL, get_drop, hc]
theorem decL_ascii {a : UInt8} (r : List UInt8) (h : a.toNat < 128) : decL (a :: r) = (a.toNat, 1) := by
  simp [decL, h]
/-- By numbers. -/
def decN (n a b c d : Nat) : Nat × Nat :=
  if a < 128 then (a, 1)
  else if a / 32 = 6 ∧ 1 < n ∧ b / 64 = 2 then
    if 128 ≤ a % 32 * 64 + b % 64 then (a % 32 * 64 + b % 64, 2) else (65533, 1)
  else if a / 16 = 14 ∧ (1 < n ∧ b / 64 = 2) ∧ (2 < n ∧ c / 64 = 2) then
    if 2048 ≤ a % 16 * 4096 + b % 64 * 64 + c % 64 ∧ ¬ (55296 ≤ a % 16 * 4096 + b % 64 * 64 + c % 64 ∧ a % 16 * 4096 + b % 64 * 64 + c % 64 < 57344) then (a % 16 * 4096 + b % 64 * 64 + c % 64, 3) else (65533, 1)
  else if a / 8 = 30 ∧ (1 < n ∧ b / 64 = 2) ∧ (2 < n ∧ c / 64 = 2) ∧ (3 < n ∧ d / 64 = 2) then
    if 65536 ≤ a % 8 * 262144 + b % 64 * 4096 + c % 64 * 64 + d % 64 ∧ a % 8 * 262144 + b % 64 * 4096 + c % 64 * 64 + d % 64 ≤ 1114111 then (a % 8 * 262144 + b % 64 * 4096 + c % 64 * 64 + d % 64, 4) else (65533, 1)
  else (65533, 1)
theorem decL_eq (l : List UInt8) : decL l = decN l.length (l.getD 0 0).toNat (l.getD 1 0).toNat (l.getD 2 0).toNat (l.getD 3 0).toNat := by
  simp only [decL, decN, Bool.and_eq_true, beq_iff_eq, decide_eq_true_eq, Utf8.runeError, Utf8.valid, Bool.or_eq_true, ge_iff_le]
  have h0 := (l.getD 0 0).toNat_lt
  have h1 := (l.getD 1 0).toNat_lt
  have h2 := (l.getD 2 0).toNat_lt
  have h3 := (l.getD 3 0).toNat_lt
  repeat' split
  all_goals first | with_reducible rfl | (exfalso; omega)
/-- May the character stand as it is? -/
def fairR (c : Nat) : Prop := 32 ≤ c ∧ (c < 127 ∨ 159 < c) ∧ c ≠ 34 ∧ c ≠ 92
instance (c : Nat) : Decidable (fairR c) := by unfold fairR; infer_instance
theorem dec_none (l : List UInt8) (hne : l ≠ []) (h : sz l = 0) : decL l = (65533, 1) := by
  rw [decL_eq]
  match l, hne, h with
  | [a], _, h =>
    have ha := a.toNat_lt
    simp only [sz] at h
    simp only [List.getD_cons_zero, List.length_cons, List.length_nil, decN]
    (repeat' split at h) <;> (repeat' split) <;> first | with_reducible rfl | (exfalso; omega)
  | [a, b], _, h =>
    have ha := a.toNat_lt
    have hb := b.toNat_lt
    simp only [sz] at h
    simp only [List.getD_cons_zero, List.getD_cons_succ, List.length_cons, List.length_nil, decN]
    (repeat' split at h) <;> (repeat' split) <;> first | with_reducible rfl | (exfalso; omega)
  | [a, b, c], _, h =>
    have ha := a.toNat_lt
    have hb := b.toNat_lt
    have hc := c.toNat_lt
    simp only [sz] at h
    simp only [List.getD_cons_zero, List.getD_cons_succ, List.length_cons, List.length_nil, decN]
    (repeat' split at h) <;> (repeat' split) <;> first | with_reducible rfl | (exfalso; omega)
  | a :: b :: c :: d :: r, _, h =>
    have ha := a.toNat_lt
    have hb := b.toNat_lt
    have hc := c.toNat_lt
    have hd := d.toNat_lt
    simp only [sz] at h
    simp only [List.getD_cons_zero, List.getD_cons_succ, List.length_cons, decN]
    (repeat' split at h) <;> (repeat' split) <;> first | with_reducible rfl | (exfalso; omega)
def Good (l : List UInt8) : Prop := (decL l).2 = sz l ∧ Lib.runeLen ((decL l).1 : Nat) = (sz l : Int) ∧ (fairR (decL l).1 ↔ fair l (sz l) = true) ∧ ((decL l).1 = 65533 → l.take 3 = [239, 191, 189])
theorem good_of {l : List UInt8} (c n : Nat) (h1 : decL l = (c, n)) (h2 : sz l = n) (h3 : Lib.runeLen (c : Nat) = (n : Int)) (h4 : fairR c ↔ fair l n = true) (h5 : c = 65533 → l.take 3 = [239, 191, 189]) : Good l := by
  unfold Good
  rw [h1, h2]
  exact ⟨rfl, h3, h4, h5⟩
theorem sz_forms (l : List UInt8) (h : 0 < sz l) :
    (∃ a r, l = a :: r ∧ a.toNat < 128) ∨
    (∃ a b r, l = a :: b :: r ∧ 194 ≤ a.toNat ∧ a.toNat < 224 ∧ 128 ≤ b.toNat ∧ b.toNat ≤ 191) ∨
    (∃ a b c r, l = a :: b :: c :: r ∧ 224 ≤ a.toNat ∧ a.toNat < 240 ∧ 128 ≤ b.toNat ∧ b.toNat ≤ 191 ∧ 128 ≤ c.toNat ∧ c.toNat ≤ 191 ∧ sz l = 3) ∨
    (∃ a b c d r, l = a :: b :: c :: d :: r ∧ 240 ≤ a.toNat ∧ a.toNat < 248 ∧ 128 ≤ b.toNat ∧ b.toNat ≤ 191 ∧ 128 ≤ c.toNat ∧ c.toNat ≤ 191 ∧ 128 ≤ d.toNat ∧ d.toNat ≤ 191 ∧ sz l = 4) := by
  match l, h with
  | [], h => simp [sz] at h
  | [a], h =>
    refine .inl ⟨a, [], rfl, ?_⟩
    simp only [sz] at h
    (repeat' split at h) <;> omega
  | [a, b], h =>
    simp only [sz] at h
    split at h
    · exact .inl ⟨a, _, rfl, by assumption⟩
    split at h
    · split at h
      · exact .inr (.inl ⟨a, b, _, rfl, by omega, by omega, by omega, by omega⟩)
      · omega
    · (repeat' split at h) <;> omega
  | [a, b, c], h =>
    have e : sz [a, b, c] = sz [a, b, c] := rfl
    simp only [sz] at h
    conv at e => rhs; simp only [sz]
    split at h
    · exact .inl ⟨a, _, rfl, by assumption⟩
    split at h
    · split at h
      · exact .inr (.inl ⟨a, b, _, rfl, by omega, by omega, by omega, by omega⟩)
      · omega
    split at h
    · split at h
      · rename_i h1 h2 h3 h4
        rw [if_neg h1, if_neg h2, if_pos h3, if_pos h4] at e
        exact .inr (.inr (.inl ⟨a, b, c, _, rfl, by omega, by omega, by omega, by omega, by omega, by omega, e⟩))
      · omega
    · (repeat' split at h) <;> omega
  | a :: b :: c :: d :: r, h =>
    have e : sz (a :: b :: c :: d :: r) = sz (a :: b :: c :: d :: r) := rfl
    simp only [sz] at h
    conv at e => rhs; simp only [sz]
    split at h
    · exact .inl ⟨a, _, rfl, by assumption⟩
    split at h
    · split at h
      · exact .inr (.inl ⟨a, b, _, rfl, by omega, by omega, by omega, by omega⟩)
      · omega
    split at h
    · split at h
      · rename_i h1 h2 h3 h4
        rw [if_neg h1, if_neg h2, if_pos h3, if_pos h4] at e
        exact .inr (.inr (.inl ⟨a, b, c, _, rfl, by omega, by omega, by omega, by omega, by omega, by omega, e⟩))
      · omega
    split at h
    · split at h
      · rename_i h1 h2 h3 h4 h5
        rw [if_neg h1, if_neg h2, if_neg h3, if_pos h4, if_pos h5] at e
        exact .inr (.inr (.inr ⟨a, b, c, d, r, rfl, by omega, by omega, by omega, by omega, by omega, by omega, by omega, by omega, e⟩))
      · omega
    · omega
theorem dec_some (l : List UInt8) (h : 0 < sz l) : Good l := by
  rcases sz_forms l h with ⟨a, r, rfl, ha⟩ | ⟨a, b, r, rfl, h1, h2, h3, h4⟩ | ⟨a, b, c, r, rfl, h1, h2, h3, h4, h5, h6, hs⟩ | ⟨a, b, c, d, r, rfl, h1, h2, h3, h4, h5, h6, h7, h8, hs⟩
  · refine good_of a.toNat 1 (decL_ascii r ha) (by simp [sz, ha]) ?_ ?_ (fun e => by omega)
    · simp only [Lib.runeLen]
      rw [if_neg (by omega), if_pos (by omega)]
      rfl
    · have e : fair (a :: r) 1 = decide (32 ≤ a.toNat ∧ a.toNat ≠ 127 ∧ a.toNat ≠ 34 ∧ a.toNat ≠ 92) := rfl
      rw [e, decide_eq_true_eq]
      unfold fairR
      omega
  · have hsz : sz (a :: b :: r) = 2 := by
      simp only [sz]
      rw [if_neg (by omega), if_pos (by omega), if_pos (by omega)]
    refine good_of (a.toNat % 32 * 64 + b.toNat % 64) 2 ?_ hsz ?_ ?_ (fun e => by omega)
    · rw [decL_eq]
      simp only [List.getD_cons_zero, List.getD_cons_succ, List.length_cons, decN]
      rw [if_neg (by omega), if_pos (by omega), if_pos (by omega)]
    · simp only [Lib.runeLen]
      rw [if_neg (by omega), if_neg (by omega), if_pos (by omega)]
      rfl
    · have e : fair (a :: b :: r) 2 = !decide (2 = 2 ∧ a.toNat = 194 ∧ b.toNat < 160) := rfl
      rw [e]
      have ea : a.toNat % 32 = a.toNat - 192 := by omega
      have eb : b.toNat % 64 = b.toNat - 128 := by omega
      rw [ea, eb, Bool.not_eq_true', decide_eq_false_iff_not]
      unfold fairR
      constructor
      · intro h; omega
      · intro h
        rcases Nat.lt_or_ge a.toNat 195 with h9 | h9
        · have h8 : a.toNat = 194 := by omega
          rcases Nat.lt_or_ge b.toNat 160 with h7 | h7
          · exact absurd ⟨rfl, h8, h7⟩ h
          · omega
        · omega
  · have hc : 2048 ≤ 64 * (64 * (a.toNat - 224) + (b.toNat - 128)) + (c.toNat - 128) ∧ ¬ (55296 ≤ 64 * (64 * (a.toNat - 224) + (b.toNat - 128)) + (c.toNat - 128) ∧ 64 * (64 * (a.toNat - 224) + (b.toNat - 128)) + (c.toNat - 128) ≤ 57343) := by
      simp only [sz] at hs
      rw [if_neg (by omega), if_neg (by omega), if_pos (by omega)] at hs
      split at hs <;> omega
    refine good_of (a.toNat % 16 * 4096 + b.toNat % 64 * 64 + c.toNat % 64) 3 ?_ hs ?_ ?_ ?_
    · rw [decL_eq]
      simp only [List.getD_cons_zero, List.getD_cons_succ, List.length_cons, decN]
      rw [if_neg (by omega), if_neg (by omega), if_pos (by omega), if_pos (by omega)]
    · simp only [Lib.runeLen]
      rw [if_neg (by omega), if_neg (by omega), if_neg (by omega), if_neg (by omega), if_pos (by omega)]
      rfl
    · have e : fair (a :: b :: c :: r) 3 = !decide (3 = 2 ∧ a.toNat = 194 ∧ b.toNat < 160) := rfl
      rw [e]
      simp only [Bool.not_eq_true', decide_eq_false_iff_not]
      unfold fairR
      omega
    · intro e
      have e1 : a.toNat = 239 := by omega
      have e2 : b.toNat = 191 := by omega
      have e3 : c.toNat = 189 := by omega
      rw [u8_eq e1, u8_eq e2, u8_eq e3]
      rfl
  · have hc : 65536 ≤ 64 * (64 * (64 * (a.toNat - 240) + (b.toNat - 128)) + (c.toNat - 128)) + (d.toNat - 128) ∧ 64 * (64 * (64 * (a.toNat - 240) + (b.toNat - 128)) + (c.toNat - 128)) + (d.toNat - 128) ≤ 1114111 := by
      simp only [sz] at hs
      rw [if_neg (by omega), if_neg (by omega), if_neg (by omega), if_pos (by omega)] at hs
      split at hs <;> omega
    refine good_of (a.toNat % 8 * 262144 + b.toNat % 64 * 4096 + c.toNat % 64 * 64 + d.toNat % 64) 4 ?_ hs ?_ ?_ (fun e => by omega)
    · rw [decL_eq]
      simp only [List.getD_cons_zero, List.getD_cons_succ, List.length_cons, decN]
      rw [if_neg (by omega), if_neg (by omega), if_neg (by omega), if_pos (by omega), if_pos (by omega)]
    · simp only [Lib.runeLen]
      rw [if_neg (by omega), if_neg (by omega), if_neg (by omega), if_neg (by omega), if_neg (by omega), if_pos (by omega)]
      rfl
    · have e : fair (a :: b :: c :: d :: r) 4 = !decide (4 = 2 ∧ a.toNat = 194 ∧ b.toNat < 160) := rfl
      rw [e]
      simp only [Bool.not_eq_true', decide_eq_false_iff_not]
      unfold fairR
      omega
/-- No character: the three signs of the one that stands for none are not here. -/
theorem none_three (l : List UInt8) (h : sz l = 0) : l.take 3 ≠ [239, 191, 189] := by
  intro e
  match l, h, e with
  | [], h, e => simp at e
  | [a], h, e => simp at e
  | [a, b], h, e => simp at e
  | a :: b :: c :: r, h, e =>
    simp only [List.take_succ_cons, List.take_zero, List.cons.injEq] at e
    obtain ⟨rfl, rfl, rfl, -⟩ := e
    cases r with
    | nil => revert h; decide
    | cons d r => revert h; simp [sz]
end Go.Proofs.YtnpideapdjomgaaDoor.Quote
namespace Go.Proofs.YtnpideapdjomgaaDoor.Quote
open Go
theorem decN_high (n a b c d : Nat) (ha : 128 ≤ a) (ha' : a < 256) (h0 : 0 < n) :
    128 ≤ (decN n a b c d).1 ∧ (decN n a b c d).1 ≤ 1114111 ∧ ¬ (55296 ≤ (decN n a b c d).1 ∧ (decN n a b c d).1 < 57344) ∧ 1 ≤ (decN n a b c d).2 ∧ (decN n a b c d).2 ≤ 4 ∧ (decN n a b c d).2 ≤ n ∧
      (1 < (decN n a b c d).2 → 128 ≤ b) ∧ (2 < (decN n a b c d).2 → 128 ≤ c) ∧ (3 < (decN n a b c d).2 → 128 ≤ d) := by
  unfold decN
  rw [if_neg (by omega)]
  repeat' split
  all_goals (simp only; omega)
theorem decode_high (s : ByteArray) (pos : Nat) (h : pos < s.size) (ha : 128 ≤ (s[pos]'h).toNat) : ∃ r n, Utf8.decode s pos = (r, n) ∧ 128 ≤ r ∧ r ≤ 1114111 ∧ ¬ (55296 ≤ r ∧ r < 57344) ∧ 1 ≤ n ∧ pos + n ≤ s.size ∧
    ∀ j b, pos ≤ j → j < pos + n → s.data.toList[j]? = some b → 128 ≤ b.toNat := by
  rw [decode_list, decL_eq]
  have hl : s.data.toList.length = s.size := Array.length_toList
  have hlen : (s.data.toList.drop pos).length = s.size - pos := by rw [List.length_drop, hl]
  have hget : ∀ k, (s.data.toList.drop pos).getD k 0 = (s.data.toList[pos + k]?).getD 0 := fun k => by rw [List.getD_eq_getElem?_getD, List.getElem?_drop]
  have h0 : ((s.data.toList.drop pos).getD 0 0).toNat = (s[pos]'h).toNat := by
    rw [hget, Nat.add_zero, List.getElem?_eq_getElem (by omega)]
    rfl
  obtain ⟨a1, a2, a3, a4, a5, a6, a7, a8, a9⟩ := decN_high (s.data.toList.drop pos).length ((s.data.toList.drop pos).getD 0 0).toNat ((s.data.toList.drop pos).getD 1 0).toNat ((s.data.toList.drop pos).getD 2 0).toNat ((s.data.toList.drop pos).getD 3 0).toNat (by omega) (by have := (s[pos]'h).toNat_lt; omega) (by omega)
  obtain ⟨r, n, e⟩ : ∃ r n, decN (s.data.toList.drop pos).length ((s.data.toList.drop pos).getD 0 0).toNat ((s.data.toList.drop pos).getD 1 0).toNat ((s.data.toList.drop pos).getD 2 0).toNat ((s.data.toList.drop pos).getD 3 0).toNat = (r, n) := ⟨_, _, rfl⟩
  rw [e] at a1 a2 a3 a4 a5 a6 a7 a8 a9 ⊢
  simp only at a1 a2 a3 a4 a5 a6 a7 a8 a9
  refine ⟨r, n, rfl, a1, a2, a3, a4, by omega, fun j b hj hj' hb => ?_⟩
  obtain ⟨k, rfl⟩ : ∃ k, j = pos + k := ⟨j - pos, by omega⟩
  have hk := hget k
  rw [hb] at hk
  simp only [Option.getD_some] at hk
  rw [← hk]
  match k, hj' with
  | 0, _ => omega
  | 1, _ => exact a7 (by omega)
  | 2, _ => exact a8 (by omega)
  | 3, _ => exact a9 (by omega)
  | k + 4, _ => omega
/-- Such a character written as a string. -/
theorem encode_high (r : Nat) (h1 : 128 ≤ r) (h2 : r ≤ 1114111) (h3 : ¬ (55296 ≤ r ∧ r < 57344)) :
    (∃ a b, Utf8.encode r = ⟨#[a, b]⟩ ∧ 128 ≤ b.toNat) ∨ (∃ a b c, Utf8.encode r = ⟨#[a, b, c]⟩ ∧ 128 ≤ c.toNat) ∨ (∃ a b c d, Utf8.encode r = ⟨#[a, b, c, d]⟩ ∧ 128 ≤ d.toNat) := by
  have hv : Utf8.valid (r : Int) = true := by
    unfold Utf8.valid
    simp
    omega
  have hx : ∀ m, 128 ≤ (UInt8.ofNat (128 + m % 64)).toNat := fun m => by rw [UInt8.toNat_ofNat']; omega
  unfold Utf8.encode
  simp only [hv, if_true, Int.toNat_natCast]
  rw [if_neg (by omega)]
  split
  · exact .inl ⟨_, _, rfl, hx _⟩
  · split
    · exact .inr (.inl ⟨_, _, _, rfl, hx _⟩)
    · exact .inr (.inr ⟨_, _, _, _, rfl, hx _⟩)
end Go.Proofs.YtnpideapdjomgaaDoor.Quote
