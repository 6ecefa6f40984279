/- Command lines, there and back: what Print writes is read as the same; what Parse reads has a line; what its faults are about. No program in sight. No conditions. -/
import Derived.Test.YtmjagjcaepbklaaDoorOptsPlain
namespace Go.Proofs.YtmjagjcaepbklaaDoor.Opts
open Go.RowKit

theorem dec_ascii {y : ByteArray} (h : 0 < y.size) (h2 : (y[0]'h).toNat < 128) : Lib.decodeGo y = ((y[0]'h).toNat, 1) := by
  rw [dec_eq h]
  exact decode_ascii y 0 h h2
theorem dec_one {y : ByteArray} (h : 0 < y.size) (h2 : (Lib.decodeGo y).1 < 128) : (y[0]'h).toNat < 128 := by
  rcases Nat.lt_or_ge (y[0]'h).toNat 128 with h3 | h3
  · exact h3
  · have := (decode_high y 0 h h3).1
    rw [dec_eq h] at h2
    omega
theorem one_of {y : ByteArray} (h : 0 < y.size) : y.extract 0 1 = ⟨#[y[0]'h]⟩ := by
  cases y with
  | mk d =>
    have hd : 0 < d.size := h
    apply ByteArray.ext
    apply Array.ext
    · simp; omega
    · intro i h1 h2
      have : i = 0 := by simpa using h2
      subst this
      simp
      rfl
theorem dec_lit (c : UInt8) (hc : c.toNat < 128) : Lib.decodeGo ⟨#[c]⟩ = (c.toNat, 1) := dec_ascii (y := ⟨#[c]⟩) (Nat.zero_lt_one) hc
theorem rest_lit (c : UInt8) (hc : c.toNat < 128) : rest ⟨#[c]⟩ = ⟨#[]⟩ := by
  unfold rest
  rw [dec_lit c hc]
  rfl
theorem word_flag (f f' : Fl) (c : UInt8) (hc : c.toNat < 128) (hs : step f c.toNat = some f') : word f ⟨#[c]⟩ = .done f' := by
  rw [word_step f f' (w := ⟨#[c]⟩) Nat.zero_lt_one (by rw [dec_lit c hc]; exact hs), rest_lit c hc]
  exact word_zero f' rfl
theorem words_flag (f f' : Fl) (ps : List Prt) (r : List ByteArray) (c : UInt8) (hc : c.toNat < 128) (h45 : c ≠ 45) (hs : step f c.toNat = some f') : words ⟨f, ps, ⟨#[45, c]⟩ :: r⟩ = words ⟨f', ps, r⟩ := by
  rw [words_word f ps ⟨#[45, c]⟩ r rfl (by
    show (⟨#[c]⟩ : ByteArray) ≠ ⟨#[45]⟩
    intro e
    simp only [ByteArray.mk.injEq, Array.mk.injEq, List.cons.injEq, and_true] at e
    exact h45 e)]
  show goOn ps r (word f ⟨#[c]⟩) = _
  rw [word_flag f f' c hc hs]
  rfl
theorem words_part (f : Fl) (ps : List Prt) (t : ByteArray) (r : List ByteArray) (b : Bool) : words ⟨f, ps, (if b then ⟨#[45, 102]⟩ else ⟨#[45, 101]⟩) :: t :: r⟩ = words ⟨f, ps ++ [(b, t)], r⟩ := by
  cases b
  · rw [words_word f ps _ (t :: r) rfl (by decide)]
    show goOn ps (t :: r) (word f ⟨#[101]⟩) = _
    rw [word_part f false (w := ⟨#[101]⟩) Nat.zero_lt_one (by rw [dec_lit 101 (by decide)]; rfl), rest_lit 101 (by decide)]
    rfl
  · rw [words_word f ps _ (t :: r) rfl (by decide)]
    show goOn ps (t :: r) (word f ⟨#[102]⟩) = _
    rw [word_part f true (w := ⟨#[102]⟩) Nat.zero_lt_one (by rw [dec_lit 102 (by decide)]; rfl), rest_lit 102 (by decide)]
    rfl
theorem words_parts (f : Fl) (R : List ByteArray) : ∀ (ps p0 : List Prt), words ⟨f, p0, partsL ps ++ R⟩ = words ⟨f, p0 ++ ps, R⟩
  | [], p0 => by simp [partsL]
  | (b, t) :: ps, p0 => by
    have h := words_parts f R ps (p0 ++ [(b, t)])
    simp only [partsL, List.cons_append]
    rw [words_part f p0 t (partsL ps ++ R) b, h]
    simp
theorem words_flags (q e a i : Bool) (h : (i && !a) = false) (R : List ByteArray) : words ⟨⟨false, false, false, false⟩, [], flagL (flagB ⟨q, e, a, i⟩) ++ R⟩ = words ⟨⟨q, e, a, i⟩, [], R⟩ := by
  have w1 : ∀ e a i R, words ⟨⟨false, e, a, i⟩, [], ⟨#[45, 110]⟩ :: R⟩ = words ⟨⟨true, e, a, i⟩, [], R⟩ := fun _ _ _ _ => words_flag _ _ _ _ _ (by decide) (by decide) rfl
  have w2 : ∀ q a i R, words ⟨⟨q, false, a, i⟩, [], ⟨#[45, 69]⟩ :: R⟩ = words ⟨⟨q, true, a, i⟩, [], R⟩ := fun _ _ _ _ => words_flag _ _ _ _ _ (by decide) (by decide) rfl
  have w3 : ∀ q e i R, words ⟨⟨q, e, false, i⟩, [], ⟨#[45, 115]⟩ :: R⟩ = words ⟨⟨q, e, true, i⟩, [], R⟩ := fun _ _ _ _ => words_flag _ _ _ _ _ (by decide) (by decide) rfl
  have w4 : ∀ q e R, words ⟨⟨q, e, false, false⟩, [], ⟨#[45, 105]⟩ :: R⟩ = words ⟨⟨q, e, true, true⟩, [], R⟩ := fun _ _ _ => words_flag _ _ _ _ _ (by decide) (by decide) rfl
  cases q <;> cases e <;> cases a <;> cases i <;> simp [flagL, flagB, w1, w2, w3, w4] at h ⊢
/-- THERE AND BACK. -/
theorem parse_print (m : Mid) (h : bad m = false) : parse (print m) = .good m := by
  obtain ⟨⟨q, e, a, i⟩, ps, l⟩ := m
  simp only [bad, Bool.or_eq_false_iff] at h
  obtain ⟨h1, h2⟩ := h
  unfold print parse
  rw [if_neg (by simp [bad, h1, h2]), List.append_assoc, List.append_assoc, words_flags q e a i h2, words_parts]
  simp only [List.nil_append, List.singleton_append]
  rw [words_dashes _ _ _ _ rfl rfl]
  cases ps with
  | nil => simp at h1
  | cons x r => rfl
/-! ### What Parse reads -/
theorem step_ok {f f' : Fl} {c : Nat} (h : (f.i && !f.a) = false) (hs : step f c = some f') : (f'.i && !f'.a) = false := by
  unfold step at hs
  split at hs
  · cases hs; exact h
  · split at hs
    · cases hs; exact h
    · split at hs
      · cases hs; simp
      · split at hs
        · cases hs; simp
        · cases hs
/-- A word's outcome is well made. -/
def OutOk : Out → Prop
  | .done f => (f.i && !f.a) = false
  | .part f _ s _ => (f.i && !f.a) = false ∧ (s = ⟨#[101]⟩ ∨ s = ⟨#[102]⟩)
  | .bad s => 0 < s.size ∧ ∀ c ∈ [(110 : UInt8), 69, 115, 105, 101, 102], s ≠ ⟨#[c]⟩
theorem letter_of {y : ByteArray} (h : 0 < y.size) {c : UInt8} (hc : (Lib.decodeGo y).1 = c.toNat) (h2 : c.toNat < 128) : letter y = ⟨#[c]⟩ := by
  have h3 := dec_one h (by omega)
  have h4 := dec_ascii h h3
  unfold letter
  rw [h4] at hc ⊢
  show y.extract 0 1 = _
  rw [one_of h, UInt8.toNat_inj.1 hc]
theorem of_letter {y : ByteArray} (h : 0 < y.size) {c : UInt8} (h2 : c.toNat < 128) (hl : letter y = ⟨#[c]⟩) : (Lib.decodeGo y).1 = c.toNat := by
  have hle := dec_le h
  have hs : (letter y).size = (Lib.decodeGo y).2 := by unfold letter; rw [ByteArray.size_extract]; omega
  have h1 : (Lib.decodeGo y).2 = 1 := by rw [← hs, hl]; rfl
  unfold letter at hl
  rw [h1, one_of h] at hl
  simp only [ByteArray.mk.injEq, Array.mk.injEq, List.cons.injEq, and_true] at hl
  rw [dec_ascii h (by rw [hl]; exact h2), hl]
theorem word_ok : ∀ (k : Nat) (f : Fl) (w : ByteArray), w.size ≤ k → (f.i && !f.a) = false → OutOk (word f w)
  | k, f, w, hk, hf => by
    by_cases h0 : w.size = 0
    · rw [word_zero f h0]; exact hf
    · have h : 0 < w.size := by omega
      cases hs : step f (Lib.decodeGo w).1 with
      | some f' =>
        rw [word_step f f' h hs]
        have hr := rest_size h
        have hp := dec_pos h
        match k, hk with
        | 0, hk => omega
        | k + 1, hk => exact word_ok k f' (rest w) (by omega) (step_ok hf hs)
      | none =>
        by_cases h1 : (Lib.decodeGo w).1 = 101
        · rw [word_part f false h (by simpa using h1)]
          exact ⟨hf, .inl (letter_of h (c := 101) h1 (by decide))⟩
        · by_cases h2 : (Lib.decodeGo w).1 = 102
          · rw [word_part f true h (by simpa using h2)]
            exact ⟨hf, .inr (letter_of h (c := 102) h2 (by decide))⟩
          · rw [word_bad f h hs h1 h2]
            refine ⟨by
              have hle := dec_le h
              have hp := dec_pos h
              unfold letter
              rw [ByteArray.size_extract]
              omega, fun c hc e => ?_⟩
            simp only [List.mem_cons, List.not_mem_nil, or_false] at hc
            rcases hc with rfl | rfl | rfl | rfl | rfl | rfl
            · have := of_letter h (by decide) e; rw [this] at hs; simp [step] at hs
            · have := of_letter h (by decide) e; rw [this] at hs; simp [step] at hs
            · have := of_letter h (by decide) e; rw [this] at hs; simp [step] at hs
            · have := of_letter h (by decide) e; rw [this] at hs; simp [step] at hs
            · exact h1 (of_letter h (by decide) e)
            · exact h2 (of_letter h (by decide) e)
/-- A fault is well made; what is read has a line. -/
def AnsOk : Ans Mid → Prop
  | .fault n s => (n = 90 ∧ 0 < s.size ∧ ∀ c ∈ [(110 : UInt8), 69, 115, 105, 101, 102], s ≠ ⟨#[c]⟩) ∨ (n = 91 ∧ (s = ⟨#[]⟩ ∨ s = ⟨#[101]⟩ ∨ s = ⟨#[102]⟩))
  | .good m => (m.f.i && !m.f.a) = false
theorem words_ok : ∀ (k : Nat) (f : Fl) (ps : List Prt) (l : List ByteArray), l.length ≤ k → (f.i && !f.a) = false → AnsOk (words ⟨f, ps, l⟩)
  | _, f, ps, [], _, hf => hf
  | 0, _, _, x :: r, hk, _ => absurd hk (by simp)
  | k + 1, f, ps, x :: r, hk, hf => by
    have hk' : r.length ≤ k := by simpa using hk
    cases ho : isOpt x with
    | false => rw [words_not f ps x r ho]; exact hf
    | true =>
      by_cases hd : tail x = ⟨#[45]⟩
      · rw [words_dashes f ps x r ho hd]; exact hf
      · rw [words_word f ps x r ho hd]
        have hw := word_ok _ f (tail x) (Nat.le_refl _) hf
        cases hx : word f (tail x) with
        | done f' => rw [hx] at hw; exact words_ok k f' ps r hk' hw
        | bad s => rw [hx] at hw; exact .inl ⟨rfl, hw⟩
        | part f' b s t =>
          rw [hx] at hw
          simp only [goOn]
          split
          · cases r with
            | nil => exact .inr ⟨rfl, .inr hw.2⟩
            | cons y r' => exact words_ok k f' _ r' (by simp at hk'; omega) hw.1
          · exact words_ok k f' _ r hk' hw.1
theorem parse_ok (l : List ByteArray) : match parse l with
    | .fault n s => AnsOk (.fault n s)
    | .good m => bad m = false := by
  have h := words_ok _ ⟨false, false, false, false⟩ [] l (Nat.le_refl _) rfl
  unfold parse
  cases hw : words ⟨⟨false, false, false, false⟩, [], l⟩ with
  | fault n s => rw [hw] at h; exact h
  | good m =>
    rw [hw] at h
    obtain ⟨f, ps, r⟩ := m
    have h' : (f.i && !f.a) = false := h
    cases ps with
    | nil =>
      cases r with
      | nil => exact .inr ⟨rfl, .inl rfl⟩
      | cons x r => simpa [finA, fin, bad] using h'
    | cons p ps => simpa [finA, fin, bad] using h'
def Fits (k : Nat) : Ans Mid → Prop
  | .fault _ _ => True
  | .good m => m.ps.length + m.l.length ≤ k
theorem Fits.mono {k k' : Nat} {x : Ans Mid} (h : Fits k x) (hk : k ≤ k') : Fits k' x := by
  cases x with
  | fault n s => trivial
  | good m => exact Nat.le_trans h hk
theorem words_fits : ∀ (k : Nat) (f : Fl) (ps : List Prt) (l : List ByteArray), l.length ≤ k → Fits (ps.length + l.length) (words ⟨f, ps, l⟩)
  | _, f, ps, [], _ => Nat.le_refl _
  | 0, _, _, x :: r, hk => absurd hk (by simp)
  | k + 1, f, ps, x :: r, hk => by
    have hk' : r.length ≤ k := by simpa using hk
    cases ho : isOpt x with
    | false => rw [words_not f ps x r ho]; exact Nat.le_refl _
    | true =>
      by_cases hd : tail x = ⟨#[45]⟩
      · rw [words_dashes f ps x r ho hd]
        show ps.length + r.length ≤ ps.length + (x :: r).length
        simp
      · rw [words_word f ps x r ho hd]
        cases hx : word f (tail x) with
        | done f' => exact (words_fits k f' ps r hk').mono (by simp)
        | bad s => trivial
        | part f' b s t =>
          simp only [goOn]
          split
          · cases r with
            | nil => trivial
            | cons y r' => exact (words_fits k f' _ r' (by simp at hk'; omega)).mono (by simp; omega)
          · exact (words_fits k f' _ r hk').mono (by simp; omega)
theorem parse_fits (l : List ByteArray) : Fits l.length (parse l) := by
  have h := words_fits _ ⟨false, false, false, false⟩ [] l (Nat.le_refl _)
  unfold parse
  cases hw : words ⟨⟨false, false, false, false⟩, [], l⟩ with
  | fault n s => trivial
  | good m =>
    rw [hw] at h
    obtain ⟨f, ps, r⟩ := m
    have h' : ps.length + r.length ≤ 0 + l.length := h
    cases ps with
    | nil =>
      cases r with
      | nil => trivial
      | cons x r =>
        show [((false, x) : Prt)].length + r.length ≤ l.length
        simp at h' ⊢
        omega
    | cons p ps =>
      show (p :: ps).length + r.length ≤ l.length
      omega
theorem print_len (m : Mid) : (print m).length ≤ 5 + 2 * m.ps.length + m.l.length := by
  unfold print
  split
  · simp
  · have h1 := flagL_len (flagB m.f)
    have h2 : (flagB m.f).length = 4 := rfl
    rw [List.length_append, List.length_append, List.length_append, partsL_len]
    simp only [List.length_cons, List.length_nil]
    omega
theorem print_nil (m : Mid) : (print m).length = 0 ↔ bad m = true := by
  unfold print
  split
  · rename_i h; simp [h]
  · rename_i h
    constructor
    · intro h2; simp at h2
    · intro h2; exact absurd h2 h
end Go.Proofs.YtmjagjcaepbklaaDoor.Opts
