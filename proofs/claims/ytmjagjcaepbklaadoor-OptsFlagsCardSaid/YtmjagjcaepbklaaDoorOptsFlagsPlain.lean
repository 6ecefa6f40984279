/- Lines put together of flags: what is read of them. No program in sight. No conditions. -/
import Derived.Test.YtmjagjcaepbklaaDoorOptsBackPlain
namespace Go.Proofs.YtmjagjcaepbklaaDoor.Opts
open Go.RowKit

abbrev BA (l : List UInt8) : ByteArray := ⟨l.toArray⟩
theorem BA_size (l : List UInt8) : (BA l).size = l.length := by simp [ByteArray.size]
theorem BA_append (l m : List UInt8) : BA l ++ BA m = BA (l ++ m) := by
  apply ByteArray.ext
  rw [ByteArray.data_append]
  simp
theorem BA_of (x : ByteArray) : x = BA x.data.toList := by cases x; simp [BA]
theorem BA_nil {x : ByteArray} (h : x.size = 0) : x = BA [] := by
  cases x with
  | mk d =>
    have : d = #[] := Array.eq_empty_of_size_eq_zero h
    subst this
    rfl
theorem dec_cons (c : UInt8) (l : List UInt8) (hc : c.toNat < 128) : Lib.decodeGo (BA (c :: l)) = (c.toNat, 1) :=
  dec_ascii (y := BA (c :: l)) (by rw [BA_size]; simp) hc
theorem cut_cons (c : UInt8) (l : List UInt8) : (BA (c :: l)).extract 1 (BA (c :: l)).size = BA l := by
  apply ByteArray.ext
  rw [ByteArray.data_extract, BA_size]
  simp [BA]
theorem rest_cons (c : UInt8) (l : List UInt8) (hc : c.toNat < 128) : rest (BA (c :: l)) = BA l := by
  unfold rest
  rw [dec_cons c l hc]
  exact cut_cons c l
theorem tail_cons (c : UInt8) (l : List UInt8) : tail (BA (c :: l)) = BA l := cut_cons c l
theorem isOpt_cons (c : UInt8) (l : List UInt8) : isOpt (BA (45 :: c :: l)) = true := by
  have h : 1 < (BA (45 :: c :: l)).size := by rw [BA_size]; simp
  exact isOpt_yes h rfl
/-- The letters that stand alone. -/
def lone (c : UInt8) : Bool := c == 110 || c == 69 || c == 115 || c == 105
theorem lone_step {c : UInt8} (h : lone c = true) (f : Fl) : ∃ f', step f c.toNat = some f' := by
  simp only [lone, Bool.or_eq_true, beq_iff_eq] at h
  rcases h with ((rfl | rfl) | rfl) | rfl <;> exact ⟨_, rfl⟩
theorem lone_low {c : UInt8} (h : lone c = true) : c.toNat < 128 ∧ c ≠ 45 := by
  simp only [lone, Bool.or_eq_true, beq_iff_eq] at h
  rcases h with ((rfl | rfl) | rfl) | rfl <;> decide
def flags (f : Fl) (l : List UInt8) : Fl := l.foldl (fun f c => (step f c.toNat).getD f) f
theorem word_flags (r : List UInt8) : ∀ (l : List UInt8) (f : Fl), (∀ c ∈ l, lone c = true) → word f (BA (l ++ r)) = word (flags f l) (BA r)
  | [], f, _ => rfl
  | c :: l, f, h => by
    have hc := h c (by simp)
    obtain ⟨f', hs⟩ := lone_step hc f
    have hl := lone_low hc
    rw [List.cons_append, word_step f f' (w := BA (c :: (l ++ r))) (by rw [BA_size]; simp) (by rw [dec_cons _ _ hl.1]; exact hs), rest_cons _ _ hl.1, word_flags r l f' (fun x hx => h x (by simp [hx]))]
    simp [flags, hs]
theorem flags_snoc {f f' : Fl} {l : List UInt8} {c : UInt8} (h : step (flags f l) c.toNat = some f') : flags f (l ++ [c]) = f' := by
  simp only [flags, List.foldl_append, List.foldl_cons, List.foldl_nil] at h ⊢
  rw [h]
  rfl
def zero : Fl := ⟨false, false, false, false⟩
/-- A word on its way begins so. -/
def dash (w : ByteArray) : ByteArray := if w.size = 0 then BA [45] else w
/-- A line on its way: the word that is not yet put by, the flags, the parts, the words. -/
def FInv (w : ByteArray) (f : Fl) (ps : List Prt) (a : List ByteArray) : Prop :=
  ∃ (f0 : Fl) (L : List UInt8), (∀ c ∈ L, lone c = true) ∧ f = flags f0 L ∧ ((w = BA [] ∧ L = []) ∨ (w = BA (45 :: L) ∧ L ≠ [])) ∧ ∀ R, words ⟨zero, [], a ++ R⟩ = words ⟨f0, ps, R⟩
theorem FInv.start : FInv (BA []) zero [] [] := ⟨zero, [], by simp, rfl, .inl ⟨rfl, rfl⟩, fun _ => rfl⟩
theorem dash_of {w : ByteArray} {L : List UInt8} (h : (w = BA [] ∧ L = []) ∨ (w = BA (45 :: L) ∧ L ≠ [])) : dash w = BA (45 :: L) := by
  rcases h with ⟨rfl, rfl⟩ | ⟨rfl, hl⟩
  · rfl
  · unfold dash
    rw [if_neg (by rw [BA_size]; simp)]
section
variable {w : ByteArray} {f f' : Fl} {ps : List Prt} {a : List ByteArray}
theorem FInv.stuck (h : FInv w f ps a) (c : UInt8) (hc : lone c = true) (hs : step f c.toNat = some f') : FInv (dash w ++ BA [c]) f' ps a := by
  obtain ⟨f0, L, h1, rfl, h3, h4⟩ := h
  refine ⟨f0, L ++ [c], fun x hx => ?_, (flags_snoc hs).symm, .inr ⟨?_, by simp⟩, h4⟩
  · rcases List.mem_append.1 hx with h | h
    · exact h1 x h
    · obtain rfl : x = c := by simpa using h
      exact hc
  · rw [dash_of h3, BA_append]; rfl
theorem words_lone (f0 : Fl) (ps : List Prt) (L : List UInt8) (h : ∀ c ∈ L, lone c = true) (hL : L ≠ []) (R : List ByteArray) : words ⟨f0, ps, BA (45 :: L) :: R⟩ = words ⟨flags f0 L, ps, R⟩ := by
  cases L with
  | nil => exact absurd rfl hL
  | cons c l =>
    have hw := word_flags [] (c :: l) f0 h
    rw [List.append_nil] at hw
    rw [words_word _ _ _ _ (isOpt_cons c l) (by
      rw [tail_cons]
      intro e
      have := (lone_low (h c (by simp))).2
      have e' := congrArg (fun x : ByteArray => x.data.toList) e
      simp at e'
      exact this e'.1), tail_cons, hw, word_zero _ rfl]
    rfl
theorem FInv.endw (h : FInv w f ps a) (hw : w.size ≠ 0) : FInv (BA []) f ps (a ++ [w]) := by
  obtain ⟨f0, L, h1, rfl, h3, h4⟩ := h
  rcases h3 with ⟨rfl, rfl⟩ | ⟨rfl, hl⟩
  · exact absurd rfl hw
  · refine ⟨flags f0 L, [], by simp, rfl, .inl ⟨rfl, rfl⟩, fun R => ?_⟩
    rw [List.append_assoc, h4, List.singleton_append, words_lone f0 ps L h1 hl R]
theorem dash_size (w : ByteArray) : (dash w).size ≠ 0 := by
  unfold dash
  split
  · simp [BA_size]
  · assumption
theorem FInv.loose (h : FInv w f ps a) (c : UInt8) (hc : lone c = true) (hs : step f c.toNat = some f') : FInv (BA []) f' ps (a ++ [dash w ++ BA [c]]) :=
  (h.stuck c hc hs).endw (by rw [ByteArray.size_append]; show (dash w).size + 1 ≠ 0; omega)
def by_ (b : Bool) : UInt8 := if b then 102 else 101
theorem FInv.part1 (h : FInv w f ps a) (b : Bool) (t : ByteArray) (ht : t ≠ ⟨#[]⟩) : FInv (BA []) f (ps ++ [(b, t)]) (a ++ [dash w ++ BA [by_ b] ++ t]) := by
  obtain ⟨f0, L, h1, rfl, h3, h4⟩ := h
  refine ⟨flags f0 L, [], by simp, rfl, .inl ⟨rfl, rfl⟩, fun R => ?_⟩
  rw [List.append_assoc, h4, List.singleton_append, dash_of h3, BA_append, BA_of t, BA_append]
  have e : (45 :: L ++ [by_ b]) ++ t.data.toList = 45 :: (L ++ (by_ b :: t.data.toList)) := by simp
  rw [e]
  have hb : (by_ b).toNat < 128 := by cases b <;> decide
  have hw := word_flags (by_ b :: t.data.toList) L f0 h1
  have hp := word_part (flags f0 L) b (w := BA (by_ b :: t.data.toList)) (by rw [BA_size]; simp) (by rw [dec_cons _ _ hb]; cases b <;> rfl)
  rw [rest_cons _ _ hb] at hp
  have ho : isOpt (BA (45 :: (L ++ (by_ b :: t.data.toList)))) = true := by
    cases L with
    | nil => exact isOpt_cons _ _
    | cons c l => exact isOpt_cons _ _
  rw [words_word _ _ _ _ ho (by
    rw [tail_cons]
    intro e
    have e' := congrArg (fun x : ByteArray => x.data.toList) e
    cases L with
    | nil =>
      simp at e'
      revert e'
      cases b <;> simp [by_]
    | cons c l =>
      have := (lone_low (h1 c (by simp))).2
      simp at e'), tail_cons, hw, hp]
  simp only [goOn]
  rw [if_neg (by rw [← BA_of]; exact ht)]
theorem FInv.part2 (h : FInv w f ps a) (b : Bool) (t : ByteArray) : FInv (BA []) f (ps ++ [(b, t)]) (a ++ [dash w ++ BA [by_ b], t]) := by
  obtain ⟨f0, L, h1, rfl, h3, h4⟩ := h
  refine ⟨flags f0 L, [], by simp, rfl, .inl ⟨rfl, rfl⟩, fun R => ?_⟩
  rw [List.append_assoc, h4, List.cons_append, List.singleton_append, dash_of h3, BA_append]
  have hb : (by_ b).toNat < 128 := by cases b <;> decide
  have hw := word_flags [by_ b] L f0 h1
  have hp := word_part (flags f0 L) b (w := BA [by_ b]) (by rw [BA_size]; simp) (by rw [dec_cons _ _ hb]; cases b <;> rfl)
  rw [rest_cons _ _ hb] at hp
  have ho : isOpt (BA (45 :: (L ++ [by_ b]))) = true := by
    cases L with
    | nil => exact isOpt_cons _ _
    | cons c l => exact isOpt_cons _ _
  rw [List.cons_append, words_word _ _ _ _ ho (by
    rw [tail_cons]
    intro e
    have e' := congrArg (fun x : ByteArray => x.data.toList) e
    cases L with
    | nil =>
      simp at e'
      revert e'
      cases b <;> simp [by_]
    | cons c l =>
      simp at e'), tail_cons, hw, hp]
  rfl
theorem FInv.dashes (h : FInv (BA []) f ps a) (fs : List ByteArray) : parse (a ++ [BA [45, 45]] ++ fs) = fin ⟨f, ps, fs⟩ := by
  obtain ⟨f0, L, h1, rfl, h3, h4⟩ := h
  rcases h3 with ⟨-, rfl⟩ | ⟨h3, -⟩
  · unfold parse
    show finA (words ⟨zero, [], _⟩) = _
    rw [List.append_assoc, h4]
    show finA (words ⟨f0, ps, BA [45, 45] :: fs⟩) = _
    rw [words_dashes _ _ _ _ rfl rfl]
    rfl
  · have := congrArg ByteArray.size h3
    rw [BA_size, BA_size] at this
    simp at this
theorem FInv.files (h : FInv (BA []) f ps a) (x : ByteArray) (fs : List ByteArray) (hx : isOpt x = false) : parse (a ++ x :: fs) = fin ⟨f, ps, x :: fs⟩ := by
  obtain ⟨f0, L, h1, rfl, h3, h4⟩ := h
  rcases h3 with ⟨-, rfl⟩ | ⟨h3, -⟩
  · unfold parse
    show finA (words ⟨zero, [], _⟩) = _
    rw [h4, words_not _ _ _ _ hx]
    rfl
  · have := congrArg ByteArray.size h3
    rw [BA_size, BA_size] at this
    simp at this
end
end Go.Proofs.YtmjagjcaepbklaaDoor.Opts
