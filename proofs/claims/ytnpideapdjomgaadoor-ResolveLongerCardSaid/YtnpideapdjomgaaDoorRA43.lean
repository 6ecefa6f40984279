/- Texts that lead to the claim, one behind the other: Command lines: what opts.Parse does, without memory. No conditions. | Two lists of texts compared: the walk of galleyref00.EqTexts. No conditions. -/
import Derived.Test.YtnpideapdjomgaaDoorProg
import Derived.Shelf.Unicode.DecodeAny
import Derived.Lib.QuoteLoop
import Derived.Laws.RangeAny
import Derived.Laws.Strings
import Derived.Test.YtnpideapdjomgaaDoorRA41
import Derived.WalkKit
import Derived.WalkSpells
import Derived.Deep.QuietTactic
import Derived.BigQuiet
import Derived.Lib.Hide
namespace Go.Proofs.YtnpideapdjomgaaDoor.Opts
open Go.RowKit

structure Fl where
  q : Bool
  e : Bool
  a : Bool
  i : Bool
abbrev Prt := Bool × ByteArray
/-- What is behind the first letter, and this. -/
def rest (w : ByteArray) : ByteArray := w.extract (Lib.decodeGo w).2 w.size
def letter (w : ByteArray) : ByteArray := w.extract 0 (Lib.decodeGo w).2
theorem dec_eq {w : ByteArray} (h : 0 < w.size) : Lib.decodeGo w = Utf8.decode w 0 := by unfold Lib.decodeGo; rw [if_neg (by omega)]
theorem dec_le {w : ByteArray} (h : 0 < w.size) : (Lib.decodeGo w).2 ≤ w.size := by rw [dec_eq h]; exact Lib.width_le w h
theorem dec_pos {w : ByteArray} (h : 0 < w.size) : 1 ≤ (Lib.decodeGo w).2 := by rw [dec_eq h]; exact Lib.width_pos w 0
theorem rest_size {w : ByteArray} (h : 0 < w.size) : (rest w).size + (Lib.decodeGo w).2 = w.size := by
  have := dec_le h
  unfold rest
  rw [ByteArray.size_extract]
  omega
inductive Out where
  | done (f : Fl)
  | part (f : Fl) (file : Bool) (l r : ByteArray)
  | bad (l : ByteArray)
def step (f : Fl) (c : Nat) : Option Fl :=
  if c = 110 then some { f with q := true } else if c = 69 then some { f with e := true } else if c = 105 then some { f with a := true, i := true } else if c = 115 then some { f with a := true } else none
def wordGo : Nat → Fl → ByteArray → Out
  | 0, f, _ => .done f
  | k + 1, f, w => if w.size = 0 then .done f else
    match step f (Lib.decodeGo w).1 with
    | some f' => wordGo k f' (rest w)
    | none => if (Lib.decodeGo w).1 = 101 ∨ (Lib.decodeGo w).1 = 102 then .part f (decide ((Lib.decodeGo w).1 = 102)) (letter w) (rest w) else .bad (letter w)
def word (f : Fl) (w : ByteArray) : Out := wordGo w.size f w
theorem wordGo_more : ∀ (k : Nat) (f : Fl) (w : ByteArray), w.size ≤ k → wordGo k f w = word f w
  | 0, f, w, h => by
    have : w.size = 0 := by omega
    simp [word, this]
  | k + 1, f, w, h => by
    unfold word
    by_cases h0 : w.size = 0
    · simp [h0, wordGo]
    · obtain ⟨j, hj⟩ : ∃ j, w.size = j + 1 := ⟨w.size - 1, by omega⟩
      have hr := rest_size (w := w) (by omega)
      have hp := dec_pos (w := w) (by omega)
      rw [hj]
      simp only [wordGo, if_neg h0]
      cases step f (Lib.decodeGo w).1 with
      | none => rfl
      | some f' =>
        show wordGo k f' (rest w) = wordGo j f' (rest w)
        rw [wordGo_more k f' (rest w) (by omega), wordGo_more j f' (rest w) (by omega)]
  termination_by k => k
theorem word_zero (f : Fl) {w : ByteArray} (h : w.size = 0) : word f w = .done f := by simp [word, h, wordGo]
theorem word_step (f f' : Fl) {w : ByteArray} (h : 0 < w.size) (hs : step f (Lib.decodeGo w).1 = some f') : word f w = word f' (rest w) := by
  obtain ⟨j, hj⟩ : ∃ j, w.size = j + 1 := ⟨w.size - 1, by omega⟩
  have hr := rest_size h
  have hp := dec_pos h
  rw [← wordGo_more j f' (rest w) (by omega)]
  unfold word
  rw [hj]
  simp only [wordGo, hs]
  rw [if_neg (by omega)]
theorem word_part (f : Fl) (b : Bool) {w : ByteArray} (h : 0 < w.size) (hs : (Lib.decodeGo w).1 = if b then 102 else 101) : word f w = .part f b (letter w) (rest w) := by
  obtain ⟨j, hj⟩ : ∃ j, w.size = j + 1 := ⟨w.size - 1, by omega⟩
  unfold word
  rw [hj]
  simp only [wordGo, hs]
  rw [if_neg (by omega)]
  cases b <;> simp [step]
theorem word_bad (f : Fl) {w : ByteArray} (h : 0 < w.size) (hs : step f (Lib.decodeGo w).1 = none) (h1 : (Lib.decodeGo w).1 ≠ 101) (h2 : (Lib.decodeGo w).1 ≠ 102) : word f w = .bad (letter w) := by
  obtain ⟨j, hj⟩ : ∃ j, w.size = j + 1 := ⟨w.size - 1, by omega⟩
  unfold word
  rw [hj]
  simp only [wordGo, hs]
  rw [if_neg (by omega), if_neg (by rintro (h | h) <;> contradiction)]
def tail (x : ByteArray) : ByteArray := x.extract 1 x.size
/-- Is it an option word? -/
def isOpt (x : ByteArray) : Bool := decide (1 < x.size) && (x.get! 0 == 45)
inductive Ans (α : Type) where
  | fault (n : Nat) (s : ByteArray)
  | good (a : α)
structure Mid where
  f : Fl
  ps : List Prt
  l : List ByteArray
/-- The words that are options. -/
def wordsGo : Nat → Mid → Ans Mid
  | 0, m => .good m
  | _ + 1, ⟨f, ps, []⟩ => .good ⟨f, ps, []⟩
  | k + 1, ⟨f, ps, x :: r⟩ => if isOpt x = false then .good ⟨f, ps, x :: r⟩ else if tail x = ⟨#[45]⟩ then .good ⟨f, ps, r⟩ else
    match word f (tail x) with
    | .done f' => wordsGo k ⟨f', ps, r⟩
    | .bad s => .fault 90 s
    | .part f' b s t => if t = ⟨#[]⟩ then
        match r with
        | [] => .fault 91 s
        | y :: r' => wordsGo k ⟨f', ps ++ [(b, y)], r'⟩
      else wordsGo k ⟨f', ps ++ [(b, t)], r⟩
def words (m : Mid) : Ans Mid := wordsGo m.l.length m
theorem wordsGo_more : ∀ (k : Nat) (m : Mid), m.l.length ≤ k → wordsGo k m = words m
  | 0, ⟨f, ps, l⟩, h => by
    have : l = [] := List.length_eq_zero_iff.1 (by simpa using h)
    subst this
    rfl
  | k + 1, ⟨f, ps, []⟩, h => rfl
  | k + 1, ⟨f, ps, x :: r⟩, h => by
    have hk : r.length ≤ k := by simpa using h
    show _ = wordsGo (r.length + 1) ⟨f, ps, x :: r⟩
    simp only [wordsGo]
    have e : ∀ m : Mid, m.l.length ≤ r.length → wordsGo k m = wordsGo r.length m := fun m hm => by
      rw [wordsGo_more k m (by omega), wordsGo_more r.length m hm]
    cases word f (tail x) with
    | done f' => simp only; rw [e _ (Nat.le_refl _)]
    | bad s => rfl
    | part f' b s t =>
      simp only
      rw [e _ (Nat.le_refl _)]
      cases r with
      | nil => rfl
      | cons y r' => simp only; rw [e _ (by simp)]
  termination_by k => k
section
variable (f : Fl) (ps : List Prt) (x : ByteArray) (r : List ByteArray)
theorem words_nil : words ⟨f, ps, []⟩ = .good ⟨f, ps, []⟩ := rfl
theorem words_not (h : isOpt x = false) : words ⟨f, ps, x :: r⟩ = .good ⟨f, ps, x :: r⟩ := by simp [words, wordsGo, h]
theorem words_dashes (h : isOpt x = true) (h2 : tail x = ⟨#[45]⟩) : words ⟨f, ps, x :: r⟩ = .good ⟨f, ps, r⟩ := by simp [words, wordsGo, h, h2]
/-- What a word does: how it goes on behind it. -/
def goOn (ps : List Prt) (r : List ByteArray) : Out → Ans Mid
  | .done f' => words ⟨f', ps, r⟩
  | .bad s => .fault 90 s
  | .part f' b s t => if t = ⟨#[]⟩ then
      match r with
      | [] => .fault 91 s
      | y :: r' => words ⟨f', ps ++ [(b, y)], r'⟩
    else words ⟨f', ps ++ [(b, t)], r⟩
theorem words_word (h : isOpt x = true) (h2 : tail x ≠ ⟨#[45]⟩) : words ⟨f, ps, x :: r⟩ = goOn ps r (word f (tail x)) := by
  show wordsGo (r.length + 1) ⟨f, ps, x :: r⟩ = _
  simp only [wordsGo, h, h2]
  cases word f (tail x) with
  | done f' => rfl
  | bad s => rfl
  | part f' b s t =>
    cases r with
    | nil => rfl
    | cons y r' =>
      simp only [goOn, ← wordsGo_more (y :: r').length ⟨f', ps ++ [(b, y)], r'⟩ (by simp)]
      rfl
end
def fin : Mid → Ans Mid
  | ⟨_, [], []⟩ => .fault 91 ⟨#[]⟩
  | ⟨f, [], x :: r⟩ => .good ⟨f, [(false, x)], r⟩
  | m => .good m
def finA : Ans Mid → Ans Mid
  | .good m => fin m
  | .fault n s => .fault n s
def parse (l : List ByteArray) : Ans Mid := finA (words ⟨⟨false, false, false, false⟩, [], l⟩)
theorem isOpt_short {x : ByteArray} (h : ¬ 1 < x.size) : isOpt x = false := by simp [isOpt, h]
theorem get!_zero {x : ByteArray} (h : 1 < x.size) : x.get! 0 = x[0]'(by omega) := by
  cases x with
  | mk d => exact getElem!_pos d 0 (Nat.lt_trans Nat.zero_lt_one h)
theorem isOpt_no {x : ByteArray} (h : 1 < x.size) (h2 : (x[0]'(by omega)).toNat ≠ 45) : isOpt x = false := by
  simp only [isOpt, h, decide_true, Bool.true_and, get!_zero h, beq_eq_false_iff_ne]
  intro e
  rw [e] at h2
  exact h2 rfl
theorem isOpt_yes {x : ByteArray} (h : 1 < x.size) (h2 : (x[0]'(by omega)).toNat = 45) : isOpt x = true := by
  simp only [isOpt, h, decide_true, Bool.true_and, get!_zero h, beq_iff_eq]
  exact UInt8.toNat_inj.1 h2
theorem str_yes {s : ByteArray} {l : List UInt8} (h : s = ⟨l.toArray⟩) : (s.toList == l) = true := by
  subst h
  simp
theorem str_no {s : ByteArray} {l : List UInt8} (h : s ≠ ⟨l.toArray⟩) : (s.toList == l) = false := by
  rw [beq_eq_false_iff_ne, ByteArray.toList_eq]
  intro e
  subst e
  exact h rfl
/-! ### What Print writes -/
def flagB (f : Fl) : List (Bool × ByteArray) := [(f.q, ⟨#[45, 110]⟩), (f.e, ⟨#[45, 69]⟩), (f.a && !f.i, ⟨#[45, 115]⟩), (f.i, ⟨#[45, 105]⟩)]
def flagL : List (Bool × ByteArray) → List ByteArray
  | [] => []
  | x :: r => (if x.1 then [x.2] else []) ++ flagL r
theorem flagL_append (a b : List (Bool × ByteArray)) : flagL (a ++ b) = flagL a ++ flagL b := by
  induction a with
  | nil => rfl
  | cons x r ih => simp [flagL, ih]
theorem flagL_take (l : List (Bool × ByteArray)) (j : Nat) (h : j < l.length) : flagL (l.take (j + 1)) = flagL (l.take j) ++ (if l[j].1 then [l[j].2] else []) := by
  rw [List.take_succ_eq_append_getElem h, flagL_append]
  simp [flagL]
theorem flagL_len (l : List (Bool × ByteArray)) : (flagL l).length ≤ l.length := by
  induction l with
  | nil => simp [flagL]
  | cons x r ih => cases hx : x.1 <;> simp [flagL, hx] <;> omega
def partsL : List Prt → List ByteArray
  | [] => []
  | p :: r => (if p.1 then ⟨#[45, 102]⟩ else ⟨#[45, 101]⟩) :: p.2 :: partsL r
theorem partsL_append (a b : List Prt) : partsL (a ++ b) = partsL a ++ partsL b := by
  induction a with
  | nil => rfl
  | cons x r ih => simp [partsL, ih]
theorem partsL_take (l : List Prt) (j : Nat) (h : j < l.length) : partsL (l.take (j + 1)) = partsL (l.take j) ++ [(if l[j].1 then ⟨#[45, 102]⟩ else ⟨#[45, 101]⟩), l[j].2] := by
  rw [List.take_succ_eq_append_getElem h, partsL_append]
  simp [partsL]
theorem partsL_len (l : List Prt) : (partsL l).length = 2 * l.length := by
  induction l with
  | nil => rfl
  | cons x r ih => simp [partsL, ih]; omega
def bad (m : Mid) : Bool := m.ps.isEmpty || (m.f.i && !m.f.a)
def print (m : Mid) : List ByteArray := if bad m then [] else flagL (flagB m.f) ++ partsL m.ps ++ [⟨#[45, 45]⟩] ++ m.l
end Go.Proofs.YtnpideapdjomgaaDoor.Opts
namespace Go.Proofs.YtnpideapdjomgaaDoor
open Go.RowKit

theorem SliceAt.texts {w : World} {S : Blocks} {A : Option Addr} {c : Nat} {l : List ByteArray} (h : SliceAt Rep.str w S A c l) {i : Nat} (hi : i < l.length) :
    ∃ g o, A = some ⟨g, o, none⟩ ∧ S g ∧ w.cell? ⟨g, o + i, none⟩ = some (.string l[i]) ∧ l[i].size ≤ 9223372036854775807 := by
  obtain ⟨g, o, cs, e, hb, hc, rfl, hm⟩ := h.at_ hi
  have := hc.one
  rw [show Rep.str.n = 1 from rfl, Nat.mul_one] at this
  exact ⟨g, o, e, hb, this, by simpa [maxLen] using hm⟩
theorem texts_eq (a b : ByteArray) : (a.toList == b.toList) = decide (a = b) := by
  by_cases h : a = b
  · subst h; simp
  · rw [decide_eq_false h]
    exact Opts.str_no (l := b.toList) (by rw [ByteArray.toList_eq]; exact h)
set_option maxHeartbeats 1000000 in
theorem eqTexts (A B : Option Addr) (c d : Nat) (xs ys : List ByteArray) (w : World) (S S' : Blocks) (hx : SliceAt Rep.str w S A c xs) (hy : SliceAt Rep.str w S' B d ys) :
    Calls Tryd.prog 24 #[.slice A xs.length c, .slice B ys.length d] w fun e w' => e = .returned (.bool (decide (xs = ys))) ∧ ∃ n, w' = w.drewN n := by
  have hcx := hx.len
  have hcx' := hx.max
  have hcy := hy.len
  have hcy' := hy.max
  have HX := Lib.hid hx
  have HY := Lib.hid hy
  clear hx hy
  by_cases h : xs.length = ys.length
  · obtain ⟨n, hn⟩ : ∃ n, n = xs.length := ⟨_, rfl⟩
    have hn' : ys.length = n := by omega
    have HN := Lib.hid hn
    have HN' := Lib.hid hn'
    rw [← h, ← hn]
    rw [← hn] at hcx
    clear h hn hn' hcy
    have h2 : (n != n) = false := by simp
    go_enter Tryd.func24, Tryd.ntmps24
    go_wp2
    go_loopw [5] (fun i wr => ∃ k nd : Nat, k ≤ n ∧ i = .int .i64 k ∧ wr = w.drewN nd ∧ xs.take k = ys.take k) (fun i _ => n - (intOf i).toNat)
    case atStart => exact ⟨0, 0, Nat.zero_le _, rfl, rfl, rfl⟩
    case round =>
      obtain ⟨k, nd, hk, rfl, rfl, ht⟩ := hrel
      have HT := Lib.hid ht
      clear ht
      by_cases hlt : k < n
      · have hkx : k < xs.length := by have := HN.out; omega
        have hky : k < ys.length := by have := HN'.out; omega
        obtain ⟨g, o, rfl, -, hcx0, -⟩ := HX.out.texts hkx
        obtain ⟨g', o', rfl, -, hcy0, -⟩ := HY.out.texts hky
        have hkx' := Lib.hid hkx
        have hky' := Lib.hid hky
        obtain ⟨a, ha, hcx⟩ : ∃ a, a = xs[k] ∧ w.cell? ⟨g, o + k, none⟩ = some (.string a) := ⟨_, rfl, hcx0⟩
        obtain ⟨b, hb, hcy⟩ : ∃ b, b = ys[k] ∧ w.cell? ⟨g', o' + k, none⟩ = some (.string b) := ⟨_, rfl, hcy0⟩
        clear hcx0 hcy0
        by_cases he : xs[k] = ys[k]
        · obtain rfl : b = a := by rw [ha, hb, he]
          have h3 : (b.toList == b.toList) = true := by simp
          have HE := Lib.hid he
          clear he ha hb
          go_wp2
          go_quiet (fail)
          go_wp2
          go_roundw
          case rel => exact ⟨k + 1, nd + nq, by omega, by go_num, rfl, take_succ_eq HT.out hkx'.out hky'.out HE.out⟩
          case measure => simp [intOf]; omega
        · have h3 : (a.toList == b.toList) = false := by rw [texts_eq]; exact decide_eq_false (by rw [ha, hb]; exact he)
          have HE := Lib.hid (ne_of_at hkx hky he)
          clear he ha hb
          go_wp2
          go_quiet (fail)
          go_wp2
          go_ret
          exact ⟨retB HE.out, _, World.drewN_drewN _ _ _⟩
      · have hxy : decide (xs = ys) = true := by
          have h1 := HT.out
          rw [List.take_of_length_le (by have := HN.out; omega), List.take_of_length_le (by have := HN'.out; omega)] at h1
          exact decide_eq_true h1
        have HXY := Lib.hid hxy
        clear hxy
        go_wp2
        go_ret
        exact ⟨retB HXY.out, _, rfl⟩
  · have hd : decide (xs = ys) = false := by rw [decide_eq_false_iff_not]; rintro rfl; exact h rfl
    have h2 : (xs.length != ys.length) = true := by simpa using h
    have HD := Lib.hid hd
    clear h hd
    go_enter Tryd.func24, Tryd.ntmps24
    go_wp2
    go_ret
    exact ⟨retB HD.out, 0, rfl⟩

end Go.Proofs.YtnpideapdjomgaaDoor
