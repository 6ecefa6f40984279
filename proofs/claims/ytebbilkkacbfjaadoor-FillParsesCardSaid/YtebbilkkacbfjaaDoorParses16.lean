/- The walk of the law FillParses. Condition: room. -/
import Derived.Test.YtebbilkkacbfjaaDoorRefParse
import Derived.Test.YtebbilkkacbfjaaDoorWideMarks16
import Derived.Test.YtebbilkkacbfjaaDoorBagP3
import Derived.Test.YtebbilkkacbfjaaDoorAsks16
namespace Go.Proofs.YtebbilkkacbfjaaDoor
open Go.RowKit

theorem Small.mono {k m : Nat} {p : List Piece} (h : Small k p) (hk : k ≤ m) : Small m p := ⟨Nat.le_trans h.1 hk, fun q hq => Nat.le_trans (h.2 q hq) hk⟩
theorem Small.esc {k : Nat} {p : List Piece} (h : Small k p) (y : Mark) : Small (k + 1) (esc p y) := by
  unfold Go.Proofs.YtebbilkkacbfjaaDoor.esc
  split
  · exact h.push 0 _ (Nat.le_refl _) _ _ rfl (by omega)
  · split
    · exact h.add _ (Nat.le_refl _) _
    · exact h.add _ (Nat.le_refl _) _
theorem parseFrom_small : ∀ (n : Nat) (l : List Mark), l.length ≤ n → ∀ (k : Nat) (p q : List Piece), Small k p → parseFrom p l = some q → Small (k + l.length) q := by
  intro n
  induction n with
  | zero =>
    intro l hl k p q hs he
    obtain rfl : l = [] := List.eq_nil_of_length_eq_zero (by omega)
    rw [parse_nil] at he
    injection he with he
    subst he
    exact hs
  | succ n ih =>
    intro l hl k p q hs he
    match l, hl, he with
    | [], _, he =>
      rw [parse_nil] at he
      injection he with he
      subst he
      exact hs
    | [m], _, he =>
      unfold parseFrom at he
      split at he
      · injection he with he; subst he; exact hs.add _ (Nat.le_refl _) _
      · split at he
        · injection he with he; subst he; exact hs.push 0 _ (Nat.le_refl _) _ _ rfl (by omega)
        · split at he
          · cases he
          · injection he with he; subst he; exact hs.add _ (Nat.le_refl _) _
    | m :: y :: r, hl, he =>
      simp only [List.length_cons] at hl
      unfold parseFrom at he
      split at he
      · exact (ih (y :: r) (by simp; omega) (k + 1) _ q (hs.add _ (Nat.le_refl _) _) he).mono (by simp; omega)
      · split at he
        · exact (ih (y :: r) (by simp; omega) (k + 1) _ q (hs.push 0 _ (Nat.le_refl _) _ _ rfl (by omega)) he).mono (by simp; omega)
        · split at he
          · exact (ih r (by omega) (k + 1) _ q (hs.esc y) he).mono (by simp; omega)
          · exact (ih (y :: r) (by simp; omega) (k + 1) _ q (hs.add _ (Nat.le_refl _) _) he).mono (by simp; omega)
theorem parse_small (l : List Mark) (q : List Piece) (h : parse l = some q) : Small l.length q := by
  have := parseFrom_small l.length l (Nat.le_refl _) 0 [] q ⟨by simp, by simp⟩ h
  simpa using this

/-- Parse, the program's and the document's: one answer, whatever the world. -/
def Parses (f : FuncId) (l : List Mark) (P : List Piece) (er pl : Int) : Prop :=
  ∀ (A : Option Addr) (n c : Nat) (w : World), Hid (n = l.length) → Hid (SliceAt Rep.mark w (under w.heap.size) A c l) →
    Calls Tryd.prog f #[.slice A n c] w fun e w' => ∃ A1 n1 c1, e = .returned (.tuple #[.slice A1 n1 c1, .int .i64 er, .int .i64 pl]) ∧ n1 ≤ c1 ∧ c1 ≤ 9223372036854775807 ∧ Hid (n1 = P.length) ∧ Hid (∃ ts, PT w' w.heap.size (.slice A1 n1 c1) P ts) ∧ Hid (Below w.heap.size w w')
theorem parses_of (f : FuncId) (l : List Mark) (hb : l.length ≤ 2147483647)
    (H : ∀ (A : Option Addr) (c : Nat) (w : World), SliceAt Rep.mark w (under w.heap.size) A c l → l.length ≤ 4294967296 → Calls Tryd.prog f #[.slice A l.length c] w fun e w' => Parsed w l.length (parse l) e w' ∧ Below w.heap.size w w') :
    Parses f l ((parse l).getD []) (if (parse l).isSome then 0 else 61) (if (parse l).isSome then 0 else l.length - 1) := by
  intro A n c w hn hl
  rw [hn.out]
  refine (H A c w hl.out (by omega)).mono fun e w' ⟨hp, hbw⟩ => ?_
  rcases hq : parse l with _ | q
  · rw [hq] at hp
    exact ⟨none, 0, 0, hp, Nat.le_refl _, by omega, Lib.hid rfl, Lib.hid (POwn.nil _ _), Lib.hid hbw⟩
  · rw [hq] at hp
    obtain ⟨v, he, ho⟩ := hp
    obtain ⟨A1, n1, c1, rfl, h1, h2, h3⟩ := ho.form
    exact ⟨A1, n1, c1, he, h2, h3, h1, Lib.hid ho, Lib.hid hbw⟩
theorem parses (l : List Mark) (hb : l.length ≤ 2147483647) : ∃ P er pl, P.length ≤ 2147483647 ∧ Hid (∀ p ∈ P, p.text.length ≤ 1099511627776) ∧ Parses 9 l P er pl ∧ Parses 10 l P er pl := by
  refine ⟨_, _, _, ?_, Lib.hid ?_, parses_of _ l hb fun A c w => parse_any A c l w, parses_of _ l hb fun A c w => refParse_any A c l w⟩
  · rcases hq : parse l with _ | q
    · simp
    · have := (parse_small l q hq).1; simp; omega
  · rcases hq : parse l with _ | q
    · simp
    · intro p hp
      have := (parse_small l q hq).2 p (by simpa using hp)
      omega
theorem PT.read {w : World} {base : Nat} {A : Option Addr} {n c : Nat} {l : List Piece} {ts : List Value} (h : PT w base (.slice A n c) l ts) : SliceAt Rep.piece w (under w.heap.size) A c l := by
  obtain ⟨A', c', e, hs⟩ := POwn.slice (show POwn w base (.slice A n c) l from ⟨ts, h⟩)
  simp only [Value.slice.injEq] at e
  obtain ⟨rfl, rfl, rfl⟩ := e
  exact hs.up fun b hb => hb.2
theorem Own.setByte {e : TypeId} {w : World} {base g n c : Nat} {l : List Mark} (h : Own Rep.mark e w base nob (.slice (some ⟨g, 0, none⟩) n c) l) {i : Nat} (hi : i < l.length) (y : UInt8) :
    Own Rep.mark e (w.setCell ⟨g, i * 2, none⟩ (.int .u8 y.toNat)) base nob (.slice (some ⟨g, 0, none⟩) n c) (l.set i ⟨y, l[i].plain⟩) := by
  obtain ⟨xs, hx, hS, h1, hr⟩ := h
  have hxl : xs.length = l.length * 2 := hx.1
  have hx2 := ownsRow_setCell hx (i * 2) (show i * 2 < l.length * 2 by omega) (.int .u8 y.toNat)
  refine ⟨_, by rw [List.length_set]; exact hx2, fun _ h => h.elim, fun u hu => ?_, fun j hj => ?_⟩
  · rcases List.mem_or_eq_of_mem_set hu with hu | rfl
    · exact h1 u hu
    · rfl
  · simp only [List.length_set] at hj
    have hrj := hr j hj
    rcases Decidable.em (j = i) with rfl | hne
    · rw [List.getElem_set_self]
      obtain ⟨a, b, e0, e1, e2⟩ := hrj
      have ha : a = [.int .u8 l[j].byte.toNat] := e1
      have hb : b = [.bool l[j].plain] := e2
      subst ha hb
      refine ⟨[.int .u8 y.toNat], [.bool l[j].plain], ?_, rfl, rfl⟩
      show ((xs.set (j * 2) _).drop (j * 2)).take 2 = _
      have e3 : (xs.drop (j * 2)).take 2 = [.int .u8 l[j].byte.toNat, .bool l[j].plain] := e0
      rw [List.drop_set, if_neg (by omega), Nat.sub_self, List.take_set, e3]
      rfl
    · rw [List.getElem_set_ne (fun e => hne e.symm)]
      have e4 : ((xs.set (i * 2) (.int .u8 y.toNat)).drop (j * 2)).take 2 = (xs.drop (j * 2)).take 2 := by
        apply List.ext_getElem?
        intro k
        simp only [List.getElem?_take, List.getElem?_drop, List.getElem?_set]
        split
        · rw [if_neg (by omega)]
        · rfl
      show Rep.mark.is _ nob (((xs.set (i * 2) (.int .u8 y.toNat)).drop (j * 2)).take 2) _
      rw [e4]
      obtain ⟨a, b, e0, e1, e2⟩ := hrj
      exact ⟨a, b, e0, e1, e2⟩
end Go.Proofs.YtebbilkkacbfjaaDoor
