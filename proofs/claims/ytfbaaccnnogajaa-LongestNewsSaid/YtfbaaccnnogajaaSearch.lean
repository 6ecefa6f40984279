/- What a search does, in lists: the steps of a run, and come in those words. The walk of come joined to it. Conditions: as come's. -/
import Derived.Test.YtfbaaccnnogajaaProg
import Derived.Test.YtfbaaccnnogajaaFresh
import Derived.Test.YtfbaaccnnogajaaHas
namespace Go.Proofs.Ytfbaaccnnogajaa
open Go.RowKit

def addN (l : List Nat) (k : Nat) : List Nat := if k ∈ l then l else l ++ [k]
/-- Where a run goes from an instruction without taking a byte, at the place p of n. -/
def targets (M : List Instr) (n p k : Nat) : List Nat :=
  match M[k]? with
  | none => []
  | some i => if i.op = 2 then (if p = 0 then [k + 1] else []) else if i.op = 3 then (if p = n then [k + 1] else []) else if i.op = 4 then [i.x.toNat] else if i.op = 5 then [i.x.toNat, i.y.toNat] else []
def closeGo (M : List Instr) (n p : Nat) : Nat → Nat → List Nat → List Nat
  | 0, _, l => l
  | f + 1, i, l => match l[i]? with
    | none => l
    | some k => closeGo M n p f (i + 1) ((targets M n p k).foldl addN l)
/-- All instructions that runs come to at a place. -/
def close (M : List Instr) (n p : Nat) (l : List Nat) : List Nat := closeGo M n p M.length 0 l
def takes (M : List Instr) (b : UInt8) (k : Nat) : Bool := match M[k]? with
  | none => false
  | some i => decide (i.op = 1) && i.set.has b
/-- Those to which they come behind a byte. -/
def wayGo (M : List Instr) (b : UInt8) (here : List Nat) : List Nat := here.foldl (fun way k => if takes M b k then addN way (k + 1) else way) []
def isDone (M : List Instr) (k : Nat) : Bool := match M[k]? with
  | none => false
  | some i => decide (i.op = 6)
/-- Ends, the last of them, steps: from a place on, where runs have come to l (so many steps are counted for them already). -/
def fromGo (M : List Instr) (text : List UInt8) : Nat → Nat → List Nat → List Bool → Int → Nat → List Bool × Int × Nat
  | 0, _, _, ends, last, steps => (ends, last, steps)
  | f + 1, p, l, ends, last, steps =>
    if l = [] then (ends, last, steps) else
    let here := close M text.length p l
    let ends' := if here.any (isDone M) then ends.set p true else ends
    let last' := if here.any (isDone M) then (p : Int) else last
    let steps' := steps + (here.length - l.length)
    match text[p]? with
    | none => (ends', last', steps')
    | some b =>
      let way := wayGo M b here
      fromGo M text f (p + 1) way ends' last' (steps' + way.length)
/-- What from reckons. -/
def fromAll (M : List Instr) (text : List UInt8) (at_ : Nat) (steps : Nat) : List Bool × Int × Nat := fromGo M text (text.length + 1 - at_) at_ [0] (List.replicate (text.length + 1) false) (-1) (steps + 1)

/-- Which instructions bear the stamp. -/
def Marks (met : List Int) (st : Int) (l : List Nat) : Prop := (∀ k (h : k < met.length), met[k] = st ↔ k ∈ l) ∧ (∀ x ∈ met, 0 ≤ x ∧ x ≤ st) ∧ 0 ≤ st ∧ st ≤ 32767
theorem Marks.none {met : List Int} {st : Int} (h : ∀ x ∈ met, 0 ≤ x ∧ x < st) (h0 : 0 ≤ st) (h1 : st ≤ 32767) : Marks met st [] :=
  ⟨fun k hk => ⟨fun e => by have := h _ (List.getElem_mem hk); omega, fun e => by cases e⟩, fun x hx => by have := h x hx; omega, h0, h1⟩
theorem Marks.add {met : List Int} {st : Int} {l : List Nat} (h : Marks met st l) (k : Nat) : Marks (met.set k st) st (l ++ [k]) := by
  obtain ⟨h1, h2, h3, h4⟩ := h
  refine ⟨fun j hj => ?_, fun x hx => ?_, h3, h4⟩
  · simp only [List.length_set] at hj
    by_cases e : k = j
    · subst e; simp
    · rw [List.getElem_set_ne e, h1 j hj]
      simp only [List.mem_append, List.mem_singleton]
      constructor
      · exact .inl
      · rintro (h | h)
        · exact h
        · exact absurd h.symm e
  · rcases List.mem_or_eq_of_mem_set hx with h | rfl
    · exact h2 x h
    · omega
theorem addN_nodup {l : List Nat} (h : l.Nodup) (k : Nat) : (addN l k).Nodup := by
  unfold addN
  split
  · exact h
  · rename_i hk
    rw [List.nodup_append]
    refine ⟨h, by simp, ?_⟩
    intro a ha b hb
    simp at hb; subst hb
    rintro rfl; exact hk ha
theorem addN_lt {l : List Nat} {N : Nat} (h : ∀ k ∈ l, k < N) {k : Nat} (hk : k < N) : ∀ j ∈ addN l k, j < N := by
  unfold addN
  split
  · exact h
  · intro j hj
    rcases List.mem_append.1 hj with e | e
    · exact h j e
    · simp at e; omega
/-- Unlike numbers below N are at most N. -/
theorem nodup_len : ∀ (N : Nat) (l : List Nat), l.Nodup → (∀ k ∈ l, k < N) → l.length ≤ N := by
  intro N
  induction N with
  | zero =>
    intro l _ h
    cases l with
    | nil => simp
    | cons a r => have := h a (by simp); omega
  | succ N ih =>
    intro l hnd h
    by_cases hm : N ∈ l
    · have h1 := List.length_erase_of_mem hm
      have h2 := ih (l.erase N) (hnd.erase N) fun k hk => by
        have hk1 := List.mem_of_mem_erase hk
        have hk2 := h k hk1
        have hk3 : k ≠ N := fun e => by rw [e] at hk; exact (List.Nodup.not_mem_erase hnd) hk
        omega
      omega
    · have := ih l hnd fun k hk => by
        have h1 := h k hk
        have h2 : k ≠ N := fun e => hm (e ▸ hk)
        omega
      omega
def ints (l : List Nat) : List Int := l.map Int.ofNat

theorem comeS (B gs : Nat) (vm vt vl : Value) (st : Int) (vh vw ve : Value) (steps : Nat) (met : List Int) (l : List Nat) (k : Nat) (w : World) (hblk : Blk w gs vm vt st vh vw ve steps) (ht : Own (Rep.int .i16) 36 w B nob vt met) (hk : k < met.length) (hB : B ≤ gs)
    (hl : Own (Rep.int .i64) 3 w B nob vl (ints l)) (hm : Marks met st l) (hnd : l.Nodup) (hlt : ∀ j ∈ l, j < met.length) (hs : steps < 4611686018427387904) (hlen : met.length ≤ 1099511627776) :
    Calls Try.prog 33 #[.pointer (some ⟨gs, 0, none⟩), vl, .int .i64 k] w fun e w' => ∃ v' met', e = .returned v' ∧ Own (Rep.int .i64) 3 w' B nob v' (ints (addN l k)) ∧ Own (Rep.int .i16) 36 w' B nob vt met' ∧ met'.length = met.length ∧ Marks met' st (addN l k) ∧
      Blk w' gs vm vt st vh vw ve (steps + ((addN l k).length - l.length) : Nat) ∧ Only (fun b => b = gs ∨ some b = vt.ownBlock ∨ some b = vl.ownBlock) w w' ∧ (v'.ownBlock = vl.ownBlock ∨ ∃ q, v'.ownBlock = some q ∧ w.heap.size ≤ q) := by
  have hll := nodup_len _ l hnd hlt
  by_cases hin : k ∈ l
  · have e : addN l k = l := by unfold addN; rw [if_pos hin]
    have hold := (hm.1 k hk).2 hin
    refine (come_old B gs vm vt vl st vh vw ve steps met k w hblk ht hk hold).mono ?_
    rintro e' w' ⟨rfl, m, rfl⟩
    rw [e]
    exact ⟨vl, met, rfl, hl.drewN m, ht.drewN m, rfl, hm, by rw [Nat.sub_self, Nat.add_zero]; exact hblk, (Only.refl _ _).drewN m, .inl rfl⟩
  · have e : addN l k = l ++ [k] := by unfold addN; rw [if_neg hin]
    have hnew : met[k] ≠ st := fun h => hin ((hm.1 k hk).1 h)
    have hwst : (Lit.int .i16 st).wf = true := by
      have := hm.2.2
      simp [Lit.wf, IntKind.min, IntKind.max, IntKind.signed, IntKind.bits]; omega
    refine (come_new B gs vm vt vl st vh vw ve steps met (ints l) k w hblk ht hk hB hl hnew (by simp [ints]; omega) (by omega) (by omega) hwst (by omega)).mono ?_
    rintro e' w' ⟨v', rfl, h1, h2, h3, h4, h5⟩
    rw [e]
    refine ⟨v', met.set k st, rfl, by simpa [ints] using h1, h2, by simp, hm.add k, ?_, h4, h5⟩
    have : ((steps + ((l ++ [k]).length - l.length) : Nat) : Int) = (steps : Int) + 1 := by simp
    rw [this]; exact h3
end Go.Proofs.Ytfbaaccnnogajaa
