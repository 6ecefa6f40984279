/- Two rows of bytes that a block of memory leads to: what stays, and what a store into the block makes of it. Conditions: none. -/
import Derived.Test.YtejjmjbkpodolaaDoorClone
import Derived.Test.YtejjmjbkpodolaaDoorSpacePlain
namespace Go.Proofs.YtejjmjbkpodolaaDoor
open Go.RowKit Go.ChangeShapes Go.WideShapes Go.Deep

/-- Two rows in a block. -/
structure SpB (K : Nat → Value → Value → Array Value) (T : TypeId) (w : World) (g : Nat) (S : Blocks) (m : Nat) (A1 : Option Addr) (n1 c1 : Nat) (A2 : Option Addr) (n2 c2 : Nat) (p h : List UInt8) : Prop where
  blk : w.heap[g]? = some (.cells (K m (.slice A1 n1 c1) (.slice A2 n2 c2)) T)
  tp : SliceAt Rep.byte w S A1 c1 p
  th : SliceAt Rep.byte w S A2 c2 h
  hp : n1 = p.length
  hh : n2 = h.length
  lp : n1 ≤ m
  lh : n2 ≤ m
  hm : m ≤ 1048576
  hS : ∀ b, S b → b ≠ g ∧ b < w.heap.size
abbrev kP (m : Nat) (s t : Value) : Array Value := #[s, t, .int .i64 m, .bool true]
abbrev kR (m : Nat) (s t : Value) : Array Value := #[.int .i64 m, s, t, .bool true]
section
variable {K : Nat → Value → Value → Array Value} {T : TypeId} {w w' : World} {g m n1 c1 n2 c2 : Nat} {S S' : Blocks} {A1 A2 : Option Addr} {p h : List UInt8}
theorem SpB.glt (s : SpB K T w g S m A1 n1 c1 A2 n2 c2 p h) : g < w.heap.size := (Array.getElem?_eq_some_iff.1 s.blk).1
theorem SpB.only (s : SpB K T w g S m A1 n1 c1 A2 n2 c2 p h) {F : Blocks} (ho : Only F w w') (hg : ¬ F g) (hF : ∀ b, S b → ¬ F b) : SpB K T w' g S m A1 n1 c1 A2 n2 c2 p h :=
  ⟨(ho.block g s.glt hg).trans s.blk, s.tp.keep (fun _ h => h) (ho.same fun b hb => ⟨(s.hS b hb).2, hF b hb⟩), s.th.keep (fun _ h => h) (ho.same fun b hb => ⟨(s.hS b hb).2, hF b hb⟩), s.hp, s.hh, s.lp, s.lh, s.hm, fun b hb => ⟨(s.hS b hb).1, Nat.lt_of_lt_of_le (s.hS b hb).2 ho.size⟩⟩
theorem SpB.far (s : SpB K T w g S m A1 n1 c1 A2 n2 c2 p h) (hb : Below w.heap.size w w') : SpB K T w' g S m A1 n1 c1 A2 n2 c2 p h := s.only (Only.of_below hb nob) (fun h => h) fun _ _ h => h
theorem SpB.caps (s : SpB K T w g S m A1 n1 c1 A2 n2 c2 p h) : n1 ≤ c1 ∧ c1 ≤ 9223372036854775807 ∧ n2 ≤ c2 ∧ c2 ≤ 9223372036854775807 := ⟨by rw [s.hp]; exact s.tp.len, s.tp.max, by rw [s.hh]; exact s.th.len, s.th.max⟩
theorem SpB.le (s : SpB K T w g S m A1 n1 c1 A2 n2 c2 p h) : n1 ≤ 1048576 ∧ n2 ≤ 1048576 := ⟨Nat.le_trans s.lp s.hm, Nat.le_trans s.lh s.hm⟩
/-- The block written anew. -/
theorem SpB.put (s : SpB K T w g S m A1 n1 c1 A2 n2 c2 p h) {B1 B2 : Option Addr} {k1 d1 k2 d2 : Nat} {q r : List UInt8} (hblk : w'.heap[g]? = some (.cells (K m (.slice B1 k1 d1) (.slice B2 k2 d2)) T))
    (tq : SliceAt Rep.byte w' S' B1 d1 q) (tr : SliceAt Rep.byte w' S' B2 d2 r) (hq : k1 = q.length) (hr : k2 = r.length) (lq : k1 ≤ m) (lr : k2 ≤ m) (hS : ∀ b, S' b → b ≠ g ∧ b < w'.heap.size) : SpB K T w' g S' m B1 k1 d1 B2 k2 d2 q r :=
  ⟨hblk, tq, tr, hq, hr, lq, lr, s.hm, hS⟩
end
/-- .. whatever the rows' places. -/
def SpX (K : Nat → Value → Value → Array Value) (T : TypeId) (w : World) (g : Nat) (S : Blocks) (m : Nat) (p h : List UInt8) : Prop := ∃ A1 n1 c1 A2 n2 c2, SpB K T w g S m A1 n1 c1 A2 n2 c2 p h
section
variable {K : Nat → Value → Value → Array Value} {T : TypeId} {w w' : World} {g m : Nat} {S S' : Blocks} {p h : List UInt8}
theorem SpX.far (s : SpX K T w g S m p h) (hb : Below w.heap.size w w') : SpX K T w' g S m p h := by
  obtain ⟨A1, n1, c1, A2, n2, c2, s⟩ := s
  exact ⟨A1, n1, c1, A2, n2, c2, s.far hb⟩
theorem SpX.only (s : SpX K T w g S m p h) {F : Blocks} (ho : Only F w w') (hg : ¬ F g) (hF : ∀ b, S b → ¬ F b) : SpX K T w' g S m p h := by
  obtain ⟨A1, n1, c1, A2, n2, c2, s⟩ := s
  exact ⟨A1, n1, c1, A2, n2, c2, s.only ho hg hF⟩
theorem SpX.hS (s : SpX K T w g S m p h) : ∀ b, S b → b ≠ g ∧ b < w.heap.size := by
  obtain ⟨A1, n1, c1, A2, n2, c2, s⟩ := s
  exact s.hS
theorem SpX.glt (s : SpX K T w g S m p h) : g < w.heap.size := by
  obtain ⟨A1, n1, c1, A2, n2, c2, s⟩ := s
  exact s.glt
theorem SpX.fits (s : SpX K T w g S m p h) : Space.Fits m p h ∧ m ≤ 1048576 := by
  obtain ⟨A1, n1, c1, A2, n2, c2, s⟩ := s
  exact ⟨⟨by rw [← s.hp]; exact s.lp, by rw [← s.hh]; exact s.lh⟩, s.hm⟩
/-- What a call that may turn a space leaves. -/
def DoPost (K : Nat → Value → Value → Array Value) (T : TypeId) (w : World) (g : Nat) (S : Blocks) (m : Nat) (R : Space.R) (e : Ending) (w' : World) : Prop :=
  e = .returned (.int .i64 R.1) ∧ ∃ S', SpX K T w' g S' m R.2.1 R.2.2 ∧ (∀ b, S' b → S b ∨ w.heap.size ≤ b) ∧ Only (fun b => b = g) w w'
/-- What stands in memory behind a call that may turn a space. -/
def Turned (K : Nat → Value → Value → Array Value) (T : TypeId) (w : World) (g : Nat) (S : Blocks) (m : Nat) (p h : List UInt8) (w' : World) : Prop :=
  ∃ S', SpX K T w' g S' m p h ∧ (∀ b, S' b → S b ∨ w.heap.size ≤ b) ∧ Only (fun b => b = g) w w'
theorem DoPost.named {R : Space.R} {e : Ending} (h : DoPost K T w g S m R e w') : ∃ q, e = .returned (.int .i64 q) ∧ Hid (q = R.1) ∧ Hid (Turned K T w g S m R.2.1 R.2.2 w') := ⟨_, h.1, Lib.hid rfl, Lib.hid h.2⟩
theorem DoPost.back {R : Space.R} {q : Int} (h1 : Hid (q = R.1)) (h2 : Hid (Turned K T w g S m R.2.1 R.2.2 w')) : DoPost K T w g S m R (.returned (.int .i64 q)) w' := ⟨by rw [h1.out], h2.out⟩
theorem Turned.from_ {w0 : World} (hb : Below w0.heap.size w0 w) (hd : Turned K T w g S m p h w') : Turned K T w0 g S m p h w' := by
  obtain ⟨S', hs, hS, ho⟩ := hd
  exact ⟨S', hs, fun b hb' => (hS b hb').imp id fun h => Nat.le_trans hb.size h, (Only.of_below hb _).trans ho fun x hx => .inl hx⟩
theorem DoPost.same {R : Space.R} {e : Ending} (s : SpX K T w g S m R.2.1 R.2.2) (he : e = .returned (.int .i64 R.1)) (hb : Below w.heap.size w w') : DoPost K T w g S m R e w' :=
  ⟨he, S, s.far hb, fun _ h => .inl h, Only.of_below hb _⟩
theorem DoPost.from_ {w0 : World} {R : Space.R} {e : Ending} (hb : Below w0.heap.size w0 w) (hd : DoPost K T w g S m R e w') : DoPost K T w0 g S m R e w' := by
  obtain ⟨he, S', hs, hS, ho⟩ := hd
  exact ⟨he, S', hs, fun b hb' => (hS b hb').imp id fun h => Nat.le_trans hb.size h, (Only.of_below hb _).trans ho fun x hx => .inl hx⟩
end
def grows (S : Blocks) (lo hi : Nat) : Blocks := fun x => S x ∨ btw lo hi x
/-- A row of the call's own, as a space may hold it. -/
theorem Own.above {e : TypeId} {w : World} {base : Nat} {A : Option Addr} {n c : Nat} {l : List UInt8} (h : Own Rep.byte e w base nob (.slice A n c) l) : n = l.length ∧ SliceAt Rep.byte w (btw base w.heap.size) A c l := by
  obtain ⟨A', n', c', e, hn, h1, h2, hs⟩ := h.read
  simp only [Value.slice.injEq] at e
  obtain ⟨rfl, rfl, rfl⟩ := e
  exact ⟨hn.out, hs⟩
end Go.Proofs.YtejjmjbkpodolaaDoor
