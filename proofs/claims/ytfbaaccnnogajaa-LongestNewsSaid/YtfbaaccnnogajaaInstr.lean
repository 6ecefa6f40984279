/- Classes and instructions: what they are in memory; a list of them of one's own. No conditions. -/
import Derived.Test.YtfbaaccnnogajaaProg
import Derived.Test.YtfbaaccnnogajaaStBytes
import Derived.WalkKit
import Derived.WalkSpells
import Derived.Deep.QuietTactic
import Derived.BigQuiet
import Derived.Lib.Hide
namespace Go.Proofs.Ytfbaaccnnogajaa
open Go.RowKit

structure Class where
  c0 : Int
  c1 : Int
  c2 : Int
  c3 : Int
  deriving DecidableEq
structure Instr where
  op : Int
  set : Class
  x : Int
  y : Int
  deriving DecidableEq
def Rep.class_ : Rep Class := Rep.pair (Rep.int .u64) (Rep.pair (Rep.int .u64) (Rep.pair (Rep.int .u64) (Rep.int .u64) (fun p : Int × Int => p)) (fun p : Int × Int × Int => (p.1, p.2))) fun c => (c.c0, c.c1, c.c2, c.c3)
def Rep.instr : Rep Instr := Rep.pair (Rep.int .i8) (Rep.pair Rep.class_ (Rep.pair (Rep.int .i64) (Rep.int .i64) (fun p : Int × Int => p)) (fun p : Class × Int × Int => (p.1, p.2))) fun i => (i.op, i.set, i.x, i.y)

/-- An instruction's cells. -/
def icells (i : Instr) : List Value := [.int .i8 i.op, .int .u64 i.set.c0, .int .u64 i.set.c1, .int .u64 i.set.c2, .int .u64 i.set.c3, .int .i64 i.x, .int .i64 i.y]
structure Instr.ok (i : Instr) : Prop where
  op : (Lit.int .i8 i.op).wf = true
  c0 : (Lit.int .u64 i.set.c0).wf = true
  c1 : (Lit.int .u64 i.set.c1).wf = true
  c2 : (Lit.int .u64 i.set.c2).wf = true
  c3 : (Lit.int .u64 i.set.c3).wf = true
  x : (Lit.int .i64 i.x).wf = true
  y : (Lit.int .i64 i.y).wf = true
theorem Rep.instr_is {w : World} {S : Blocks} {cs : List Value} {i : Instr} : Rep.instr.is w S cs i ↔ cs = icells i ∧ i.ok := by
  constructor
  · rintro ⟨_, _, rfl, ⟨rfl, h1⟩, _, _, rfl, ⟨_, _, rfl, ⟨rfl, h2⟩, _, _, rfl, ⟨rfl, h3⟩, _, _, rfl, ⟨rfl, h4⟩, rfl, h5⟩, _, _, rfl, ⟨rfl, h6⟩, rfl, h7⟩
    exact ⟨rfl, h1, h2, h3, h4, h5, h6, h7⟩
  · rintro ⟨rfl, h1, h2, h3, h4, h5, h6, h7⟩
    exact ⟨[_], _, rfl, ⟨rfl, h1⟩, [_, _, _, _], [_, _], rfl, ⟨[_], _, rfl, ⟨rfl, h2⟩, [_], _, rfl, ⟨rfl, h3⟩, [_], _, rfl, ⟨rfl, h4⟩, rfl, h5⟩, [_], _, rfl, ⟨rfl, h6⟩, rfl, h7⟩
theorem stInstrs : SliceType Try.prog 22 64 7 56 :=
  SliceType.mk' (z := .agg #[.int .i8 0, .int .u64 0, .int .u64 0, .int .u64 0, .int .u64 0, .int .i64 0, .int .i64 0]) Try.underlying22 (by kernel_rfl) rfl (by omega)

theorem instr_at {w w' : World} {S : Blocks} {A : Option Addr} {c : Nat} {l : List Instr} (h : SliceAt Rep.instr w S A c l) (hk : Same S w w') {i : Nat} (hi : i < l.length) :
    ∃ g o, A = some ⟨g, o, none⟩ ∧ S g ∧ CellsAt w' g (o + i * 7) (icells l[i]) ∧ l[i].ok := by
  obtain ⟨g, o, cs, e, hb, hc, hr⟩ := h.at_ hi
  obtain ⟨rfl, hok⟩ := Rep.instr_is.1 hr
  exact ⟨g, o, e, hb, hc.keep hb hk, hok⟩

set_option maxHeartbeats 400000 in
theorem copyInstrs (A : Option Addr) (n c : Nat) (l : List Instr) (w : World) (S : Blocks) (hn : n = l.length) (hl : SliceAt Rep.instr w S A c l) (hb : n ≤ 1099511627776) :
    Calls Try.prog 21 #[.slice A n c] w fun e w' => ∃ v, e = .returned v ∧ Own Rep.instr 64 w' w.heap.size nob v l ∧ Below w.heap.size w w' := by
  subst hn
  have HL := Lib.hid hl
  clear hl
  go_enter Try.func21, Try.ntmps21
  go_wp2_with (at_builtin; refine wpList_append_Own _ rfl (.tmp 4) (.tmp 5) 22 rfl Rep.instr w.heap.size 64 56 stInstrs nob _ [] rfl (Own.nil _ _ _ _) _ _ _ l rfl HL.out nob (fun _ h => h.elim) (fun _ h => h) (fun _ _ h => Rep.instr_is.2 (Rep.instr_is.1 h)) (by simp; omega) (by simp; omega) (Nat.le_refl _) ?_; intro v1 w1 hown1 hg1 hat1)
  go_ret
  exact ⟨_, rfl, by simpa using hown1, below_own (Below.refl _ _) (Own.nil Rep.instr 64 _ _) hg1 (Nat.le_refl _)⟩
end Go.Proofs.Ytfbaaccnnogajaa
