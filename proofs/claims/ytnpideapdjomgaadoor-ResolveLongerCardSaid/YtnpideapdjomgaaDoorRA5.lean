/- Texts that lead to the claim, one behind the other: Pieces, spans, marks: what they are in memory. No conditions. -/
import Derived.Test.YtnpideapdjomgaaDoorProg
import Derived.Test.YtnpideapdjomgaaDoorRA0
import Derived.Test.YtnpideapdjomgaaDoorRA2
import Derived.WalkKit
import Derived.WalkSpells
import Derived.Deep.QuietTactic
import Derived.BigQuiet
import Derived.Lib.Hide
namespace Go.Proofs.YtnpideapdjomgaaDoor
open Go.RowKit

structure Piece where
  group : Int
  text : List UInt8
structure Span where
  lo : Int
  hi : Int
structure Mark where
  byte : UInt8
  plain : Bool
def Rep.mark : Rep Mark := Rep.pair Rep.byte Rep.bool fun p => (p.byte, p.plain)
theorem mark_at {w w' : World} {S : Blocks} {A : Option Addr} {c : Nat} {l : List Mark} (h : SliceAt Rep.mark w S A c l) (hk : Same S w w') {i : Nat} (hi : i < l.length) :
    ∃ g o, A = some ⟨g, o, none⟩ ∧ w'.cell? ⟨g, o + i * 2, none⟩ = some (.int .u8 l[i].byte.toNat) ∧ w'.cell? ⟨g, o + i * 2 + 1, none⟩ = some (.bool l[i].plain) := by
  obtain ⟨g, o, cs, e, hb, hc, _, _, rfl, rfl, rfl⟩ := h.at_ hi
  obtain ⟨h0, h1⟩ := (hc.keep hb hk).two
  exact ⟨g, o, e, h0, h1⟩
def Rep.piece : Rep Piece := Rep.pair (Rep.int .i64) (Rep.slice Rep.byte) fun p => (p.group, p.text)
def Rep.span : Rep Span := Rep.pair (Rep.int .i64) (Rep.int .i64) fun p => (p.lo, p.hi)
theorem wfi {x : Int} (h : (Lit.int .i64 x).wf = true) : -9223372036854775808 ≤ x ∧ x ≤ 9223372036854775807 := by
  simp [Lit.wf, IntKind.min, IntKind.max, IntKind.signed, IntKind.bits] at h
  omega
theorem piece_at {w w' : World} {S : Blocks} {A : Option Addr} {c : Nat} {l : List Piece} (h : SliceAt Rep.piece w S A c l) (hk : Same S w w') {i : Nat} (hi : i < l.length) :
    ∃ g o At ct, A = some ⟨g, o, none⟩ ∧ w'.cell? ⟨g, o + i * 2, none⟩ = some (.int .i64 l[i].group) ∧ w'.cell? ⟨g, o + i * 2 + 1, none⟩ = some (.slice At l[i].text.length ct) ∧ SliceAt Rep.byte w' S At ct l[i].text ∧
      -9223372036854775808 ≤ l[i].group ∧ l[i].group ≤ 9223372036854775807 := by
  obtain ⟨g, o, cs, e, hb, hc, _, _, rfl, ⟨rfl, hwf⟩, At, ct, rfl, ht⟩ := h.at_ hi
  obtain ⟨h0, h1⟩ := (hc.keep hb hk).two
  obtain ⟨a, b⟩ := wfi hwf
  exact ⟨g, o, At, ct, e, h0, h1, ht.keep (fun _ h => h) hk, a, b⟩
theorem span_at {w w' : World} {S : Blocks} {A : Option Addr} {c : Nat} {l : List Span} (h : SliceAt Rep.span w S A c l) (hk : Same S w w') {i : Nat} (hi : i < l.length) :
    ∃ g o, A = some ⟨g, o, none⟩ ∧ w'.cell? ⟨g, o + i * 2, none⟩ = some (.int .i64 l[i].lo) ∧ w'.cell? ⟨g, o + i * 2 + 1, none⟩ = some (.int .i64 l[i].hi) ∧
      -9223372036854775808 ≤ l[i].lo ∧ l[i].lo ≤ 9223372036854775807 ∧ -9223372036854775808 ≤ l[i].hi ∧ l[i].hi ≤ 9223372036854775807 := by
  obtain ⟨g, o, cs, e, hb, hc, _, _, rfl, ⟨rfl, hwf⟩, rfl, hwf'⟩ := h.at_ hi
  obtain ⟨h0, h1⟩ := (hc.keep hb hk).two
  obtain ⟨a, b⟩ := wfi hwf
  obtain ⟨a', b'⟩ := wfi hwf'
  exact ⟨g, o, e, h0, h1, a, b, a', b'⟩

end Go.Proofs.YtnpideapdjomgaaDoor
