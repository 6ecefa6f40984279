/- Several searches side by side in a law's walk. Conditions: room. -/
import Derived.Test.YtfbaaccnnogajaaProg
import Derived.Test.YtfbaaccnnogajaaLongestIs
import Derived.Test.YtfbaaccnnogajaaEqBools
namespace Go.Proofs.Ytfbaaccnnogajaa
open Go.RowKit

section
variable {w0 w w1 w' : World} {B gs : Nat} {M : List Instr} {F G : Blocks} {st : Nat} {E : List Bool} {text : List UInt8} {n c : Nat} {A : Option Addr}
theorem LS.other (h : LS w0 w B gs M F st E) (ho : Only G w w') (hd : ∀ b, F b → ¬ G b) (hG : ∀ b, G b → w0.heap.size ≤ b) : LS w0 w' B gs M F st E := ⟨h.s.only ho hd, h.b.trans (ho.below h.b.size hG), h.hB⟩
theorem LS.base (h : LS w0 w B gs M F st E) : ∀ b, F b → w0.heap.size ≤ b := fun b hb => Nat.le_trans h.hB (h.s.lt b hb).1
theorem LS.lt (h : LS w0 w B gs M F st E) : ∀ b, F b → b < w.heap.size := fun b hb => (h.s.lt b hb).2
theorem LS.up {v0 : World} (h : LS w0 w B gs M F st E) (hb : Below v0.heap.size v0 w0) : LS v0 w B gs M F st E := ⟨h.s, hb.trans (h.b.mono hb.size), Nat.le_trans hb.size h.hB⟩
theorem Own.onlyS {α : Type} {r : Rep α} {e : TypeId} {base : Nat} {S : Blocks} {v : Value} {l : List α} (h : Own r e w base S v l) (ho : Only F w w') (hF : ∀ b, v.ownBlock = some b → ¬ F b) (hS : ∀ b, S b → ¬ F b) : Own r e w' base S v l := by
  obtain ⟨xs, hx, hS0, h1, hr⟩ := h
  have hk : Same S w w' := fun b hb => ho.block b (hS0 b hb).1 (hS b hb)
  refine ⟨xs, ⟨hx.1, ?_⟩, fun b hb => ⟨Nat.lt_of_lt_of_le (hS0 b hb).1 ho.size, (hS0 b hb).2⟩, h1, fun i hi => r.keep (hr i hi) (fun _ h => h) hk⟩
  rcases hx.2 with h | ⟨g, cap, cur, rfl, hb, hg, rest⟩
  · exact .inl h
  · exact .inr ⟨g, cap, cur, rfl, hb, by rw [ho.block g (Array.getElem?_eq_some_iff.1 hg).1 (hF g rfl)]; exact hg, rest⟩
theorem Own.base {α : Type} {r : Rep α} {e : TypeId} {base base' : Nat} {S : Blocks} {v : Value} {l : List α} (h : Own r e w base S v l) (hb : base' ≤ base) : Own r e w base' S v l := by
  obtain ⟨xs, hx, hrest⟩ := h
  refine ⟨xs, ⟨hx.1, ?_⟩, hrest⟩
  rcases hx.2 with hx2 | ⟨g, cap, cur, e1, e2, e3⟩
  · exact .inl hx2
  · exact .inr ⟨g, cap, cur, e1, Nat.le_trans hb e2, e3⟩
/-- Ends of a copy; what else has turned. -/
theorem LS.endsO (h : LS w0 w B gs M F st E) (hM : MShaped M) (hb : Below w.heap.size w w1) (hv : Own Rep.byte 5 w1 w.heap.size nob (.slice A n c) text) (hnt : n = text.length) (hn : text.length ≤ 400) (hMn : M.length * ((text.length + 1) * (text.length + 1)) ≤ 1048576) (at_ : Nat) (hat : at_ ≤ text.length) :
    Calls Try.prog 17 #[.pointer (some ⟨gs, 0, none⟩), .slice A n c, .int .i64 at_] w1 fun e w' =>
      ∃ g c' F', e = .returned (.slice (some ⟨g, 0, none⟩) (n + 1) c') ∧ Hid (Own Rep.bool 4 w' w.heap.size nob (.slice (some ⟨g, 0, none⟩) (n + 1) c') (endsAt M text at_)) ∧ Hid (LS w0 w' B gs M F' (fromAll M text at_ 0).2.2 (endsAt M text at_)) ∧ Hid (Only F w w') ∧ Hid (∀ b, F' b → F b ∨ w.heap.size ≤ b) ∧ Hid (¬ F' g) ∧ w.heap.size ≤ g ∧ g < w'.heap.size := by
  subst hnt
  obtain ⟨S, htx, -, hS⟩ := own_apart h hv
  have h1 := h.far hb
  have hMn2 : M.length * (text.length + 1) ≤ M.length * ((text.length + 1) * (text.length + 1)) := Nat.mul_le_mul_left _ (Nat.le_mul_of_pos_left _ (by omega))
  refine (ends_in B gs M F st E w1 A _ c at_ text S h1.s hM.wf hM.1 (by have := hM.2.1; omega) (by omega) (by omega) rfl hat htx hS).mono ?_
  rintro e w' ⟨v, F', rfl, hv', hs, ho, hF, hn'⟩
  have hv2 := hv'.base hb.size
  have hlen := endsAt_len M text at_
  rw [show (fromAll M text at_ 0).1 = endsAt M text at_ from rfl] at hv2 hs
  obtain ⟨g, c', u, rfl, -, -, -, -, -, -⟩ := hv2.cellAt rfl (k := 0) (by omega)
  rw [hlen] at hv2 hn'
  refine ⟨g, c', F', by rw [hlen], Lib.hid hv2, Lib.hid (h1.next hs ho), Lib.hid ((Only.of_below hb F).trans ho fun b h => .inl h), Lib.hid fun b hb' => ?_, Lib.hid (hn' g rfl), (hv2.block_lt (b := g) rfl).1, (hv2.block_lt (b := g) rfl).2⟩
  rcases hF b hb' with h | h
  · exact .inl h
  · exact .inr (Nat.le_trans hb.size h)
theorem LS.findO (h : LS w0 w B gs M F st E) (hM : MShaped M) (hb : Below w.heap.size w w1) (hv : Own Rep.byte 5 w1 w.heap.size nob (.slice A n c) text) (hnt : n = text.length) (hn : text.length ≤ 400) (hMn : M.length * ((text.length + 1) * (text.length + 1)) ≤ 1048576) (at_ : Nat) :
    Calls Try.prog 15 #[.pointer (some ⟨gs, 0, none⟩), .slice A n c, .int .i64 at_] w1 fun e w' =>
      ∃ a b k F' st' E', e = .returned (.tuple #[.agg #[.int .i64 a, .int .i64 b], .bool k]) ∧ Hid (LS w0 w' B gs M F' st' E') ∧ Hid (Only F w w') ∧ Hid (∀ b, F' b → F b ∨ w.heap.size ≤ b) := by
  subst hnt
  obtain ⟨S, htx, -, hS⟩ := own_apart h hv
  have h1 := h.far hb
  refine (find_in B gs M F st E w1 A _ c at_ text S h1.s hM.wf hM.1 (by have := hM.2.1; omega) (by omega) ?_ rfl htx hS).mono ?_
  · have : (text.length + 1) * (1 + 2 * (M.length * (text.length + 1))) = (text.length + 1) + 2 * (M.length * ((text.length + 1) * (text.length + 1))) := by
      rw [Nat.mul_add, Nat.mul_one]
      congr 1
      rw [Nat.mul_left_comm (text.length + 1) 2, Nat.mul_left_comm (text.length + 1) M.length]
    omega
  · rintro e w' ⟨F', E', rfl, hs, ho, hF⟩
    refine ⟨_, _, _, F', _, E', rfl, Lib.hid (h1.next hs ho), Lib.hid ((Only.of_below hb F).trans ho fun b h => .inl h), Lib.hid fun b hb' => ?_⟩
    rcases hF b hb' with h | h
    · exact .inl h
    · exact .inr (Nat.le_trans hb.size h)
end
/-- A row of a list of lists of bytes. -/
theorem rowAt {w : World} {S : Blocks} {A : Option Addr} {c : Nat} {L : List (List UInt8)} (h : SliceAt Rep.byte.slice w S A c L) {i : Nat} (hi : i < L.length) : ∃ g o A' c', A = some ⟨g, o, none⟩ ∧ S g ∧ w.cell? ⟨g, o + i, none⟩ = some (.slice A' L[i].length c') ∧ SliceAt Rep.byte w S A' c' L[i] := by
  obtain ⟨g, o, cs, e, hb, hc, A', c', rfl, hs⟩ := h.at_ hi
  have := hc.one
  rw [show Rep.byte.slice.n = 1 from rfl, Nat.mul_one] at this
  exact ⟨g, o, A', c', e, hb, this, hs⟩
/-- Three searches side by side. -/
structure Tri (w wr : World) (Bs Bt Bu gs gt gu : Nat) (Ma Mb Mc : List Instr) (Fs Ft Fu : Blocks) (ss st su : Nat) (Es Et Eu : List Bool) : Prop where
  s : LS w wr Bs gs Ma Fs ss Es
  t : LS w wr Bt gt Mb Ft st Et
  u : LS w wr Bu gu Mc Fu su Eu
  dst : ∀ b, Fs b → ¬ Ft b
  dsu : ∀ b, Fs b → ¬ Fu b
  dtu : ∀ b, Ft b → ¬ Fu b
section
variable {w wr w' : World} {Bs Bt Bu gs gt gu : Nat} {Ma Mb Mc : List Instr} {Fs Ft Fu Fs' Ft' Fu' G : Blocks} {ss st su k : Nat} {Es Et Eu E : List Bool}
theorem Tri.stepS (h : Tri w wr Bs Bt Bu gs gt gu Ma Mb Mc Fs Ft Fu ss st su Es Et Eu) (hl : LS w w' Bs gs Ma Fs' k E) (ho : Only Fs wr w') (hF : ∀ b, Fs' b → Fs b ∨ wr.heap.size ≤ b) : Tri w w' Bs Bt Bu gs gt gu Ma Mb Mc Fs' Ft Fu k st su E Et Eu :=
  ⟨hl, h.t.other ho (fun b hb hs => h.dst b hs hb) h.s.base, h.u.other ho (fun b hb hs => h.dsu b hs hb) h.s.base, fun b hb ht => by
    rcases hF b hb with e | e
    · exact h.dst b e ht
    · have := h.t.lt b ht; omega, fun b hb ht => by
    rcases hF b hb with e | e
    · exact h.dsu b e ht
    · have := h.u.lt b ht; omega, h.dtu⟩
theorem Tri.stepT (h : Tri w wr Bs Bt Bu gs gt gu Ma Mb Mc Fs Ft Fu ss st su Es Et Eu) (hl : LS w w' Bt gt Mb Ft' k E) (ho : Only Ft wr w') (hF : ∀ b, Ft' b → Ft b ∨ wr.heap.size ≤ b) : Tri w w' Bs Bt Bu gs gt gu Ma Mb Mc Fs Ft' Fu ss k su Es E Eu :=
  ⟨h.s.other ho h.dst h.t.base, hl, h.u.other ho (fun b hb hs => h.dtu b hs hb) h.t.base, fun b hs hb => by
    rcases hF b hb with e | e
    · exact h.dst b hs e
    · have := h.s.lt b hs; omega, h.dsu, fun b hb hu => by
    rcases hF b hb with e | e
    · exact h.dtu b e hu
    · have := h.u.lt b hu; omega⟩
theorem Tri.stepU (h : Tri w wr Bs Bt Bu gs gt gu Ma Mb Mc Fs Ft Fu ss st su Es Et Eu) (hl : LS w w' Bu gu Mc Fu' k E) (ho : Only Fu wr w') (hF : ∀ b, Fu' b → Fu b ∨ wr.heap.size ≤ b) : Tri w w' Bs Bt Bu gs gt gu Ma Mb Mc Fs Ft Fu' ss st k Es Et E :=
  ⟨h.s.other ho h.dsu h.u.base, h.t.other ho h.dtu h.u.base, hl, h.dst, fun b hs hb => by
    rcases hF b hb with e | e
    · exact h.dsu b hs e
    · have := h.s.lt b hs; omega, fun b ht hb => by
    rcases hF b hb with e | e
    · exact h.dtu b ht e
    · have := h.t.lt b ht; omega⟩
theorem Tri.far (h : Tri w wr Bs Bt Bu gs gt gu Ma Mb Mc Fs Ft Fu ss st su Es Et Eu) (hb : Below wr.heap.size wr w') : Tri w w' Bs Bt Bu gs gt gu Ma Mb Mc Fs Ft Fu ss st su Es Et Eu := ⟨h.s.far hb, h.t.far hb, h.u.far hb, h.dst, h.dsu, h.dtu⟩
/-- Is a block none of theirs? -/
def Free (Fs Ft Fu : Blocks) (b : Nat) : Prop := ¬ Fs b ∧ ¬ Ft b ∧ ¬ Fu b
theorem Tri.only (h : Tri w wr Bs Bt Bu gs gt gu Ma Mb Mc Fs Ft Fu ss st su Es Et Eu) (ho : Only G wr w') (hG : ∀ b, G b → Free Fs Ft Fu b ∧ w.heap.size ≤ b) : Tri w w' Bs Bt Bu gs gt gu Ma Mb Mc Fs Ft Fu ss st su Es Et Eu :=
  ⟨h.s.other ho (fun b hb hg => (hG b hg).1.1 hb) fun b hg => (hG b hg).2, h.t.other ho (fun b hb hg => (hG b hg).1.2.1 hb) fun b hg => (hG b hg).2, h.u.other ho (fun b hb hg => (hG b hg).1.2.2 hb) fun b hg => (hG b hg).2, h.dst, h.dsu, h.dtu⟩
/-- Rows of Booleans that were put by. -/
structure Rows_ (w wr : World) (S : Blocks) (v : Value) (R : List (List Bool)) (Fs Ft Fu : Blocks) : Prop where
  o : Own (Rep.slice Rep.bool) 38 wr w.heap.size S v R
  ov : ∀ b, v.ownBlock = some b → Free Fs Ft Fu b
  oS : ∀ b, S b → Free Fs Ft Fu b
theorem Own.sep {α : Type} {r : Rep α} {e : TypeId} {base : Nat} {S : Blocks} {v : Value} {l : List α} (h : Own r e w base S v l) : ∀ b, S b → b < w.heap.size ∧ some b ≠ v.ownBlock := by obtain ⟨_, _, h, _⟩ := h; exact h
theorem Own.vlt {α : Type} {r : Rep α} {e : TypeId} {base : Nat} {S : Blocks} {v : Value} {l : List α} (h : Own r e w base S v l) {b : Nat} (hb : v.ownBlock = some b) : base ≤ b ∧ b < w.heap.size := by obtain ⟨_, hx, _⟩ := h; exact hx.lt b hb
/-- .. stay, where a search has turned. -/
theorem Rows_.step {S : Blocks} {v : Value} {R : List (List Bool)} {F : Blocks} (h : Rows_ w wr S v R Fs Ft Fu) (ho : Only F wr w') (hF : ∀ b, F b → ¬ Free Fs Ft Fu b) (hn : ∀ b, b < wr.heap.size → Free Fs Ft Fu b → Free Fs' Ft' Fu' b) : Rows_ w w' S v R Fs' Ft' Fu' :=
  ⟨h.o.onlyS ho (fun b hb hf => hF b hf (h.ov b hb)) fun b hb hf => hF b hf (h.oS b hb), fun b hb => hn b (h.o.vlt hb).2 (h.ov b hb), fun b hb => hn b (h.o.sep b hb).1 (h.oS b hb)⟩
/-- A row just got, as an element. -/
theorem rowNew {w8 : World} {base g n c : Nat} {E : List Bool} (hv : Own Rep.bool 4 w8 base nob (.slice (some ⟨g, 0, none⟩) n c) E) : SliceAt (Rep.slice Rep.bool) (w8.alloc (.cells #[.slice (some ⟨g, 0, none⟩) n c] 38)) (fun b => b = w8.heap.size ∨ b = g) (some ⟨w8.heap.size, 0, none⟩) 1 [E] := by
  obtain ⟨A', c', he, hs⟩ := hv.slice
  simp only [Value.slice.injEq] at he
  obtain ⟨rfl, rfl, rfl⟩ := he
  refine SliceAt.new1 (Rep.slice Rep.bool) w8 _ _ E (fun b => b = g) ⟨_, _, rfl, hs.up fun b hb => ?_⟩ fun b hb => ?_
  · rcases hb with ⟨-, -, hb⟩ | hb
    · simpa [Value.ownBlock] using hb
    · exact hb.elim
  · rw [hb]; exact (hv.block_lt (b := g) rfl).2
/-- A row put by, read. -/
theorem Rows_.at_ {S : Blocks} {v : Value} {R : List (List Bool)} (h : Rows_ w wr S v R Fs Ft Fu) {i : Nat} (hi : i < R.length) : ∃ g o nv cv A' c' S', v = .slice (some ⟨g, o, none⟩) nv cv ∧ i < nv ∧ nv ≤ cv ∧ cv ≤ 9223372036854775807 ∧ wr.cell? ⟨g, o + i, none⟩ = some (.slice A' R[i].length c') ∧ SliceAt Rep.bool wr S' A' c' R[i] := by
  obtain ⟨A, c, rfl, hs⟩ := h.o.slice
  obtain ⟨g, o, cs, rfl, hb, hc, A', c', rfl, hr⟩ := hs.at_ hi
  have := hc.one
  rw [show (Rep.slice Rep.bool).n = 1 from rfl, Nat.mul_one] at this
  exact ⟨g, o, _, c, A', c', _, rfl, hi, hs.len, hs.max, this, hr⟩
end
end Go.Proofs.Ytfbaaccnnogajaa
