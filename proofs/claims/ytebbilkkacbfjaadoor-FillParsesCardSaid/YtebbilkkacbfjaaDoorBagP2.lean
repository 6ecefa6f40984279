/- A bag of pieces and their texts: AddPieces and Apart. Conditions: pieces of the run's own; room. -/
import Derived.Test.YtebbilkkacbfjaaDoorBagP
namespace Go.Proofs.YtebbilkkacbfjaaDoor
open Go.RowKit

/-- Texts put into the bag: rows of bytes of the run's own, each in a block of its own, all of blocks below B. -/
structure TX (w : World) (base B : Nat) (es : List Ent) : Prop where
  own : ∀ x ∈ es, ∃ l : List UInt8, Own Rep.byte 5 w base nob (Ent.v x) l
  dist : es.Pairwise fun a b => ∀ q, (Ent.v a).ownBlock = some q → (Ent.v b).ownBlock ≠ some q
  len : ∀ x ∈ es, x.2.1 ≤ 1099511627776
  lt : ∀ x ∈ es, ∀ q, (Ent.v x).ownBlock = some q → q < B
  num : es.length ≤ 400
theorem TX.nil (w : World) (base B : Nat) : TX w base B [] := ⟨fun _ h => (by cases h), List.Pairwise.nil, fun _ h => (by cases h), fun _ h => (by cases h), by simp⟩
theorem TX.bag {w w' : World} {base B base' gb : Nat} {v u : Value} {rows prs : List (List Value)} {es : List Ent} (ht : TX w base B es) (h : BagP w base' gb v u rows prs) (ho : Only (BagF gb v u) w w') : TX w' base B es :=
  ⟨fun x hx => by obtain ⟨l, hl⟩ := ht.own x hx; exact ⟨l, hl.only ho fun b hb => h.notB hl hb⟩, ht.dist, ht.len, ht.lt, ht.num⟩
theorem TX.far {w w' : World} {base B : Nat} {es : List Ent} (ht : TX w base B es) (hb : Below w.heap.size w w') : TX w' base B es :=
  ⟨fun x hx => by obtain ⟨l, hl⟩ := ht.own x hx; exact ⟨l, hl.far hb⟩, ht.dist, ht.len, ht.lt, ht.num⟩
theorem TX.up {w : World} {base B B' : Nat} {es : List Ent} (ht : TX w base B es) (hb : B ≤ B') : TX w base B' es := ⟨ht.own, ht.dist, ht.len, fun x hx q hq => Nat.lt_of_lt_of_le (ht.lt x hx q hq) hb, ht.num⟩

theorem TX.lift {w : World} {base B B' : Nat} {es : List Ent} {rows : List (List Value)} {v : Value} {w1 : World} {b2 : Nat} (ht : TX w base B es) (_ : Own Rep.val 58 w1 b2 nob v rows) (h : ∀ x ∈ es, ∀ q, (Ent.v x).ownBlock = some q → q < B') : TX w base B' es := ⟨ht.own, ht.dist, ht.len, h, ht.num⟩
/-- The bag while texts are put in: from w0, where it was v0. -/
structure AP (base gb B : Nat) (w0 : World) (v0 u0 : Value) (prs : List (List Value)) (l : List Piece) (x : Value) (ts : List Value) (es0 : List Ent) (i : Nat) (wr : World) : Prop where
  ex : ∃ v u es, BagP wr base gb v u (es.map fun y => [Ent.v y]) prs ∧ TX wr base (wr.heap.size) es ∧ (∀ y ∈ es, y ∈ es0 ∨ ∃ j, j < i ∧ ∃ hj : j < ts.length, Ent.v y = ts[j]) ∧ Only (BagF gb v0 u0) w0 wr ∧
    (∀ b, v.ownBlock = some b → v0.ownBlock = some b ∨ w0.heap.size ≤ b) ∧ (∀ b, u.ownBlock = some b → u0.ownBlock = some b ∨ w0.heap.size ≤ b) ∧ PT wr base x l ts

section
variable {base gb B : Nat} {w0 wr w00 : World} {v0 u0 x : Value} {prs : List (List Value)} {l : List Piece} {ts : List Value} {es0 : List Ent} {i : Nat}
theorem AP.size (h : AP base gb B w0 v0 u0 prs l x ts es0 i wr) : w0.heap.size ≤ wr.heap.size := by
  obtain ⟨v1, u1, es1, hb, ht, hm, ho, hv, hu, hpt⟩ := h.ex
  exact ho.size
theorem AP.full (h : AP base gb B w0 v0 u0 prs l x ts es0 i wr) : AP base gb B w0 v0 u0 prs l x ts es0 ts.length wr := by
  obtain ⟨v1, u1, es1, hb, ht, hm, rest⟩ := h.ex
  exact ⟨v1, u1, es1, hb, ht, fun y hy => (hm y hy).imp_right fun ⟨j, hj, hjl, e⟩ => ⟨j, hjl, hjl, e⟩, rest⟩
theorem AP.round (h : AP base gb B w0 v0 u0 prs l x ts es0 i wr) (hi : i < l.length) (hT : TX w00 base B es0) (hlo : ∀ i (hi : i < ts.length) q, (ts[i]).ownBlock = some q → B ≤ q) (hlen : ∀ p ∈ l, p.text.length ≤ 1099511627776) :
    ∃ g c A' n' c', x = .slice (some ⟨g, 0, none⟩) l.length c ∧ wr.cell? ⟨g, i * 2 + 1, none⟩ = some (.slice A' n' c') ∧ n' ≤ c' ∧ c' ≤ 9223372036854775807 ∧ Calls Tryd.prog 29 #[.pointer (some ⟨gb, 0, none⟩), .slice A' n' c'] wr fun e w' => e = .returned (.tuple #[]) ∧ AP base gb B w0 v0 u0 prs l x ts es0 (i + 1) w' := by
  obtain ⟨v1, u1, es1, hb, ht, hm, ho, hv, hu, hpt⟩ := h.ex
  obtain ⟨g, c, he, hc⟩ := hpt.cell hi
  have hil : i < ts.length := by have := hpt.1; omega
  have hown := hpt.2.2.2.1 i hi hil
  obtain ⟨A', n', c', e, hn', k1, k2⟩ := hown.form
  have hdist := hpt.2.2.2.2
  refine ⟨g, c, A', n', c', he, by rw [hc, e], k1, k2, ?_⟩
  rcases Nat.lt_or_ge es1.length 400 with hlt | hge
  · refine (addBytesP_lt base gb v1 u1 _ prs wr hb (by simpa using hlt) A' n' c').mono ?_
    rintro e' w' ⟨rfl, v', hb', ho', hv'⟩
    have hsz := ho.size
    have hsz' := ho'.size
    have hpt' := hpt.bag hb ho'
    have hown' := hpt'.2.2.2.1 i hi hil
    have ht' := ht.bag hb ho'
    have ev : Ent.v (A', n', c') = ts[i] := by rw [e]; rfl
    refine ⟨rfl, v', u1, es1 ++ [(A', n', c')], by simpa [Ent.v] using hb', ⟨fun y hy => ?_, ?_, fun y hy => ?_, fun y hy q hq => ?_, by simp; omega⟩, fun y hy => ?_, ho.trans ho' fun b hF => ?_, fun b hb2 => ?_, hu, hpt'⟩
    · rcases List.mem_append.1 hy with hy | hy
      · exact ht'.own y hy
      · rw [List.mem_singleton.1 hy, ev]; exact ⟨_, hown'⟩
    · refine List.pairwise_append.2 ⟨ht.dist, List.pairwise_singleton _ _, fun y hy z hz q hq hq' => ?_⟩
      rw [List.mem_singleton.1 hz, ev] at hq'
      rcases hm y hy with h0 | ⟨j, hj, hjl, ey⟩
      · have := hT.lt y h0 q hq
        have := hlo i hil q hq'
        omega
      · rw [ey] at hq
        rcases hdist j i hj hil with h0 | h0
        · rw [h0] at hq; cases hq
        · exact h0 (hq.trans hq'.symm)
    · rcases List.mem_append.1 hy with hy | hy
      · exact ht.len y hy
      · rw [List.mem_singleton.1 hy]
        have := hlen l[i] (List.getElem_mem hi)
        have := hn'.out
        show n' ≤ _
        omega
    · rcases List.mem_append.1 hy with hy | hy
      · have := ht.lt y hy q hq; omega
      · rw [List.mem_singleton.1 hy, ev] at hq
        exact (hown'.block_lt hq).2
    · rcases List.mem_append.1 hy with hy | hy
      · exact (hm y hy).imp_right fun ⟨j, hj, hjl, e⟩ => ⟨j, by omega, hjl, e⟩
      · rw [List.mem_singleton.1 hy]
        exact .inr ⟨i, by omega, hil, ev⟩
    · rcases hF with hF | hF | hF
      · exact .inl (.inl hF)
      · rcases hv b hF.symm with h | h
        · exact .inl (.inr (.inl h.symm))
        · exact .inr h
      · rcases hu b hF.symm with h | h
        · exact .inl (.inr (.inr h.symm))
        · exact .inr h
    · rcases hv' b hb2 with h | h
      · exact hv b h
      · exact .inr (by omega)
  · refine (addBytesP_ge base gb v1 u1 _ prs wr hb (by simpa using hge) A' n' c').mono ?_
    rintro e' w' ⟨rfl, rfl⟩
    exact ⟨rfl, v1, u1, es1, hb, ht, fun y hy => (hm y hy).imp_right fun ⟨j, hj, hjl, e⟩ => ⟨j, by omega, hjl, e⟩, ho, hv, hu, hpt⟩
/-- The texts that are in the bag: all of blocks below another mark. -/
theorem AP.tx {B1 : Nat} (h : AP base gb B w0 v0 u0 prs l x ts es0 i wr) (hT : TX w00 base B es0) (hB : B ≤ B1) (hhi : ∀ i (hi : i < ts.length) q, (ts[i]).ownBlock = some q → q < B1) :
    ∃ v u es, BagP wr base gb v u (es.map fun y => [Ent.v y]) prs ∧ TX wr base B1 es ∧ Only (BagF gb v0 u0) w0 wr := by
  obtain ⟨v1, u1, es1, hb, ht, hm, ho, -⟩ := h.ex
  refine ⟨v1, u1, es1, hb, ⟨ht.own, ht.dist, ht.len, fun y hy q hq => ?_, ht.num⟩, ho⟩
  rcases hm y hy with h0 | ⟨j, hj, hjl, ey⟩
  · have := hT.lt y h0 q hq; omega
  · rw [ey] at hq; exact hhi j hjl q hq
end
set_option maxRecDepth 100000 in
set_option maxHeartbeats 4000000 in
theorem addPieces_any (base gb B : Nat) (v u : Value) (es : List Ent) (prs : List (List Value)) (w : World) (A : Option Addr) (n c : Nat) (l : List Piece) (ts : List Value) (h : Hid (BagP w base gb v u (es.map fun y => [Ent.v y]) prs)) (hT : Hid (TX w base B es)) (hr : prs.length < 400)
    (hp : Hid (PT w base (.slice A n c) l ts)) (hn : Hid (n = l.length)) (hnc : n ≤ c) (hcm : c ≤ 9223372036854775807) (hlo : Hid (∀ i (hi : i < ts.length) q, (ts[i]).ownBlock = some q → B ≤ q)) (hlen : Hid (∀ p ∈ l, p.text.length ≤ 1099511627776)) :
    Calls Tryd.prog 15 #[.pointer (some ⟨gb, 0, none⟩), .slice A n c] w fun e w' => e = .returned (.tuple #[]) ∧ AP base gb B w v u (prs ++ [[.slice A n c]]) l (.slice A n c) ts es ts.length w' := by
  have HE := Lib.hid h.out.neP
  have hc0 : w.cell? ⟨gb, 16, none⟩ = some u := cell_of_row w gb 16 _ _ (0, 0) h.out.blk
  obtain ⟨A1, n1, c1, rfl, hn1, hnc1, hcm1⟩ := h.out.ownP.form
  have hn1' : n1 < 400 := by have := hn1.out; omega
  have hsz : gb < w.heap.size := (Array.getElem?_eq_some_iff.1 h.out.blk).1
  have hb0 := h.out.hb
  go_enter Tryd.func15, Tryd.ntmps15
  go_wp2_with (at_builtin; refine wpList_append_Own _ rfl (.tmp 15) (.tmp 17) 52 rfl Rep.val base 26 24 stRowsP nob (.slice A1 n1 c1) prs rfl (h.out.ownP.alloc _) _ _ _ [[_]] rfl (SliceAt.newOne Rep.val _ _ _ _ _ ⟨rfl, rfl, by simp [Value.oneCell']⟩ (by simp)) nob (fun _ h => h.elim) (fun _ h => h) (fun _ _ h => h) (by simp <;> omega) (by simp <;> omega) (by simp <;> omega) ?_; intro v3 w3 hown3 hg3 hat3; obtain ⟨A3, n3, c3, rfl, -, -, -⟩ := hown3.form; have hblk3 := (hg3.block gb (by simp <;> omega) (fun e => HE.out e.symm)).trans ((Below.heap_alloc w _ gb hsz).trans h.out.blk); have hc3 : w3.cell? ⟨gb, 16, none⟩ = some (.slice A1 n1 c1) := cell_of_row w3 gb 16 _ _ (0, 0) hblk3; have hf3 : w3.frozen? ⟨gb, 16, none⟩ = false := (by simp [World.frozen?, hblk3]); have HOWN3 := Lib.hid hown3; have HG3 := Lib.hid hg3; have HAT3 := Lib.hid hat3; have HBLK3 := Lib.hid hblk3; clear hown3 hg3 hat3 hblk3)
  have HAP0 : Hid (AP base gb B w v (.slice A1 n1 c1) (prs ++ [[.slice A n c]]) l (.slice A n c) ts es 0 (w3.setCell ⟨gb, 16, none⟩ (.slice A3 n3 c3))) := Lib.hid (by
    have hne3 : (Value.slice A3 n3 c3).ownBlock ≠ some gb := by
      rcases HAT3.out with e | e <;> rw [e]
      · exact HE.out
      · simp; omega
    have honly : Only (fun b => b = gb ∨ some b = (Value.slice A1 n1 c1).ownBlock) w (w3.setCell ⟨gb, 16, none⟩ (.slice A3 n3 c3)) := ((((Only.refl _ w).alloc _).grown HG3.out fun b hb => .inl (.inr hb)).setCell (.inl (.inl rfl)) _)
    have honly2 : Only (BagF gb v (.slice A1 n1 c1)) w (w3.setCell ⟨gb, 16, none⟩ (.slice A3 n3 c3)) := honly.mono fun b hb => by
      rcases hb with hb | hb
      · exact .inl hb
      · exact .inr (.inr hb)
    refine ⟨v, .slice A3 n3 c3, es, ⟨?_, h.out.own.only honly fun b hb hF => ?_, ?_, hb0⟩, ((hT.out.bag h.out honly2)).lift h.out.own fun x hx q hq => ?_, fun y hy => .inl hy, honly2, fun b hb => .inl hb, fun b hb => ?_, hp.out.bag h.out honly2⟩
    · simp [World.setCell, Array.getElem?_modify, HBLK3.out]
    · rcases hF with rfl | e
      · exact h.out.ne hb
      · exact h.out.own.ne_type h.out.ownP (by decide) hb e.symm
    · refine HOWN3.out.mono (setCell_grown gb w3 16 _) ?_ (fun _ h => h.elim)
      exact .inr hne3
    · have hz := honly.size
      obtain ⟨l, hl⟩ := hT.out.own x hx
      exact Nat.lt_of_lt_of_le (hl.block_lt hq).2 hz
    · rcases HAT3.out with e | e
      · exact .inl (e.symm.trans hb)
      · rw [e] at hb
        simp at hb
        exact .inr (by omega))
  obtain ⟨w5, hw5⟩ : ∃ W, W = w3.setCell ⟨gb, 16, none⟩ (.slice A3 n3 c3) := ⟨_, rfl⟩
  rw [← hw5] at HAP0 ⊢
  clear hw5 HBLK3 HAT3 HG3 HOWN3 hc3 hf3 HE hc0
  go_loopg [4] n (fun k iv wr => ∃ i : Nat, i ≤ n ∧ iv = .int .i64 i ∧ k = n - i ∧ Hid (AP base gb B w v (.slice A1 n1 c1) (prs ++ [[.slice A n c]]) l (.slice A n c) ts es i wr))
  case atStart => exact ⟨0, Nat.zero_le _, rfl, rfl, HAP0⟩
  case round =>
    obtain ⟨i, hi, rfl, rfl, HAP⟩ := hrel
    rcases Nat.lt_or_ge i n with hlt | hge
    · rcases Nat.lt_or_ge i 400 with h4 | h4
      · obtain ⟨g, c', A', n', c2, he, hcell, k1, k2, hcall⟩ := HAP.out.round (by rw [← hn.out]; exact hlt) hT.out hlo.out hlen.out
        simp only [Value.slice.injEq] at he
        obtain ⟨rfl, -, rfl⟩ := he
        have HCALL := Lib.hid hcall
        clear hcall
        go_wp2_with fail
        refine HCALL.out.mono ?_
        rintro e w' ⟨rfl, hap⟩
        have HAP2 := Lib.hid hap
        clear hap
        go_wp2_with fail
        go_roundg (n - (i + 1))
        case measure => omega
        case rel => exact ⟨i + 1, by omega, by go_num, rfl, HAP2⟩
      · go_wp2_with fail
        go_end0
        exact ⟨rfl, HAP.out.full⟩
    · obtain rfl : i = n := by omega
      go_wp2_with fail
      go_end0
      exact ⟨rfl, HAP.out.full⟩
end Go.Proofs.YtebbilkkacbfjaaDoor
