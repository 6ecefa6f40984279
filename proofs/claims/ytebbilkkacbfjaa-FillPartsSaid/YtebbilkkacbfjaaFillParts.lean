/- An Expand is those of its parts: the walk of galleylaw16.FillParts. No conditions. -/
import Derived.Test.YtebbilkkacbfjaaProg
import Derived.Test.YtebbilkkacbfjaaWorks16
import Derived.Test.YtebbilkkacbfjaaLong
import Derived.Test.YtebbilkkacbfjaaEqBytes
import Derived.WalkKit
import Derived.WalkSpells
import Derived.Deep.QuietTactic
import Derived.BigQuiet
import Derived.Lib.Hide
import Derived.Deep.Cut
import Derived.Deep.DeepMust
namespace Go.Proofs.Ytebbilkkacbfjaa
open Go.RowKit

/-! ### Plain -/
theorem one_le (t : List UInt8) (ss : List Span) (p : Piece) : ((one t ss p).length : Int) ≤ klen ss p := by
  unfold one klen
  split
  · exact Int.le_refl _
  · unfold taken
    split
    · rename_i s hs
      rw [hs]
      by_cases h : 0 ≤ p.group ∧ 0 ≤ s.lo ∧ s.lo ≤ s.hi ∧ s.hi ≤ t.length
      · simp only [if_pos h, if_pos (show 0 ≤ p.group ∧ 0 ≤ s.lo ∧ s.lo ≤ s.hi from ⟨h.1, h.2.1, h.2.2.1⟩)]
        simp; omega
      · rw [if_neg h]
        simp only [List.length_nil]
        split <;> omega
    · rename_i hs
      rw [hs]
      simp
theorem klen_nn (ss : List Span) (p : Piece) : 0 ≤ klen ss p := by
  have := one_le [] ss p
  omega
theorem longFrom_le (t : List UInt8) (ss : List Span) : ∀ (ps : List Piece) (n : Int), longFrom ss n ps ≤ 4194304 → n + ((expand ps t ss).length : Int) ≤ longFrom ss n ps
  | [], n, _ => by simp [longFrom, expand]
  | p :: r, n, h => by
    unfold longFrom at h ⊢
    have h1 := one_le t ss p
    split at h
    · omega
    · rename_i hc
      rw [if_neg hc]
      have := longFrom_le t ss r _ h
      have e : expand (p :: r) t ss = one t ss p ++ expand r t ss := by simp [expand]
      rw [e, List.length_append]
      omega
def goodSpan (t : List UInt8) (s : Span) : Prop := (0 ≤ s.lo ∧ s.lo ≤ s.hi ∧ s.hi ≤ t.length) ∨ (s.lo = -1 ∧ s.hi = -1)
theorem one_eq (t : List UInt8) (ss : List Span) (h : ∀ s ∈ ss, goodSpan t s) (p : Piece) : ((one t ss p).length : Int) = klen ss p := by
  unfold one klen
  split
  · rfl
  · unfold taken
    split
    · rename_i s hs
      rw [hs]
      obtain ⟨hj, rfl⟩ := List.getElem?_eq_some_iff.1 hs
      have hg := h _ (List.getElem_mem hj)
      by_cases h1 : 0 ≤ p.group ∧ 0 ≤ ss[p.group.toNat].lo ∧ ss[p.group.toNat].lo ≤ ss[p.group.toNat].hi
      · have h2 : ss[p.group.toNat].hi ≤ t.length := by rcases hg with h | h <;> omega
        simp only [if_pos h1, if_pos (show 0 ≤ p.group ∧ 0 ≤ ss[p.group.toNat].lo ∧ ss[p.group.toNat].lo ≤ ss[p.group.toNat].hi ∧ ss[p.group.toNat].hi ≤ t.length from ⟨h1.1, h1.2.1, h1.2.2, h2⟩)]
        simp; omega
      · simp only [if_neg h1]
        rw [if_neg (fun e => h1 ⟨e.1, e.2.1, e.2.2.1⟩)]
        rfl
    · rename_i hs
      rw [hs]
      rfl
theorem longFrom_eq (t : List UInt8) (ss : List Span) (hs : ∀ s ∈ ss, goodSpan t s) : ∀ (ps : List Piece) (n : Int), longFrom ss n ps ≤ 4194304 → n + ((expand ps t ss).length : Int) = longFrom ss n ps
  | [], n, _ => by simp [longFrom, expand]
  | p :: r, n, h => by
    unfold longFrom at h ⊢
    have h1 := one_eq t ss hs p
    split at h
    · omega
    · rename_i hc
      rw [if_neg hc]
      have := longFrom_eq t ss hs r _ h
      have e : expand (p :: r) t ss = one t ss p ++ expand r t ss := by simp [expand]
      rw [e, List.length_append]
      omega
theorem expand_app (a b : List Piece) (t : List UInt8) (ss : List Span) : expand (a ++ b) t ss = expand a t ss ++ expand b t ss := by simp [expand]

/-! ### The callees, with lengths by names of their own -/
theorem expand_n (A T S : Option Addr) (n ca m ct k cs : Nat) (ps : List Piece) (t : List UInt8) (ss : List Span) (w : World) (hn : n = ps.length) (hm : m = t.length) (hk : k = ss.length)
    (hp : SliceAt Rep.piece w (under w.heap.size) A ca ps) (ht : SliceAt Rep.byte w (under w.heap.size) T ct t) (hs : SliceAt Rep.span w (under w.heap.size) S cs ss) (hx : (expand ps t ss).length ≤ 4194304) :
    Calls Try.prog 7 #[.slice A n ca, .slice T m ct, .slice S k cs] w fun e w' => ∃ A1 n1 c1, e = .returned (.slice A1 n1 c1) ∧ Hid (n1 = (expand ps t ss).length) ∧ n1 ≤ c1 ∧ c1 ≤ 9223372036854775807 ∧
      SliceAt Rep.byte w' (under w'.heap.size) A1 c1 (expand ps t ss) ∧ Below w.heap.size w w' := by
  subst hn; subst hm; subst hk
  refine (expand_any A T S ca ct cs ps t ss w hp ht hs hx).mono fun e w' ⟨v, he, ho, hb⟩ => ?_
  obtain ⟨A1, n1, c1, rfl, hn1, h1, h2, hs⟩ := ho.read
  exact ⟨A1, n1, c1, he, hn1, h1, h2, hs.up (btw_under (Nat.le_refl _)), hb⟩
theorem refLong_n (A S : Option Addr) (n ca k cs : Nat) (ps : List Piece) (ss : List Span) (w : World) (hn : n = ps.length) (hk : k = ss.length) (hp : SliceAt Rep.piece w (under w.heap.size) A ca ps) (hs : SliceAt Rep.span w (under w.heap.size) S cs ss) :
    Calls Try.prog 6 #[.slice A n ca, .slice S k cs] w fun e w' => e = .returned (.int .i64 (longFrom ss 0 ps)) ∧ ∃ n, w' = w.drewN n := by
  subst hn; subst hk
  exact refLong A S ca cs ps ss w _ _ hp hs
theorem fillLong_n (A S : Option Addr) (n ca k cs : Nat) (ps : List Piece) (ss : List Span) (w : World) (hn : n = ps.length) (hk : k = ss.length) (hp : SliceAt Rep.piece w (under w.heap.size) A ca ps) (hs : SliceAt Rep.span w (under w.heap.size) S cs ss) :
    Calls Try.prog 9 #[.slice A n ca, .slice S k cs] w fun e w' => e = .returned (.int .i64 (longFrom ss 0 ps)) ∧ Below w.heap.size w w' := by
  subst hn; subst hk
  exact fillLong A S ca cs ps ss w hp hs
theorem eqBytes_n (A B : Option Addr) (n c m d : Nat) (xs ys : List UInt8) (w : World) (b : Bool) (hn : n = xs.length) (hm : m = ys.length) (hb : decide (xs = ys) = b) (S S' : Blocks) (hx : SliceAt Rep.byte w S A c xs) (hy : SliceAt Rep.byte w S' B d ys) :
    Calls Try.prog 8 #[.slice A n c, .slice B m d] w fun e w' => e = .returned (.bool b) ∧ ∃ n, w' = w.drewN n := by
  subst hn; subst hm; subst hb
  exact eqBytes A B c d xs ys w S S' hx hy
theorem SliceAt.grow {α : Type} {r : Rep α} {w w1 : World} {A : Option Addr} {c : Nat} {l : List α} (h : SliceAt r w (under w.heap.size) A c l) (hb : Below w.heap.size w w1) : SliceAt r w1 (under w1.heap.size) A c l :=
  (h.below hb (Nat.le_refl _)).up fun _ h => Nat.lt_of_lt_of_le h hb.size
theorem stPieces : SliceType Try.prog 22 32 2 32 := SliceType.mk' (z := .agg #[.int .i64 0, .slice none 0 0]) Try.underlying22 (by kernel_rfl) rfl (by omega)
theorem quiet_add {P : Program} {f : FuncId} {args : Array Value} {w : World} {a n : Nat} {v : Value}
    (h : Calls P f args (w.drewN (a + n)) fun e w' => e = .returned v ∧ ∃ m, w' = (w.drewN (a + n)).drewN m) :
    Calls P f args (w.drewN (a + n)) fun e w'' => e = .returned v ∧ ∃ m, w'' = w.drewN (a + m) :=
  h.mono fun _ _ ⟨he, m, hm⟩ => ⟨he, n + m, by rw [hm, World.drewN_drewN, Nat.add_assoc]⟩
theorem below_drewN {B : Nat} {a w : World} (h : Below B a w) (n : Nat) : Below B a (w.drewN n) := ⟨h.os, h.tape, h.output, h.size, h.block⟩

section
variable (A T S : Option Addr) (n ca m ct k cs : Nat) (ps : List Piece) (t : List UInt8) (ss : List Span) (cut : Int) (w : World) (hn : Hid (n = ps.length)) (hm : Hid (m = t.length)) (hk : Hid (k = ss.length))
    (hp : Hid (SliceAt Rep.piece w (under w.heap.size) A ca ps)) (ht : Hid (SliceAt Rep.byte w (under w.heap.size) T ct t)) (hs : Hid (SliceAt Rep.span w (under w.heap.size) S cs ss))
    (hn1 : n ≤ ca) (hn2 : ca ≤ 9223372036854775807) (hm1 : m ≤ ct) (hm2 : ct ≤ 9223372036854775807) (hk1 : k ≤ cs) (hk2 : cs ≤ 9223372036854775807)
include hn hm hk hp ht hs hn1 hn2 hm1 hm2 hk1 hk2

omit hn hm hk hp ht hs hn1 hn2 hm1 hm2 hk1 hk2 in
set_option maxRecDepth 100000 in
set_option maxHeartbeats 4000000 in
theorem fillParts_1 (h : 65536 < n + m + k) (hb : n ≤ 35184372088832) (hb' : m ≤ 140737488355328) (hb'' : k ≤ 35184372088832) : Calls Try.prog 3 #[.slice A n ca, .int .i64 cut, .slice T m ct, .slice S k cs] w fun e w' => e = .returned (.bool true) ∧ Below w.heap.size w w' := by
  have h' : decide ((65536 : Int) < (n : Int) + (m : Int) + (k : Int)) = true := by simp; omega
  go_enter Try.func3, Try.ntmps3
  go_wp2_with fail
  refine (works_any _).mono ?_
  rintro e w1 ⟨rfl, hb1⟩
  go_wp2_with fail
  go_ret
  exact ⟨rfl, hb1⟩

omit hm ht in
set_option maxRecDepth 100000 in
set_option maxHeartbeats 4000000 in
theorem fillParts_2 (h : n + m + k ≤ 65536) (hl : 4194304 < longFrom ss 0 ps) : Calls Try.prog 3 #[.slice A n ca, .int .i64 cut, .slice T m ct, .slice S k cs] w fun e w' => e = .returned (.bool true) ∧ Below w.heap.size w w' := by
  have h' : decide ((65536 : Int) < (n : Int) + (m : Int) + (k : Int)) = false := by simp; omega
  have hl' : decide ((4194304 : Int) < longFrom ss 0 ps) = true := by simpa using hl
  go_enter Try.func3, Try.ntmps3
  go_wp2_with fail
  refine (works_any _).mono ?_
  rintro e w1 ⟨rfl, hb1⟩
  have HB1 := Lib.hid hb1
  clear hb1
  go_wp2_with fail
  refine (refLong_n _ _ _ _ _ _ ps ss _ hn.out hk.out (SliceAt.grow hp.out HB1.out) (SliceAt.grow hs.out HB1.out)).mono ?_
  rintro e w2 ⟨rfl, nd, rfl⟩
  go_wp2_with fail
  go_ret
  exact ⟨rfl, below_drewN HB1.out _⟩

omit hm ht in
set_option maxRecDepth 100000 in
set_option maxHeartbeats 4000000 in
theorem fillParts_3 (h : n + m + k ≤ 65536) (hl : longFrom ss 0 ps ≤ 4194304) (hc : cut < 0 ∨ (n : Int) < cut) : Calls Try.prog 3 #[.slice A n ca, .int .i64 cut, .slice T m ct, .slice S k cs] w fun e w' => e = .returned (.bool true) ∧ Below w.heap.size w w' := by
  have h' : decide ((65536 : Int) < (n : Int) + (m : Int) + (k : Int)) = false := by simp; omega
  have hl' : decide ((4194304 : Int) < longFrom ss 0 ps) = false := by simpa using hl
  rcases hc with hc | hc
  all_goals
    have hc' : decide (cut < 0) = true ∨ (decide (cut < 0) = false ∧ decide ((n : Int) < cut) = true) := by
      first
        | exact .inl (by simpa using hc)
        | exact .inr ⟨by simp; omega, by simpa using hc⟩
    go_enter Try.func3, Try.ntmps3
    go_wp2_with fail
    refine (works_any _).mono ?_
    rintro e w1 ⟨rfl, hb1⟩
    have HB1 := Lib.hid hb1
    clear hb1
    go_wp2_with fail
    refine (refLong_n _ _ _ _ _ _ ps ss _ hn.out hk.out (SliceAt.grow hp.out HB1.out) (SliceAt.grow hs.out HB1.out)).mono ?_
    rintro e w2 ⟨rfl, nd, rfl⟩
    go_wp2_with fail
    go_ret
    exact ⟨rfl, below_drewN HB1.out _⟩

set_option maxRecDepth 100000 in
set_option maxHeartbeats 6000000 in
theorem fillParts_4 (h : n + m + k ≤ 65536) (hl : longFrom ss 0 ps ≤ 4194304) (cu : Nat) (hcu : cu ≤ n) : Calls Try.prog 3 #[.slice A n ca, .int .i64 cu, .slice T m ct, .slice S k cs] w fun e w' => e = .returned (.bool true) ∧ Below w.heap.size w w' := by
  have h' : decide ((65536 : Int) < (n : Int) + (m : Int) + (k : Int)) = false := by simp; omega
  have hl' : decide ((4194304 : Int) < longFrom ss 0 ps) = false := by simpa using hl
  have hln := longFrom_le t ss ps 0 hl
  have hcp : cu ≤ ps.length := by have := hn.out; omega
  obtain ⟨ea, hea⟩ : ∃ ea, ea = expand (ps.take cu) t ss := ⟨_, rfl⟩
  obtain ⟨eb, heb⟩ : ∃ eb, eb = expand (ps.drop cu) t ss := ⟨_, rfl⟩
  have heab : expand ps t ss = ea ++ eb := by rw [hea, heb, ← expand_app, List.take_append_drop]
  have hel : (ea.length : Int) + eb.length ≤ 4194304 := by
    have : (expand ps t ss).length = ea.length + eb.length := by rw [heab, List.length_append]
    omega
  have HEA := Lib.hid hea
  have HEB := Lib.hid heb
  have HEAB := Lib.hid heab
  have HCP := Lib.hid hcp
  clear hea heb heab hln hcp
  have hsl := fun W => run_slice_from (P := Try.prog) W stPieces A n ca cu hcu
  have hcu0 : decide ((cu : Int) < 0) = false := by simp
  go_enter Try.func3, Try.ntmps3
  go_wp2_with fail
  refine (works_any _).mono ?_
  rintro e w1 ⟨rfl, hb1⟩
  have HB1 := Lib.hid hb1
  clear hb1
  go_wp2_with fail
  refine (refLong_n _ _ _ _ _ _ ps ss _ hn.out hk.out (SliceAt.grow hp.out HB1.out) (SliceAt.grow hs.out HB1.out)).mono ?_
  rintro e w2 ⟨rfl, nd, rfl⟩
  have HB2 := Lib.hid (below_drewN HB1.out nd)
  clear HB1
  go_wp2_with fail
  refine (expand_n _ _ _ _ _ _ _ _ _ (ps.take cu) t ss _ (by rw [List.length_take_of_le HCP.out]) hm.out hk.out ((SliceAt.grow hp.out HB2.out).cutTo HCP.out) (SliceAt.grow ht.out HB2.out) (SliceAt.grow hs.out HB2.out) (by rw [← HEA.out]; omega)).mono ?_
  rintro e w3 ⟨A1, n1, c1, rfl, hn1, hl1, hm1, hs1, hb3⟩
  rw [← HEA.out] at hn1 hs1
  have HS1 := Lib.hid hs1
  have HB3 := Lib.hid (HB2.out.trans (hb3.mono HB2.out.size))
  clear hs1 hb3
  go_wp2_with fail
  refine (expand_n _ _ _ _ _ _ _ _ _ (ps.drop cu) t ss _ (by rw [List.length_drop, hn.out]) hm.out hk.out ((SliceAt.grow hp.out HB3.out).cutFromA HCP.out rfl) (SliceAt.grow ht.out HB3.out) (SliceAt.grow hs.out HB3.out) (by rw [← HEB.out]; omega)).mono ?_
  rintro e w4 ⟨A2, n2, c2, rfl, hn2, hl2, hm2, hs2, hb4⟩
  rw [← HEB.out] at hn2 hs2
  have HS2 := Lib.hid hs2
  have HS1' := Lib.hid (SliceAt.grow HS1.out hb4)
  have HB4 := Lib.hid (HB3.out.trans (hb4.mono HB3.out.size))
  clear hs2 hb4 HS1
  go_wp2_with fail
  refine (expand_n _ _ _ _ _ _ _ _ _ ps t ss _ hn.out hm.out hk.out (SliceAt.grow hp.out HB4.out) (SliceAt.grow ht.out HB4.out) (SliceAt.grow hs.out HB4.out) (by rw [HEAB.out, List.length_append]; omega)).mono ?_
  rintro e w5 ⟨A3, n3, c3, rfl, hn3, hl3, hm3, hs3, hb5⟩
  rw [HEAB.out] at hn3 hs3
  have HS3 := Lib.hid hs3
  have HS2' := Lib.hid (SliceAt.grow HS2.out hb5)
  have HS1 := Lib.hid (SliceAt.grow HS1'.out hb5)
  have HB5 := Lib.hid (HB4.out.trans (hb5.mono HB4.out.size))
  clear hs3 hb5 HS1' HS2
  have hn123 : n3 = n1 + n2 := by rw [hn1.out, hn2.out, hn3.out, List.length_append]
  have h13 : n1 ≤ n3 := by omega
  have hsmall : n1 + n2 ≤ 4194304 := by have := hn1.out; have := hn2.out; omega
  have hsum : ((n3 : Int) != (n1 : Int) + (n2 : Int)) = false := by rw [bne_eq_false_iff_eq]; omega
  have hsl3 := fun W => run_slice_from (P := Try.prog) W stBytes A3 n3 c3 n1 h13
  have hsub : n3 - n1 = n2 := by omega
  have H123 := Lib.hid hn123
  have HSUB := Lib.hid hsub
  clear hn123 hsub
  go_wp2_with fail
  refine (eqBytes_n _ _ _ _ _ _ ((ea ++ eb).take n1) ea _ true (by rw [List.length_take, ← hn3.out]; omega) hn1.out (by rw [hn1.out]; simp) _ _ (HS3.out.cutTo (by rw [← hn3.out]; exact h13)) HS1.out).mono ?_
  rintro e w6 ⟨rfl, nd6, rfl⟩
  go_wp2_with fail
  refine (eqBytes_n _ _ _ _ _ _ ((ea ++ eb).drop n1) eb _ true (by rw [List.length_drop, ← hn3.out]) hn2.out (by rw [hn1.out]; simp) _ _ ((HS3.out.drewN _).cutFromA (by rw [← hn3.out]; exact h13) rfl) (HS2'.out.drewN _)).mono ?_
  rintro e w6 ⟨rfl, nd7, rfl⟩
  go_wp2_with fail
  go_loopw [13, 14] (fun x i wr => ∃ j r nd : Nat, j ≤ k ∧ r ≤ j ∧ i = .int .i64 j ∧ x = .int .i64 r ∧ wr = w5.drewN nd ∧ (r = j → ∀ s ∈ ss.take j, goodSpan t s)) (fun _ i _ => k - (intOf i).toNat)
  case atStart => exact ⟨0, 0, _, Nat.zero_le _, Nat.le_refl _, rfl, rfl, rfl, by simp⟩
  case round =>
    obtain ⟨j, r, nd, hj, hr, rfl, rfl, rfl, hgood⟩ := hrel
    have HGOOD := Lib.hid hgood
    clear hgood
    by_cases hlt : j < k
    · have hjl : j < ss.length := by have := hk.out; omega
      obtain ⟨g2, o2, rfl, hd0, hd1, hwf1, hwf2, hwf3, hwf4⟩ := span_at hs.out (Same.of_below HB5.out fun _ h => h) hjl
      obtain ⟨x, hx⟩ : ∃ x, x = ss[j] := ⟨_, rfl⟩
      rw [← hx] at hd0 hd1 hwf1 hwf2 hwf3 hwf4
      have htk : ∀ (_ : goodSpan t x) (_ : r = j), ∀ s ∈ ss.take (j + 1), goodSpan t s := by
        intro hg e s hs
        rw [List.take_succ_eq_append_getElem hjl] at hs
        rcases List.mem_append.1 hs with h | h
        · exact HGOOD.out e s h
        · simp at h; rw [h, ← hx]; exact hg
      have HTK := Lib.hid htk
      have hmt : m = t.length := hm.out
      have hmt' : (t.length : Int) = m := by omega
      have HMT := Lib.hid hmt'
      clear htk hx hmt hmt'
      by_cases h1 : 0 ≤ x.lo
      · as_aux_lemma =>
          have h1' : decide (0 ≤ x.lo) = true := by simpa using h1
          have h4' : (x.lo == -1) = false := by rw [beq_eq_false_iff_ne]; omega
          by_cases h2 : x.lo ≤ x.hi
          · have h2' : decide (x.lo ≤ x.hi) = true := by simpa using h2
            by_cases h3 : x.hi ≤ m
            · have h3' : decide (x.hi ≤ (m : Int)) = true := by simpa using h3
              have HG : Hid (∀ s ∈ ss.take (j + 1), r = j → goodSpan t s) := fun s hs e => HTK.out (.inl ⟨h1, h2, by rw [HMT.out]; exact h3⟩) e s hs
              go_wp2
              go_quiet (fail)
              go_wp2
              go_roundw
              case rel => exact ⟨j + 1, r + 1, _, by omega, by omega, by go_num, by go_num, rfl, fun e s hs => HG.out s hs (by omega)⟩
              case measure => simp [intOf]; omega
            · have h3' : decide (x.hi ≤ (m : Int)) = false := by simpa using h3
              go_wp2
              go_quiet (fail)
              go_wp2
              go_roundw
              case rel => exact ⟨j + 1, r, _, by omega, by omega, by go_num, by go_num, rfl, fun e => absurd e (by omega)⟩
              case measure => simp [intOf]; omega
          · have h2' : decide (x.lo ≤ x.hi) = false := by simpa using h2
            go_wp2
            go_quiet (fail)
            go_wp2
            go_roundw
            case rel => exact ⟨j + 1, r, _, by omega, by omega, by go_num, by go_num, rfl, fun e => absurd e (by omega)⟩
            case measure => simp [intOf]; omega
      · as_aux_lemma =>
          have h1' : decide (0 ≤ x.lo) = false := by simpa using h1
          by_cases h4 : x.lo = -1
          · have h4' : (x.lo == -1) = true := by rw [beq_iff_eq]; exact h4
            by_cases h5 : x.hi = -1
            · have h5' : (x.hi == -1) = true := by rw [beq_iff_eq]; exact h5
              have HG : Hid (∀ s ∈ ss.take (j + 1), r = j → goodSpan t s) := fun s hs e => HTK.out (.inr ⟨h4, h5⟩) e s hs
              clear h4 h5
              go_wp2
              go_quiet (fail)
              go_wp2
              go_roundw
              case rel => exact ⟨j + 1, r + 1, _, by omega, by omega, by go_num, by go_num, rfl, fun e s hs => HG.out s hs (by omega)⟩
              case measure => simp [intOf]; omega
            · have h5' : (x.hi == -1) = false := by rw [beq_eq_false_iff_ne]; exact h5
              clear h4
              go_wp2
              go_quiet (fail)
              go_wp2
              go_roundw
              case rel => exact ⟨j + 1, r, _, by omega, by omega, by go_num, by go_num, rfl, fun e => absurd e (by omega)⟩
              case measure => simp [intOf]; omega
          · have h4' : (x.lo == -1) = false := by rw [beq_eq_false_iff_ne]; exact h4
            go_wp2
            go_quiet (fail)
            go_wp2
            go_roundw
            case rel => exact ⟨j + 1, r, _, by omega, by omega, by go_num, by go_num, rfl, fun e => absurd e (by omega)⟩
            case measure => simp [intOf]; omega
    · obtain rfl : k = j := by omega
      have hall : r = k → ∀ s ∈ ss, goodSpan t s := by
        intro e
        have := HGOOD.out e
        rwa [List.take_of_length_le (by have := hk.out; omega)] at this
      have HALL := Lib.hid hall
      have hn3' : (n3 : Int) ≤ 1099511627776 := by have := hn1.out; have := hn2.out; have := H123.out; omega
      have hlen3 : longFrom ss 0 ps = n3 ∨ ¬ r = k := by
        by_cases e : r = k
        · left
          have := longFrom_eq t ss (HALL.out e) ps 0 hl
          have h3 := hn3.out
          rw [← HEAB.out] at h3
          omega
        · exact .inr e
      clear hall
      by_cases hrk : r = k
      · have hlen : (longFrom ss 0 ps != (n3 : Int)) = false := by rw [bne_eq_false_iff_eq]; exact hlen3.resolve_right (fun h => h hrk)
        have hrk' : ((r : Int) == (k : Int)) = true := by rw [beq_iff_eq]; omega
        clear hlen3 hrk
        go_wp2_with fail
        refine (fillLong_n _ _ _ _ _ _ ps ss _ hn.out hk.out (SliceAt.grow hp.out (below_drewN HB5.out _)) (SliceAt.grow hs.out (below_drewN HB5.out _))).mono ?_
        rintro e w6 ⟨rfl, hb6⟩
        have HB6 := Lib.hid ((below_drewN HB5.out _).trans (hb6.mono (Nat.le_trans HB5.out.size (Nat.le_refl _))))
        clear hb6
        go_wp2_with fail
        go_loopw [15] (fun x wr => ∃ i : Nat, i ≤ n ∧ x = .int .i64 i ∧ Below w.heap.size w wr) (fun x _ => n - (intOf x).toNat)
        case atStart => exact ⟨0, Nat.zero_le _, rfl, HB6.out⟩
        case round =>
          obtain ⟨i, hi, rfl, hbw⟩ := hrel
          have HBW := Lib.hid hbw
          clear hbw
          by_cases hlt : i < n
          · as_aux_lemma =>
              have hil : i < ps.length := by have := hn.out; omega
              obtain ⟨g, o, At, ct', rfl, hc0, hc1, htx, hwf, hwf'⟩ := piece_at hp.out (Same.of_below HBW.out fun _ h => h) hil
              obtain ⟨p, hpe⟩ : ∃ p, p = ps[i] := ⟨_, rfl⟩
              have hone : expand ((ps.take (i + 1)).drop i) t ss = one t ss p := by
                have : (ps.take (i + 1)).drop i = [p] := by
                  rw [List.take_succ_eq_append_getElem hil, List.drop_append_of_le_length (by simp; omega), List.drop_of_length_le (by simp; omega), hpe]; rfl
                rw [this]; simp [expand]
              have hole : (one t ss p).length ≤ 4194304 := by
                have h1 := expand_le ps t ss (i + 1)
                rw [expand_snoc _ _ _ _ hil, List.length_append, ← hpe, HEAB.out, List.length_append] at h1
                omega
              rw [← hpe] at hwf hwf' hc0 hc1 htx
              have HPE := Lib.hid hpe
              have HONE := Lib.hid hone
              have HIL := Lib.hid hil
              have hslp : ∀ W, (Instr.sliceAt 22 (.slice (some ⟨g, o, none⟩) n ca) (some (.int .i64 (i : Int))) (some (.int .i64 ((i : Int) + 1))) none).run Try.prog W = .ok (.slice (cutA (some ⟨g, o, none⟩) ca i 2) 1 (ca - i)) W := fun W => by
                have := run_slice_both (P := Try.prog) W stPieces (some ⟨g, o, none⟩) n ca i (i + 1) (by omega) (by omega)
                rw [show i + 1 - i = 1 by omega] at this
                simpa using this
              clear hone hpe hc0 hc1 htx
              go_wp2_with fail
              refine (expand_n _ _ _ _ _ _ _ _ _ ((ps.take (i + 1)).drop i) t ss _ (by have := HIL.out; simp; omega) hm.out hk.out ((SliceAt.grow hp.out HBW.out).cutA (by omega) HIL.out rfl) (SliceAt.grow ht.out HBW.out) (SliceAt.grow hs.out HBW.out) (by rw [HONE.out]; exact hole)).mono ?_
              rintro e w8 ⟨A4, n4, c4, rfl, hn4, hl4, hm4, hs4, hb8⟩
              rw [HONE.out] at hn4 hs4
              have HS4 := Lib.hid hs4
              have HB8 := Lib.hid (HBW.out.trans (hb8.mono HBW.out.size))
              obtain ⟨g', o', At, ct', he', hc0, hc1, htx, -, -⟩ := piece_at hp.out (Same.of_below HB8.out fun _ h => h) HIL.out
              simp only [Option.some.injEq, Addr.mk.injEq] at he'
              obtain ⟨rfl, rfl, -⟩ := he'
              rw [← HPE.out] at hc0 hc1 htx
              have htl := htx.len
              have htm := htx.max
              have HTX := Lib.hid htx
              clear hs4 hb8 htx
              by_cases h1 : p.group = -1
              · have hop : one t ss p = p.text := if_pos h1
                have HOP := Lib.hid hop
                rw [h1] at hc0
                clear hop h1
                go_wp2_with fail
                refine (eqBytes_n _ _ _ _ _ _ (one t ss p) p.text _ true hn4.out rfl (by rw [HOP.out]; simp) _ _ HS4.out HTX.out).mono ?_
                rintro e w9 ⟨rfl, nd9, rfl⟩
                have HB9 := Lib.hid (below_drewN HB8.out nd9)
                go_wp2
                go_quiet (fail)
                go_wp2
                go_roundw
                case rel => exact ⟨i + 1, by omega, by go_num, below_drewN HB8.out _⟩
                case measure => simp [intOf]; omega
              · have h1' : (p.group == -1) = false := by rw [beq_eq_false_iff_ne]; exact h1
                have h1'' : (p.group != -1) = true := by rw [bne_iff_ne]; exact h1
                by_cases h2 : 0 ≤ p.group ∧ p.group < k
                · obtain ⟨q, hq⟩ : ∃ q : Nat, p.group = q := ⟨p.group.toNat, by omega⟩
                  have hql : q < ss.length := by have := hk.out; omega
                  obtain ⟨g2, o2, rfl, hd0, hd1, hwf1, hwf2, hwf3, hwf4⟩ := span_at hs.out (Same.of_below HB8.out fun _ h => h) hql
                  obtain ⟨x, hx⟩ : ∃ x, x = ss[q] := ⟨_, rfl⟩
                  have hop : one t ss p = if 0 ≤ x.lo ∧ x.lo ≤ x.hi ∧ x.hi ≤ m then (t.take x.hi.toNat).drop x.lo.toNat else [] := by
                    unfold one taken
                    rw [if_neg h1, hq, Int.toNat_natCast, List.getElem?_eq_getElem hql, ← hx, hm.out]
                    simp
                  have HOP := Lib.hid hop
                  rw [← hx] at hd0 hd1 hwf1 hwf2 hwf3 hwf4
                  rw [hq] at hc0 h1' h1'' h2 hwf hwf'
                  have h2a : decide ((q : Int) < (k : Int)) = true := by simpa using h2.2
                  have h2b : q < k := by omega
                  clear hop hx hq h1
                  by_cases h3 : 0 ≤ x.lo ∧ x.lo ≤ x.hi ∧ x.hi ≤ m
                  · obtain ⟨lo, hlo⟩ : ∃ lo : Nat, x.lo = lo := ⟨x.lo.toNat, by omega⟩
                    obtain ⟨hi, hhi⟩ : ∃ hi : Nat, x.hi = hi := ⟨x.hi.toNat, by omega⟩
                    have hop : one t ss p = (t.take hi).drop lo := by rw [HOP.out, if_pos h3, hlo, hhi]; simp
                    have HOP' := Lib.hid hop
                    obtain ⟨h3a, h3b, h3c⟩ := h3
                    rw [hlo] at hd0 h3a h3b hwf1 hwf2
                    rw [hhi] at hd1 h3b h3c hwf3 hwf4
                    have h3b' : lo ≤ hi := by omega
                    have h3c' : hi ≤ m := by omega
                    have h3d : decide ((lo : Int) ≤ (hi : Int)) = true := by simpa using h3b'
                    have h3e : decide ((hi : Int) ≤ (m : Int)) = true := by simpa using h3c'
                    have hslt := fun W => run_slice_both (P := Try.prog) W stBytes T m ct lo hi h3b' (by omega)
                    clear hop hlo hhi
                    go_wp2
                    go_quiet (fail)
                    go_wp2_with fail
                    have hlen : hi - lo = ((t.take hi).drop lo).length := by have := hm.out; simp; omega
                    have HLEN := Lib.hid hlen
                    clear hlen
                    go_quiet ((go_at_call 8; exact quiet_add (eqBytes_n _ _ _ _ _ _ (one t ss p) ((t.take hi).drop lo) _ true hn4.out HLEN.out (by rw [HOP'.out]; simp) _ _ (HS4.out.drewN _) (SliceAt.cutA ((SliceAt.grow ht.out HB8.out).drewN _) h3b' (by have := hm.out; omega) rfl))))
                    go_wp2
                    go_roundw
                    case rel => exact ⟨i + 1, by omega, by go_num, below_drewN HB8.out _⟩
                    case measure => simp [intOf]; omega
                  · have hop : one t ss p = [] := by rw [HOP.out, if_neg h3]
                    have hn40 : n4 = 0 := by rw [hn4.out, hop]; rfl
                    subst hn40
                    clear hop
                    by_cases h4 : 0 ≤ x.lo
                    · have h4' : decide (0 ≤ x.lo) = true := by simpa using h4
                      by_cases h5 : x.lo ≤ x.hi
                      · have h5' : decide (x.lo ≤ x.hi) = true := by simpa using h5
                        have h6' : decide (x.hi ≤ (m : Int)) = false := by simp; omega
                        go_wp2
                        go_quiet (fail)
                        go_wp2
                        go_roundw
                        case rel => exact ⟨i + 1, by omega, by go_num, below_drewN HB8.out _⟩
                        case measure => simp [intOf]; omega
                      · have h5' : decide (x.lo ≤ x.hi) = false := by simpa using h5
                        go_wp2
                        go_quiet (fail)
                        go_wp2
                        go_roundw
                        case rel => exact ⟨i + 1, by omega, by go_num, below_drewN HB8.out _⟩
                        case measure => simp [intOf]; omega
                    · have h4' : decide (0 ≤ x.lo) = false := by simpa using h4
                      go_wp2
                      go_quiet (fail)
                      go_wp2
                      go_roundw
                      case rel => exact ⟨i + 1, by omega, by go_num, below_drewN HB8.out _⟩
                      case measure => simp [intOf]; omega
                · have hop : one t ss p = [] := by
                    unfold one taken
                    rw [if_neg h1]
                    split
                    · rename_i s hs
                      have hl := (List.getElem?_eq_some_iff.1 hs).1
                      have := hk.out
                      exact if_neg (by omega)
                    · rfl
                  have hn40 : n4 = 0 := by rw [hn4.out, hop]; rfl
                  subst hn40
                  clear hop h1
                  by_cases h0 : 0 ≤ p.group
                  · have h2a : decide (p.group < (k : Int)) = false := by simp; omega
                    have h0' : decide (0 ≤ p.group) = true := by simpa using h0
                    go_wp2
                    go_quiet (fail)
                    go_wp2
                    go_roundw
                    case rel => exact ⟨i + 1, by omega, by go_num, below_drewN HB8.out _⟩
                    case measure => simp [intOf]; omega
                  · have h0' : decide (0 ≤ p.group) = false := by simpa using h0
                    go_wp2
                    go_quiet (fail)
                    go_wp2
                    go_roundw
                    case rel => exact ⟨i + 1, by omega, by go_num, below_drewN HB8.out _⟩
                    case measure => simp [intOf]; omega
          · obtain rfl : i = n := by omega
            go_wp2
            go_ret
            exact ⟨rfl, HBW.out⟩
      · have hrk' : ((r : Int) == (k : Int)) = false := by rw [beq_eq_false_iff_ne]; omega
        clear hlen3 hrk
        have HB6 := Lib.hid (below_drewN HB5.out nd)
        go_wp2_with fail
        go_loopw [15] (fun x wr => ∃ i : Nat, i ≤ n ∧ x = .int .i64 i ∧ Below w.heap.size w wr) (fun x _ => n - (intOf x).toNat)
        case atStart => exact ⟨0, Nat.zero_le _, rfl, HB6.out⟩
        case round =>
          obtain ⟨i, hi, rfl, hbw⟩ := hrel
          have HBW := Lib.hid hbw
          clear hbw
          by_cases hlt : i < n
          · as_aux_lemma =>
              have hil : i < ps.length := by have := hn.out; omega
              obtain ⟨g, o, At, ct', rfl, hc0, hc1, htx, hwf, hwf'⟩ := piece_at hp.out (Same.of_below HBW.out fun _ h => h) hil
              obtain ⟨p, hpe⟩ : ∃ p, p = ps[i] := ⟨_, rfl⟩
              have hone : expand ((ps.take (i + 1)).drop i) t ss = one t ss p := by
                have : (ps.take (i + 1)).drop i = [p] := by
                  rw [List.take_succ_eq_append_getElem hil, List.drop_append_of_le_length (by simp; omega), List.drop_of_length_le (by simp; omega), hpe]; rfl
                rw [this]; simp [expand]
              have hole : (one t ss p).length ≤ 4194304 := by
                have h1 := expand_le ps t ss (i + 1)
                rw [expand_snoc _ _ _ _ hil, List.length_append, ← hpe, HEAB.out, List.length_append] at h1
                omega
              rw [← hpe] at hwf hwf' hc0 hc1 htx
              have HPE := Lib.hid hpe
              have HONE := Lib.hid hone
              have HIL := Lib.hid hil
              have hslp : ∀ W, (Instr.sliceAt 22 (.slice (some ⟨g, o, none⟩) n ca) (some (.int .i64 (i : Int))) (some (.int .i64 ((i : Int) + 1))) none).run Try.prog W = .ok (.slice (cutA (some ⟨g, o, none⟩) ca i 2) 1 (ca - i)) W := fun W => by
                have := run_slice_both (P := Try.prog) W stPieces (some ⟨g, o, none⟩) n ca i (i + 1) (by omega) (by omega)
                rw [show i + 1 - i = 1 by omega] at this
                simpa using this
              clear hone hpe hc0 hc1 htx
              go_wp2_with fail
              refine (expand_n _ _ _ _ _ _ _ _ _ ((ps.take (i + 1)).drop i) t ss _ (by have := HIL.out; simp; omega) hm.out hk.out ((SliceAt.grow hp.out HBW.out).cutA (by omega) HIL.out rfl) (SliceAt.grow ht.out HBW.out) (SliceAt.grow hs.out HBW.out) (by rw [HONE.out]; exact hole)).mono ?_
              rintro e w8 ⟨A4, n4, c4, rfl, hn4, hl4, hm4, hs4, hb8⟩
              rw [HONE.out] at hn4 hs4
              have HS4 := Lib.hid hs4
              have HB8 := Lib.hid (HBW.out.trans (hb8.mono HBW.out.size))
              obtain ⟨g', o', At, ct', he', hc0, hc1, htx, -, -⟩ := piece_at hp.out (Same.of_below HB8.out fun _ h => h) HIL.out
              simp only [Option.some.injEq, Addr.mk.injEq] at he'
              obtain ⟨rfl, rfl, -⟩ := he'
              rw [← HPE.out] at hc0 hc1 htx
              have htl := htx.len
              have htm := htx.max
              have HTX := Lib.hid htx
              clear hs4 hb8 htx
              by_cases h1 : p.group = -1
              · have hop : one t ss p = p.text := if_pos h1
                have HOP := Lib.hid hop
                rw [h1] at hc0
                clear hop h1
                go_wp2_with fail
                refine (eqBytes_n _ _ _ _ _ _ (one t ss p) p.text _ true hn4.out rfl (by rw [HOP.out]; simp) _ _ HS4.out HTX.out).mono ?_
                rintro e w9 ⟨rfl, nd9, rfl⟩
                have HB9 := Lib.hid (below_drewN HB8.out nd9)
                go_wp2
                go_quiet (fail)
                go_wp2
                go_roundw
                case rel => exact ⟨i + 1, by omega, by go_num, below_drewN HB8.out _⟩
                case measure => simp [intOf]; omega
              · have h1' : (p.group == -1) = false := by rw [beq_eq_false_iff_ne]; exact h1
                have h1'' : (p.group != -1) = true := by rw [bne_iff_ne]; exact h1
                by_cases h2 : 0 ≤ p.group ∧ p.group < k
                · obtain ⟨q, hq⟩ : ∃ q : Nat, p.group = q := ⟨p.group.toNat, by omega⟩
                  have hql : q < ss.length := by have := hk.out; omega
                  obtain ⟨g2, o2, rfl, hd0, hd1, hwf1, hwf2, hwf3, hwf4⟩ := span_at hs.out (Same.of_below HB8.out fun _ h => h) hql
                  obtain ⟨x, hx⟩ : ∃ x, x = ss[q] := ⟨_, rfl⟩
                  have hop : one t ss p = if 0 ≤ x.lo ∧ x.lo ≤ x.hi ∧ x.hi ≤ m then (t.take x.hi.toNat).drop x.lo.toNat else [] := by
                    unfold one taken
                    rw [if_neg h1, hq, Int.toNat_natCast, List.getElem?_eq_getElem hql, ← hx, hm.out]
                    simp
                  have HOP := Lib.hid hop
                  rw [← hx] at hd0 hd1 hwf1 hwf2 hwf3 hwf4
                  rw [hq] at hc0 h1' h1'' h2 hwf hwf'
                  have h2a : decide ((q : Int) < (k : Int)) = true := by simpa using h2.2
                  have h2b : q < k := by omega
                  clear hop hx hq h1
                  by_cases h3 : 0 ≤ x.lo ∧ x.lo ≤ x.hi ∧ x.hi ≤ m
                  · obtain ⟨lo, hlo⟩ : ∃ lo : Nat, x.lo = lo := ⟨x.lo.toNat, by omega⟩
                    obtain ⟨hi, hhi⟩ : ∃ hi : Nat, x.hi = hi := ⟨x.hi.toNat, by omega⟩
                    have hop : one t ss p = (t.take hi).drop lo := by rw [HOP.out, if_pos h3, hlo, hhi]; simp
                    have HOP' := Lib.hid hop
                    obtain ⟨h3a, h3b, h3c⟩ := h3
                    rw [hlo] at hd0 h3a h3b hwf1 hwf2
                    rw [hhi] at hd1 h3b h3c hwf3 hwf4
                    have h3b' : lo ≤ hi := by omega
                    have h3c' : hi ≤ m := by omega
                    have h3d : decide ((lo : Int) ≤ (hi : Int)) = true := by simpa using h3b'
                    have h3e : decide ((hi : Int) ≤ (m : Int)) = true := by simpa using h3c'
                    have hslt := fun W => run_slice_both (P := Try.prog) W stBytes T m ct lo hi h3b' (by omega)
                    clear hop hlo hhi
                    go_wp2
                    go_quiet (fail)
                    go_wp2_with fail
                    have hlen : hi - lo = ((t.take hi).drop lo).length := by have := hm.out; simp; omega
                    have HLEN := Lib.hid hlen
                    clear hlen
                    go_quiet ((go_at_call 8; exact quiet_add (eqBytes_n _ _ _ _ _ _ (one t ss p) ((t.take hi).drop lo) _ true hn4.out HLEN.out (by rw [HOP'.out]; simp) _ _ (HS4.out.drewN _) (SliceAt.cutA ((SliceAt.grow ht.out HB8.out).drewN _) h3b' (by have := hm.out; omega) rfl))))
                    go_wp2
                    go_roundw
                    case rel => exact ⟨i + 1, by omega, by go_num, below_drewN HB8.out _⟩
                    case measure => simp [intOf]; omega
                  · have hop : one t ss p = [] := by rw [HOP.out, if_neg h3]
                    have hn40 : n4 = 0 := by rw [hn4.out, hop]; rfl
                    subst hn40
                    clear hop
                    by_cases h4 : 0 ≤ x.lo
                    · have h4' : decide (0 ≤ x.lo) = true := by simpa using h4
                      by_cases h5 : x.lo ≤ x.hi
                      · have h5' : decide (x.lo ≤ x.hi) = true := by simpa using h5
                        have h6' : decide (x.hi ≤ (m : Int)) = false := by simp; omega
                        go_wp2
                        go_quiet (fail)
                        go_wp2
                        go_roundw
                        case rel => exact ⟨i + 1, by omega, by go_num, below_drewN HB8.out _⟩
                        case measure => simp [intOf]; omega
                      · have h5' : decide (x.lo ≤ x.hi) = false := by simpa using h5
                        go_wp2
                        go_quiet (fail)
                        go_wp2
                        go_roundw
                        case rel => exact ⟨i + 1, by omega, by go_num, below_drewN HB8.out _⟩
                        case measure => simp [intOf]; omega
                    · have h4' : decide (0 ≤ x.lo) = false := by simpa using h4
                      go_wp2
                      go_quiet (fail)
                      go_wp2
                      go_roundw
                      case rel => exact ⟨i + 1, by omega, by go_num, below_drewN HB8.out _⟩
                      case measure => simp [intOf]; omega
                · have hop : one t ss p = [] := by
                    unfold one taken
                    rw [if_neg h1]
                    split
                    · rename_i s hs
                      have hl := (List.getElem?_eq_some_iff.1 hs).1
                      have := hk.out
                      exact if_neg (by omega)
                    · rfl
                  have hn40 : n4 = 0 := by rw [hn4.out, hop]; rfl
                  subst hn40
                  clear hop h1
                  by_cases h0 : 0 ≤ p.group
                  · have h2a : decide (p.group < (k : Int)) = false := by simp; omega
                    have h0' : decide (0 ≤ p.group) = true := by simpa using h0
                    go_wp2
                    go_quiet (fail)
                    go_wp2
                    go_roundw
                    case rel => exact ⟨i + 1, by omega, by go_num, below_drewN HB8.out _⟩
                    case measure => simp [intOf]; omega
                  · have h0' : decide (0 ≤ p.group) = false := by simpa using h0
                    go_wp2
                    go_quiet (fail)
                    go_wp2
                    go_roundw
                    case rel => exact ⟨i + 1, by omega, by go_num, below_drewN HB8.out _⟩
                    case measure => simp [intOf]; omega
          · obtain rfl : i = n := by omega
            go_wp2
            go_ret
            exact ⟨rfl, HBW.out⟩
end
end Go.Proofs.Ytebbilkkacbfjaa
