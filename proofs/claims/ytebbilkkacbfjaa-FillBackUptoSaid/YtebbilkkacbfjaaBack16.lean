/- Pieces that are well shaped come back: the walk of galleylaw16.back. Condition: what they are made of is at most 2^31. -/
import Derived.Test.YtebbilkkacbfjaaProg
import Derived.Test.YtebbilkkacbfjaaPrint2
import Derived.Test.YtebbilkkacbfjaaEqPieces
import Derived.Test.YtebbilkkacbfjaaWorks16
import Derived.WalkKit
import Derived.WalkSpells
import Derived.Deep.QuietTactic
import Derived.BigQuiet
import Derived.Lib.Hide
import Derived.Deep.DeepMust
namespace Go.Proofs.Ytebbilkkacbfjaa
open Go.RowKit

theorem SliceAt.grow' {α : Type} {r : Rep α} {w w1 : World} {A : Option Addr} {c : Nat} {l : List α} (h : SliceAt r w (under w.heap.size) A c l) (hb : Below w.heap.size w w1) : SliceAt r w1 (under w1.heap.size) A c l :=
  (h.below hb (Nat.le_refl _)).up fun _ h => Nat.lt_of_lt_of_le h hb.size
theorem print_n (A : Option Addr) (ca n : Nat) (l : List Piece) (w : World) (hn : Hid (n = l.length)) (hp : SliceAt Rep.piece w (under w.heap.size) A ca l) (hs : shaped l = true) (hw : wt l ≤ 2147483648) :
    Calls Try.prog 14 #[.slice A n ca] w fun e w' => ∃ A1 n1 c1, e = .returned (.tuple #[.slice A1 n1 c1, .int .i64 0]) ∧ Hid (n1 = (bare (printed l)).length) ∧ n1 ≤ c1 ∧ c1 ≤ 9223372036854775807 ∧ SliceAt Rep.mark w' (under w'.heap.size) A1 c1 (bare (printed l)) ∧ Below w.heap.size w w' := by
  refine (print_any A ca n l w hn.out hp hs hw).mono ?_
  rintro e w' ⟨v, rfl, ho, hb⟩
  obtain ⟨A1, n1, c1, rfl, hn1, h1, h2, hs⟩ := ho.read
  exact ⟨A1, n1, c1, rfl, hn1, h1, h2, hs.up (btw_under (Nat.le_refl _)), hb⟩
theorem shaped_n (A : Option Addr) (ca n : Nat) (l : List Piece) (w : World) (b : Bool) (hn : Hid (n = l.length)) (hp : SliceAt Rep.piece w (under w.heap.size) A ca l) (hs : shaped l = b) :
    Calls Try.prog 13 #[.slice A n ca] w fun e w' => e = .returned (.bool b) ∧ Below w.heap.size w w' := by
  rw [hn.out, ← hs]; exact shaped_any A ca l w hp
/-- Parse of what it reads. -/
theorem parse_some (A : Option Addr) (n c : Nat) (l : List Mark) (q : List Piece) (w : World) (hn : Hid (n = l.length)) (hl : SliceAt Rep.mark w (under w.heap.size) A c l) (hb : l.length ≤ 4294967296) (hq : parse l = some q) :
    Calls Try.prog 11 #[.slice A n c] w fun e w' => ∃ A1 n1 c1, e = .returned (.tuple #[.slice A1 n1 c1, .int .i64 0, .int .i64 0]) ∧ Hid (n1 = q.length) ∧ n1 ≤ c1 ∧ c1 ≤ 9223372036854775807 ∧ SliceAt Rep.piece w' (under w'.heap.size) A1 c1 q ∧ Below w.heap.size w w' := by
  refine (parse_n A n c l w hn.out hl hb).mono fun e w' ⟨hp, hb⟩ => ?_
  rw [hq] at hp
  obtain ⟨v, rfl, ho⟩ := hp
  obtain ⟨A1, n1, c1, rfl, hn1, h1, h2, hs⟩ := ho.read
  exact ⟨A1, n1, c1, rfl, hn1, h1, h2, hs.up (btw_under (Nat.le_refl _)), hb⟩

set_option maxRecDepth 100000 in
set_option maxHeartbeats 4000000 in
theorem back_any (A : Option Addr) (n ca : Nat) (l : List Piece) (w : World) (hn : Hid (n = l.length)) (hp : SliceAt Rep.piece w (under w.heap.size) A ca l) (hs : shaped l = true) (hw : wt l ≤ 2147483648) :
    Calls Try.prog 12 #[.slice A n ca] w fun e w' => e = .returned (.bool true) ∧ Below w.heap.size w w' := by
  have HP := Lib.hid hp
  have HS := Lib.hid hs
  have HW := Lib.hid hw
  have hT := printed_ten l hs
  have hpp := parse_print l hs
  have hpl := printed_len l
  have HT := Lib.hid hT
  have HPP := Lib.hid hpp
  have HPL := Lib.hid hpl
  have h1 := hp.len
  have h2 := hp.max
  rw [← hn.out] at h1
  clear hp hs hw hT hpp hpl
  go_enter Try.func12, Try.ntmps12
  go_wp2_with fail
  refine (print_n _ _ _ l _ hn HP.out HS.out HW.out).mono ?_
  rintro e w1 ⟨A1, n1, c1, rfl, hn1, h3, h4, hm, hb1⟩
  have HM := Lib.hid hm
  have HB1 := Lib.hid hb1
  clear hm hb1
  go_wp2_with fail
  refine (shaped_n _ _ _ l _ true hn (HP.out.grow' HB1.out) HS.out).mono ?_
  rintro e w2 ⟨rfl, hb2⟩
  have HB2 := Lib.hid hb2
  have hb12 := HB1.out.trans (hb2.mono HB1.out.size)
  have HB12 := Lib.hid hb12
  have hm2 := HM.out.grow' hb2
  have HM2 := Lib.hid hm2
  clear hb2 hb12 hm2
  go_wp2_with fail
  go_loopw [5] (fun i wr => ∃ (k : Nat), k ≤ n1 ∧ i = .int .i64 k ∧ Below w2.heap.size w2 wr) (fun i _ => n1 - (intOf i).toNat)
  case atStart => exact ⟨0, Nat.zero_le _, rfl, Below.refl _ _⟩
  case round =>
    obtain ⟨k, hk, rfl, hbw⟩ := hrel
    have HBW := Lib.hid hbw
    by_cases hlt : k < n1
    · have hkl : k < (bare (printed l)).length := by have := hn1.out; omega
      obtain ⟨g1, o1, rfl, hc0, hc1⟩ := mark_at HM2.out (Same.of_below hbw fun _ h => h) hkl
      have hpl : (bare (printed l))[k].plain = false := by simp [bare]
      have hten : ((bare (printed l))[k].byte.toNat : Int) ≠ 10 := by
        have hk2 : k < (printed l).length := by simpa [bare] using hkl
        have e : (bare (printed l))[k].byte = (printed l)[k] := by simp [bare]
        have := HT.out _ (List.getElem_mem hk2)
        rw [e]; omega
      obtain ⟨b, hb⟩ : ∃ b, b = (bare (printed l))[k].byte.toNat := ⟨_, rfl⟩
      rw [hpl] at hc1
      rw [← hb] at hc0 hten
      have hten' : ((b : Int) == 10) = false := by rw [beq_eq_false_iff_ne]; exact hten
      clear hpl hb hbw
      go_wp2
      go_roundw
      case rel => exact ⟨k + 1, by omega, by go_num, HBW.out⟩
      case measure => simp [intOf]; omega
    · obtain rfl : k = n1 := by omega
      clear hbw
      go_wp2_with fail
      refine (parse_some _ _ _ (bare (printed l)) l _ hn1 (HM2.out.grow' HBW.out) (by have := HPL.out; have := HW.out; simp [bare]; omega) HPP.out).mono ?_
      rintro e w3 ⟨A2, n2, c2, rfl, hn2, h5, h6, hq, hb3⟩
      have HQ := Lib.hid hq
      have HB3 := Lib.hid hb3
      obtain rfl : n2 = n := hn2.out.trans hn.out.symm
      clear hq hb3
      go_wp2_with fail
      refine (eqPieces_true _ _ _ _ _ l _ hn HQ.out (((HP.out.grow' HB12.out).grow' HBW.out).grow' HB3.out)).mono ?_
      rintro e w4 ⟨rfl, hb4⟩
      have HB4 := Lib.hid hb4
      clear hb4
      go_wp2_with fail
      go_ret
      have a := HB12.out
      have b := a.trans (HBW.out.mono a.size)
      have c := b.trans (HB3.out.mono b.size)
      exact ⟨rfl, c.trans (HB4.out.mono c.size)⟩
end Go.Proofs.Ytebbilkkacbfjaa
