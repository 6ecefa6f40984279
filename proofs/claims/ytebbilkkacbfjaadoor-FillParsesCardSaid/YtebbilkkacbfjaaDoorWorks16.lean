/- The marks of a text, and the one known run: the walks of signs and works. No conditions. -/
import Derived.Test.YtebbilkkacbfjaaDoorProg
import Derived.Test.YtebbilkkacbfjaaDoorParse
import Derived.Test.YtebbilkkacbfjaaDoorExpand
import Derived.WalkKit
import Derived.WalkSpells
import Derived.Deep.QuietTactic
import Derived.BigQuiet
import Derived.Lib.Hide
import Derived.Lib.SlBytesConst
import Derived.Deep.DeepMust
namespace Go.Proofs.YtebbilkkacbfjaaDoor
open Go.RowKit

theorem stMarks : SliceType Tryd.prog 22 34 2 2 := SliceType.mk' (z := .agg #[.int .u8 0, .bool false]) Tryd.underlying22 (by kernel_rfl) rfl (by omega)
def signs (l : List UInt8) : List Mark := l.map fun b => ⟨b, false⟩

set_option maxHeartbeats 1000000 in
theorem signs_any (s : ByteArray) (w : World) (hs : s.size ≤ 4294967296) :
    Calls Tryd.prog 37 #[.string s] w fun e w' => ∃ v, e = .returned v ∧ Own Rep.mark 34 w' w.heap.size nob v (signs s.data.toList) ∧ Below w.heap.size w w' := by
  go_enter Tryd.func37, Tryd.ntmps37
  go_wp2
  go_loopw [3, 4] (fun v i wr => ∃ (k : Nat), k ≤ s.size ∧ i = .int .i64 k ∧ Own Rep.mark 34 wr w.heap.size nob v (signs (s.data.toList.take k)) ∧ Below w.heap.size w wr) (fun _ i _ => s.size - (intOf i).toNat)
  case atStart => exact ⟨0, Nat.zero_le _, rfl, Own.nil _ _ _ _, Below.refl _ _⟩
  case round =>
    obtain ⟨k, hk, rfl, ho, hbw⟩ := hrel
    have hz := hbw.size
    have HO := Lib.hid ho
    have HBW := Lib.hid hbw
    by_cases hlt : k < s.size
    · have hsn : signs (s.data.toList.take (k + 1)) = signs (s.data.toList.take k) ++ [⟨s[k], false⟩] := by
        unfold signs
        rw [List.take_succ_eq_append_getElem (by simpa using hlt), List.map_append]
        rfl
      have hln : (signs (s.data.toList.take k)).length ≤ k := by simp [signs]; omega
      have HSN := Lib.hid hsn
      clear hsn ho hbw
      have hnew := SliceAt.new1 Rep.mark wr 34 #[.int .u8 s[k].toNat, .bool false] ⟨s[k], false⟩ nob ⟨[.int .u8 s[k].toNat], [.bool false], rfl, rfl, rfl⟩ (fun _ h => h.elim)
      have HNEW := Lib.hid hnew
      clear hnew
      go_wp2_with (at_builtin; refine wpList_append_Own _ rfl (.tmp 11) (.tmp 16) 22 rfl Rep.mark w.heap.size 34 2 stMarks nob _ _ rfl (HO.out.alloc _) _ _ _ [⟨s[k], false⟩] rfl HNEW.out nob (fun _ h => h.elim) (fun _ h => h) (fun _ _ h => h) (by simp; omega) (by simp; omega) (by simp; omega) ?_; intro v1 w1 hown1 hg1 hat1)
      have hb1 := below_own (HBW.out.alloc hz _) (HO.out.alloc _) hg1 (by simp; omega)
      go_roundw
      case rel => exact ⟨k + 1, by omega, by go_num, by rw [HSN.out]; exact hown1, hb1⟩
      case measure => simp [intOf]; omega
    · obtain rfl : k = s.size := by omega
      rw [List.take_of_length_le (by simp)] at ho
      go_wp2
      go_ret
      exact ⟨_, rfl, ho, hbw⟩

theorem parse_n (A : Option Addr) (n c : Nat) (l : List Mark) (w : World) (hn : n = l.length) (hl : SliceAt Rep.mark w (under w.heap.size) A c l) (hb : l.length ≤ 4294967296) :
    Calls Tryd.prog 9 #[.slice A n c] w fun e w' => Parsed w n (parse l) e w' ∧ Below w.heap.size w w' := by subst hn; exact parse_any A c l w hl hb
theorem known : parse (signs [60, 92, 49, 62, 38]) = some [⟨-1, [60]⟩, ⟨1, []⟩, ⟨-1, [62]⟩, ⟨0, []⟩] := by rfl
theorem known2 : expand [⟨-1, [60]⟩, ⟨1, []⟩, ⟨-1, [62]⟩, ⟨0, []⟩] [97, 98, 99] [⟨0, 3⟩, ⟨1, 2⟩] = [60, 98, 62, 97, 98, 99] := by rfl

theorem POwn.read {w : World} {base : Nat} {v : Value} {l : List Piece} (h : POwn w base v l) : ∃ A n c, v = .slice A n c ∧ Hid (n = l.length) ∧ n ≤ c ∧ c ≤ 9223372036854775807 ∧ SliceAt Rep.piece w (btw base w.heap.size) A c l := by
  obtain ⟨A, c, e, hs⟩ := h.slice
  exact ⟨A, _, c, e, Lib.hid rfl, hs.len, hs.max, hs⟩

theorem known_parse (A : Option Addr) (n c : Nat) (w : World) (hn : n = (signs [60, 92, 49, 62, 38]).length) (hl : SliceAt Rep.mark w (under w.heap.size) A c (signs [60, 92, 49, 62, 38])) :
    Calls Tryd.prog 9 #[.slice A n c] w fun e w' => ∃ A1 c1, e = .returned (.tuple #[.slice A1 4 c1, .int .i64 0, .int .i64 0]) ∧
      SliceAt Rep.piece w' (btw w.heap.size w'.heap.size) A1 c1 [⟨-1, [60]⟩, ⟨1, []⟩, ⟨-1, [62]⟩, ⟨0, []⟩] ∧ Below w.heap.size w w' := by
  refine (parse_n A n c _ w hn hl (by simp [signs])).mono fun e w' ⟨hp, hb⟩ => ?_
  rw [known] at hp
  obtain ⟨v, rfl, ho⟩ := hp
  obtain ⟨A1, n1, c1, rfl, hn1, -, -, hs⟩ := ho.read
  exact ⟨A1, c1, by rw [hn1.out]; rfl, hs, hb⟩

theorem known_expand (A T S : Option Addr) (ca ct cs : Nat) (w : World) (hp : SliceAt Rep.piece w (under w.heap.size) A ca [⟨-1, [60]⟩, ⟨1, []⟩, ⟨-1, [62]⟩, ⟨0, []⟩]) (ht : SliceAt Rep.byte w (under w.heap.size) T ct [97, 98, 99])
    (hs : SliceAt Rep.span w (under w.heap.size) S cs [⟨0, 3⟩, ⟨1, 2⟩]) :
    Calls Tryd.prog 22 #[.slice A 4 ca, .slice T 3 ct, .slice S 2 cs] w fun e w' => ∃ A1 c1, e = .returned (.slice A1 6 c1) ∧ SliceAt Rep.byte w' (btw w.heap.size w'.heap.size) A1 c1 [60, 98, 62, 97, 98, 99] ∧ Below w.heap.size w w' := by
  refine (expand_any A T S ca ct cs _ _ _ w hp ht hs (by rw [known2]; decide)).mono fun e w' ⟨v, he, ho, hb⟩ => ?_
  rw [known2] at ho
  obtain ⟨A1, n1, c1, rfl, hn1, -, -, hs⟩ := ho.read
  exact ⟨A1, c1, by rw [he, hn1.out]; rfl, hs, hb⟩

/-- What the two lists in works are. -/
theorem lit_spans (w : World) (e : TypeId) : SliceAt Rep.span (w.alloc (.cells #[.int .i64 0, .int .i64 3, .int .i64 1, .int .i64 2] e)) (under (w.heap.size + 1)) (some ⟨w.heap.size, 0, none⟩) 2 [⟨0, 3⟩, ⟨1, 2⟩] := by
  refine (SliceAt.newRow Rep.span w e _ [⟨0, 3⟩, ⟨1, 2⟩] nob 2 2 rfl (by omega) (by simp [maxLen]) (fun i hi => ?_) (fun _ h => h.elim)).up fun b hb => by rcases hb with rfl | h; exact Nat.lt_succ_self _; exact h.elim
  match i, hi with
  | 0, _ => exact ⟨[.int .i64 0], [.int .i64 3], rfl, ⟨rfl, rfl⟩, ⟨rfl, rfl⟩⟩
  | 1, _ => exact ⟨[.int .i64 1], [.int .i64 2], rfl, ⟨rfl, rfl⟩, ⟨rfl, rfl⟩⟩

set_option maxHeartbeats 1000000 in
theorem works_any (w : World) : Calls Tryd.prog 6 #[] w fun e w' => e = .returned (.bool true) ∧ Below w.heap.size w w' := by
  have kc := fun (w : World) (C : Array Value) (n c : Nat) => Lib.run_convert_bytes_const (P := Tryd.prog) w 58 5 C n c Tryd.underlying58 Tryd.underlying5
  go_enter Tryd.func6, Tryd.ntmps6
  go_wp2_with fail
  refine (signs_any _ _ (by decide)).mono ?_
  rintro e w1 ⟨v1, rfl, ho1, hb1⟩
  obtain ⟨A1, n1, c1, rfl, hn1, -, -, hs1⟩ := ho1.read
  have hs1' := hs1.up (btw_under (Nat.le_refl _))
  have HS1 := Lib.hid hs1'
  have HB1 := Lib.hid hb1
  clear ho1 hb1 hs1 hs1'
  go_wp2_with fail
  refine (known_parse _ _ _ _ hn1.out HS1.out).mono ?_
  rintro e w2 ⟨A2, c2, rfl, hs2, hb2⟩
  have HS2 := Lib.hid (hs2.up (btw_under (Nat.le_refl _)))
  have HB2 := Lib.hid hb2
  clear hs2 hb2
  go_wp2_with fail
  have hba : Below w2.heap.size w2 ((w2.alloc (.cells #[.int .u8 97, .int .u8 98, .int .u8 99] 5 (3, 4))).alloc (.cells #[.int .i64 0, .int .i64 3, .int .i64 1, .int .i64 2] 78)) := ((Below.refl _ w2).alloc (Nat.le_refl _) _).alloc (by simp) _
  have HBA := Lib.hid hba
  clear hba
  have hsp := lit_spans (w2.alloc (.cells #[.int .u8 97, .int .u8 98, .int .u8 99] 5 (3, 4))) 78
  have hsz : (w2.alloc (.cells #[.int .u8 97, .int .u8 98, .int .u8 99] 5 (3, 4))).heap.size = w2.heap.size + 1 := by simp
  rw [hsz] at hsp
  refine (known_expand _ _ _ _ _ _ _ ((HS2.out.below HBA.out (Nat.le_refl _)).up fun b (hb : b < _) => by simp [under]; omega)
    (((SliceAt.newBytes w2 _ _ [97, 98, 99] 3 (by simp) (by simp [maxLen]) rfl (3, 4)).below (B' := w2.heap.size + 1) ((Below.refl _ _).alloc (by simp) _) (Nat.le_refl _)).up fun b (hb : b < _) => by simp [under] at hb ⊢; omega) (hsp.up fun b (hb : b < _) => by simp [under] at hb ⊢; omega)).mono ?_
  rintro e w3 ⟨A3, c3, rfl, hs3, hb3⟩
  have hcv := run_bytes_string (P := Tryd.prog) w3 58 5 9 Tryd.underlying58 Tryd.underlying5 Tryd.underlying9 _ A3 6 c3 [60, 98, 62, 97, 98, 99] rfl hs3
  have HB3 := Lib.hid hb3
  clear hs3 hb3
  go_wp2_with fail
  go_ret
  refine ⟨rfl, ?_⟩
  have h1 := HB1.out
  have h2 := HB2.out.mono h1.size
  have h3 := HBA.out.mono (Nat.le_trans h1.size h2.size)
  exact ((h1.trans h2).trans h3).trans (HB3.out.mono (((h1.trans h2).trans h3).size))
end Go.Proofs.YtebbilkkacbfjaaDoor
