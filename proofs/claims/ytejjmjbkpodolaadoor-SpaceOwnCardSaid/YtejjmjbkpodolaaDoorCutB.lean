/- bytes.Cut at one byte, in the reading of a slice as a list; a slice of one byte just made. Condition: room. -/
import Derived.Test.YtejjmjbkpodolaaDoorClone
import Derived.Test.YtejjmjbkpodolaaDoorStBytes
import Derived.Test.YtejjmjbkpodolaaDoorSpacePlain
import Derived.Lib.SlBytesConst
namespace Go.Proofs.YtejjmjbkpodolaaDoor
open Go.RowKit Go.ChangeShapes Go.WideShapes Go.Deep

theorem oneByte (w : World) (x : Int) (c : UInt8) (hx : x = c.toNat) (B : Nat) (hB : w.heap.size < B) : SliceAt Rep.byte (w.alloc (.cells #[.int .u8 x] 5)) (under B) (some ⟨w.heap.size, 0, none⟩) 1 [c] := by
  subst hx
  exact (SliceAt.newBytes w 5 _ [c] 1 (by simp) (by simp [maxLen]) rfl).up fun b hb => Nat.lt_of_lt_of_le hb hB
theorem bytesOf_back (l : List UInt8) : Lib.bytesOf (l.map fun b => (b.toNat : Int)) = l := by
  unfold Lib.bytesOf
  rw [List.map_map]
  conv => rhs; rw [← List.map_id l]
  exact List.map_congr_left fun b _ => by simp
theorem index_in {l : List UInt8} (h : (10 : UInt8) ∈ l) : Lib.indexByte l 10 = ((Space.firstR l).length : Int) := by
  induction l with
  | nil => simp at h
  | cons x r ih =>
    by_cases hx : x = 10
    · subst hx; simp [Lib.indexByte, Space.firstR]
    · have hr : (10 : UInt8) ∈ r := by simpa [Ne.symm hx] using h
      have hi := ih hr
      have e2 : Lib.indexByte (x :: r) 10 = if x == 10 then 0 else if Lib.indexByte r 10 == -1 then -1 else Lib.indexByte r 10 + 1 := rfl
      rw [e2, hi]
      have hx' : (x == 10) = false := by simpa using hx
      have hn : (((Space.firstR r).length : Int) == -1) = false := by rw [beq_eq_false_iff_ne]; omega
      rw [hx', hn]
      unfold Space.firstR
      rw [List.takeWhile_cons_of_pos (by simpa using hx)]
      simp
theorem index_out {l : List UInt8} (h : (10 : UInt8) ∉ l) : Lib.indexByte l 10 = -1 := by
  induction l with
  | nil => rfl
  | cons x r ih =>
    have hx : (x == 10) = false := by rw [beq_eq_false_iff_ne]; rintro rfl; simp at h
    have e2 : Lib.indexByte (x :: r) 10 = if x == 10 then 0 else if Lib.indexByte r 10 == -1 then -1 else Lib.indexByte r 10 + 1 := rfl
    rw [e2, ih (by intro h'; exact h (by simp [h'])), hx]
    rfl
section
variable (A : Option Addr) (n c g d : Nat) (l : List UInt8) (w : World) (S : Blocks)
/-- What bytes.Index says of a line end. -/
theorem index10 (hn : Hid (n = l.length)) (hl : Hid (SliceAt Rep.byte w S A c l)) (hg : w.cell? ⟨g, 0, none⟩ = some (.int .u8 10)) :
    Calls Tryd.prog 55 #[.slice A n c, .slice (some ⟨g, 0, none⟩) 1 d] w fun e w' => e = .returned (.int .i64 (Lib.indexByte l 10)) ∧ w' = w := by
  cases A with
  | none =>
    have hc : c = 0 := hl.out.2.2.1 rfl
    have h0 : l = [] := List.eq_nil_of_length_eq_zero (by have := hl.out.len; omega)
    subst h0
    obtain rfl : n = 0 := hn.out
    subst hc
    exact Tryd.bytes_Index_one_nil g 0 d 10 w hg
  | some a =>
    have h := Tryd.bytes_Index_one_at a n c g 0 d (l.map fun b => (b.toNat : Int)) 10 w (by simp [hn.out]) (fun i hi => by
      have hil : i < l.length := by rw [← hn.out]; exact hi
      obtain ⟨g', o, he, -, hc⟩ := hl.out.byte hil
      simp only [Option.some.injEq] at he
      subst he
      rw [add_plain, hc]
      simp [List.getD, hil]) hg
    rw [bytesOf_back] at h
    exact h
theorem cut10_yes (k : Nat) (hn : Hid (n = l.length)) (hl : Hid (SliceAt Rep.byte w S A c l)) (hg : w.cell? ⟨g, 0, none⟩ = some (.int .u8 10)) (hb : n ≤ 1099511627776) (hin : Hid ((10 : UInt8) ∈ l)) (hk : Hid (k = (Space.firstR l).length)) :
    Calls Tryd.prog 28 #[.slice A n c, .slice (some ⟨g, 0, none⟩) 1 d] w fun e w' => e = .returned (.tuple #[.slice A k c, .slice (cutA A c (k + 1) 1) (n - (k + 1)) (c - (k + 1)), .bool true]) ∧ Below w.heap.size w w' := by
  have hi := index10 A n c g d l w S hn hl hg
  rw [index_in hin.out, ← hk.out] at hi
  have hkn : k + 1 ≤ n := by have h1 := Space.cut_parts hin.out; have h2 := congrArg List.length h1; rw [← hn.out, List.length_append, ← hk.out, List.length_cons] at h2; omega
  refine (Tryd.bytes_Cut_of A (some ⟨g, 0, none⟩) n c 1 d (k : Int) w (by rw [hn.out]; exact hl.out.len) (by omega) (by omega) (by omega) (hi.mono fun e w' ⟨h1, h2⟩ => ⟨h1, 0, h2⟩)).mono ?_
  rintro e w' ⟨rfl, q, rfl⟩
  refine ⟨?_, below_drewN w q⟩
  unfold Lib.cutV Lib.fromV cutA
  rw [if_pos (by omega)]
  simp
theorem cut10_no (hn : Hid (n = l.length)) (hl : Hid (SliceAt Rep.byte w S A c l)) (hg : w.cell? ⟨g, 0, none⟩ = some (.int .u8 10)) (hb : n ≤ 1099511627776) (hin : Hid ((10 : UInt8) ∉ l)) :
    Calls Tryd.prog 28 #[.slice A n c, .slice (some ⟨g, 0, none⟩) 1 d] w fun e w' => e = .returned (.tuple #[.slice A n c, .slice none 0 0, .bool false]) ∧ Below w.heap.size w w' := by
  have hi := index10 A n c g d l w S hn hl hg
  rw [index_out hin.out] at hi
  refine (Tryd.bytes_Cut_of A (some ⟨g, 0, none⟩) n c 1 d (-1) w (by rw [hn.out]; exact hl.out.len) (by omega) (by omega) (by omega) (hi.mono fun e w' ⟨h1, h2⟩ => ⟨h1, 0, h2⟩)).mono ?_
  rintro e w' ⟨rfl, q, rfl⟩
  refine ⟨?_, below_drewN w q⟩
  unfold Lib.cutV
  rw [if_neg (by omega)]
end
end Go.Proofs.YtejjmjbkpodolaaDoor
